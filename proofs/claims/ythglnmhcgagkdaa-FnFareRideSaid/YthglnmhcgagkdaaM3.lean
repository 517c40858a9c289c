/- Walks: marks. -/
import Derived.Test.YthglnmhcgagkdaaM2
namespace Go.Proofs.Ythglnmhcgagkdaa
open Go.RowKit
theorem gb_set_own {w w1 : World} {g : Nat} (h : w.grownBy w1 (some g)) (j : Nat) (u : Value) : w.grownBy (w1.setCell ⟨g, j, none⟩ u) (some g) := gb_trans h (grown_set w1 g j u) (.inl rfl)
set_option maxHeartbeats 1000000 in
set_option maxRecDepth 100000 in
theorem c_markArcS (base : Nat) (v : Value) (L : List Arc) (k0 : Int) (w : World) (hO : OA w base v L) (hl : L.length ≤ 1048576) (h0 : 0 ≤ k0) (h1 : k0 ≤ 100000000) :
    Calls Try.prog 85 #[v, .int .i64 k0] w fun e w' => e = .returned (.int .i64 (k0 + 5 * L.length)) ∧ w.grownBy w' v.ownBlock := by
  obtain ⟨A, c, rfl, hc, _⟩ := hO.shape
  have HO0 := Lib.hid hO
  clear hO
  go_enter Try.func85, Try.ntmps85
  go_wp2_with fail
  go_loopw [1, 5] (fun v1 v5 wr => ∃ (i : Nat) (M : List Arc), i ≤ L.length ∧ v5 = .int .i64 i ∧ v1 = .int .i64 (k0 + 5 * i) ∧ Hid (M.length = L.length) ∧ OA wr base (.slice A L.length c) M ∧ w.grownBy wr (Value.ownBlock (.slice A L.length c))) (fun _ v5 _ => L.length - (intOf v5).toNat)
  case atStart => exact ⟨0, L, Nat.zero_le _, rfl, by simp, rfl, HO0.out, gb_refl _ _⟩
  case round =>
    obtain ⟨i, M, hi, rfl, rfl, hM, hO, hG⟩ := hrel
    by_cases hlt : i < L.length
    · have hltI : (i : Int) < (L.length : Int) := by omega
      have hi0 : (0 : Int) ≤ (i : Int) := by omega
      have hO' : OA wr base (.slice A M.length c) M := by rw [hM.out]; exact hO
      obtain ⟨g, cap, e, hbg, hgs, hcell, hf⟩ := hO'.at (by rw [hM.out]; omega)
      injection e with e1 e2 e3
      subst e1
      clear e2 e3
      obtain ⟨x0, x1, x2, x3, x4⟩ := hcell i (by rw [hM.out]; exact hlt)
      have f0 := hf (i * 5)
      have f1 := hf (i * 5 + 1)
      have f2 := hf (i * 5 + 2)
      have f3 := hf (i * 5 + 3)
      have f4 := hf (i * 5 + 4)
      obtain ⟨k, hk⟩ : ∃ k, k = k0 + 5 * (i : Int) := ⟨_, rfl⟩
      have hk0 : 0 ≤ k := by omega
      have hk1 : k ≤ 200000000 := by omega
      rw [← hk]
      have HK := Lib.hid hk
      have HP := Lib.hid (hO'.put i ⟨k, k + 1, k + 1 + 1, k + 1 + 1 + 1, k + 1 + 1 + 1 + 1⟩ (by rw [hM.out]; exact hlt))
      rw [hM.out] at HP
      have hG1 : w.grownBy wr (some g) := hG
      have HG := Lib.hid (gb_set_own (gb_set_own (gb_set_own (gb_set_own (gb_set_own hG1 (i * 5) (.int .i64 k)) (i * 5 + 1) (.int .i64 (k + 1))) (i * 5 + 2) (.int .i64 (k + 1 + 1))) (i * 5 + 3) (.int .i64 (k + 1 + 1 + 1))) (i * 5 + 4) (.int .i64 (k + 1 + 1 + 1 + 1)))
      clear hO hO' hG hG1 hcell hf hk
      go_wp2_with fail
      go_roundw
      case rel => exact ⟨i + 1, _, by omega, by go_num, by rw [HK.out]; congr 1; omega, by show _ = _; rw [List.length_set]; exact hM.out, HP.out, HG.out⟩
      case measure => simp [intOf]; omega
    · have hltI : ¬ (i : Int) < (L.length : Int) := by omega
      have hiL : i = L.length := by omega
      subst hiL
      have HG := Lib.hid hG
      clear hO hG
      go_wp2_with fail
      go_ret
      exact ⟨rfl, HG.out⟩
theorem c_markNet (base : Nat) (nn : Int) (v : Value) (L : List Arc) (k0 : Int) (w : World) (hO : OA w base v L) (hl : L.length ≤ 1048576) (h0 : 0 ≤ k0) (h1 : k0 ≤ 100000000) :
    Calls Try.prog 34 #[.agg #[.int .i64 nn, v], .int .i64 k0] w fun e w' => e = .returned (.int .i64 (k0 + 5 * L.length)) ∧ w.grownBy w' v.ownBlock := by
  obtain ⟨A, c, rfl, hc, _⟩ := hO.shape
  have O1 := hO.below (below_new w (.cells #[.int .i64 nn, .slice A L.length c] 34))
  have hs1 : (w.alloc (.cells #[.int .i64 nn, .slice A L.length c] 34)).heap.size = w.heap.size + 1 := by simp
  have G1 := World.grownBy_alloc w (.cells #[.int .i64 nn, .slice A L.length c] 34) (Value.ownBlock (.slice A L.length c))
  go_enter Try.func34, Try.ntmps34
  go_wp2_with fail
  refine (c_markArcS base (.slice A L.length c) L k0 _ O1 hl h0 h1).mono ?_
  rintro e w2 ⟨rfl, hg2⟩
  have G2 := gb_trans G1 hg2 (.inl rfl)
  clear G1 hg2 O1 hO
  go_wp2_with fail
  go_ret
  exact ⟨rfl, G2⟩
def Marked (k : Int) (n : Nat) (ys : List Int) : Prop := ys.length = n ∧ ∀ j, j < n → ys.getD j 0 = k + j
set_option maxHeartbeats 1000000 in
set_option maxRecDepth 100000 in
theorem c_markIntS (base : Nat) (v : Value) (xs : List Int) (k0 : Int) (w : World) (hO : OI w base v xs) (hl : xs.length ≤ 1048576) (h0 : 0 ≤ k0) (h1 : k0 ≤ 100000000) :
    Calls Try.prog 35 #[v, .int .i64 k0] w fun e w' => e = .returned (.int .i64 (k0 + xs.length)) ∧ w.grownBy w' v.ownBlock ∧ ∃ ys, Marked k0 xs.length ys ∧ OI w' base v ys := by
  obtain ⟨A, c, rfl, hc, _⟩ := hO.shape
  have HO0 := Lib.hid hO
  clear hO
  go_enter Try.func35, Try.ntmps35
  go_wp2_with fail
  go_loopw [1, 5] (fun v1 v5 wr => ∃ (i : Nat) (M : List Int), i ≤ xs.length ∧ v5 = .int .i64 i ∧ v1 = .int .i64 (k0 + i) ∧ Hid (M.length = xs.length ∧ ∀ j, j < i → M.getD j 0 = k0 + j) ∧ OI wr base (.slice A xs.length c) M ∧ w.grownBy wr (Value.ownBlock (.slice A xs.length c))) (fun _ v5 _ => xs.length - (intOf v5).toNat)
  case atStart => exact ⟨0, xs, Nat.zero_le _, rfl, by simp, ⟨rfl, fun j hj => absurd hj (by omega)⟩, HO0.out, gb_refl _ _⟩
  case round =>
    obtain ⟨i, M, hi, rfl, rfl, hM, hO, hG⟩ := hrel
    by_cases hlt : i < xs.length
    · have hltI : (i : Int) < (xs.length : Int) := by omega
      have hi0 : (0 : Int) ≤ (i : Int) := by omega
      obtain ⟨g, cap, e, hbg, hgs, hcell, hf⟩ := hO.at (by rw [hM.out.1]; omega)
      injection e with e1 e2 e3
      subst e1
      clear e2 e3
      have x0 := hcell i (by rw [hM.out.1]; exact hlt)
      have f0 := hf i
      obtain ⟨k, hk⟩ : ∃ k, k = k0 + (i : Int) := ⟨_, rfl⟩
      have hk0 : 0 ≤ k := by omega
      have hk1 : k ≤ 200000000 := by omega
      rw [← hk]
      have HK := Lib.hid hk
      have HP := Lib.hid (hO.set' i k)
      have HG := Lib.hid (gb_set_own (show w.grownBy wr (some g) from hG) i (.int .i64 k))
      have HN : Hid ((M.set i k).length = xs.length ∧ ∀ j, j < i + 1 → (M.set i k).getD j 0 = k0 + j) := by
        refine ⟨by rw [List.length_set]; exact hM.out.1, fun j hj => ?_⟩
        rw [getD_set_int _ _ _ _ (by rw [hM.out.1]; exact hlt)]
        by_cases e : i = j
        · rw [if_pos e, HK.out, e]
        · rw [if_neg e]; exact hM.out.2 j (by omega)
      clear hO hG hcell hf hk
      go_wp2_with fail
      go_roundw
      case rel => exact ⟨i + 1, _, by omega, by go_num, by rw [HK.out]; congr 1; omega, HN.out, HP.out, HG.out⟩
      case measure => simp [intOf]; omega
    · have hltI : ¬ (i : Int) < (xs.length : Int) := by omega
      have hiL : i = xs.length := by omega
      subst hiL
      have HG := Lib.hid hG
      have HO := Lib.hid hO
      clear hO hG
      go_wp2_with fail
      go_ret
      exact ⟨rfl, HG.out, M, hM.out, HO.out⟩
set_option maxHeartbeats 1000000 in
set_option maxRecDepth 100000 in
theorem c_heldIntS (A : Option Addr) (c n : Nat) (ys : List Int) (k0 : Int) (w : World) (hA : IntsAt w A ys) (hm : Marked k0 n ys) (hl : n ≤ 1048576) (h0 : 0 ≤ k0) (h1 : k0 ≤ 100000000) :
    Calls Try.prog 36 #[.slice A n c, .int .i64 k0] w fun e w' => e = .returned (.int .i64 (k0 + n)) ∧ w = w' := by
  have hHA := Lib.hid hA
  have HM := Lib.hid hm
  clear hA hm
  go_enter Try.func36, Try.ntmps36
  go_wp2_with fail
  go_loop [1, 5] (fun v1 v5 => ∃ i : Nat, i ≤ n ∧ v5 = .int .i64 i ∧ v1 = .int .i64 (k0 + i)) (fun _ v5 => n - (intOf v5).toNat)
  case atStart => exact ⟨0, Nat.zero_le _, rfl, by simp⟩
  case round =>
    obtain ⟨i, hi, rfl, rfl⟩ := hrel
    by_cases hlt : i < n
    · have hltI : (i : Int) < (n : Int) := by omega
      have hi0 : (0 : Int) ≤ (i : Int) := by omega
      obtain ⟨g, o, e, hg, hcell⟩ := hHA.out (by have := HM.out.1; omega)
      subst e
      have x0 := hcell i (by have := HM.out.1; omega)
      rw [HM.out.2 i hlt] at x0
      obtain ⟨k, hk⟩ : ∃ k, k = k0 + (i : Int) := ⟨_, rfl⟩
      have hk0 : 0 ≤ k := by omega
      have hk1 : k ≤ 200000000 := by omega
      rw [← hk] at x0 ⊢
      have HK := Lib.hid hk
      have ee : (k != k) = false := by simp
      clear hcell hk
      go_wp2_with fail
      go_round
      case rel => exact ⟨i + 1, by omega, by go_num, by rw [HK.out]; congr 1; omega⟩
      case measure => simp [intOf]; omega
    · have hltI : ¬ (i : Int) < (n : Int) := by omega
      have hiL : i = n := by omega
      subst hiL
      go_wp2_with fail
      go_ret
      exact ⟨rfl, rfl⟩
end Go.Proofs.Ythglnmhcgagkdaa
