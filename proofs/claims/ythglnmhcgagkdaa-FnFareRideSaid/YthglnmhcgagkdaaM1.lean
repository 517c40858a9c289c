/- Walks: copies of nets and of lists. -/
import Derived.Test.YthglnmhcgagkdaaM0
import Derived.Test.YthglnmhcgagkdaaG1
namespace Go.Proofs.Ythglnmhcgagkdaa
open Go.RowKit
def MadeA (L : List Arc) (w : World) (e : Ending) (w' : World) : Prop := ∃ v, e = .returned v ∧ OA w' w.heap.size v L ∧ Below w.heap.size w w'
theorem gb_below_new1 {w w1 : World} (h : w.grownBy w1 none) : Below w.heap.size w w1 := ⟨h.os, h.tape, h.output, h.size, fun k hk => h.block k hk (by simp)⟩
set_option maxHeartbeats 1000000 in
set_option maxRecDepth 100000 in
theorem c_toArcS (A : Option Addr) (c : Nat) (L : List Arc) (w : World) (hA : ArcsAt w A L) (hl : L.length ≤ 1048576) :
    Calls Try.prog 83 #[.slice A L.length c] w (MadeA L w) := by
  have hHA := Lib.hid hA
  clear hA
  go_enter Try.func83, Try.ntmps83
  go_wp2_with ((refine mk_arcs w.heap.size rfl _ _ rfl L.length (L.length : Int) rfl rfl rfl (by omega) (Nat.le_refl _) ?_); intro W1 hO1 hg1)
  have hB1 := gb_below_new1 hg1
  clear hg1
  go_loopw [4] (fun v4 wr => ∃ k : Nat, k ≤ L.length ∧ v4 = .int .i64 k ∧ OA wr w.heap.size (.slice (some ⟨w.heap.size, 0, none⟩) L.length L.length) (L.take k ++ List.replicate (L.length - k) arcD) ∧ Below w.heap.size w wr) (fun v4 _ => L.length - (intOf v4).toNat)
  case atStart => exact ⟨0, Nat.zero_le _, rfl, by simpa using hO1, hB1⟩
  case round =>
    clear hO1 hB1
    obtain ⟨k, hk, rfl, hO, hB⟩ := hrel
    by_cases hlt : k < L.length
    · have hltI : (k : Int) < (L.length : Int) := by omega
      have hk0 : (0 : Int) ≤ (k : Int) := by omega
      obtain ⟨g, o, e, hg0, _⟩ := hHA.out.at (by omega)
      obtain ⟨_, _, e', hg, hac⟩ := (hHA.out.below hB).at (by omega)
      rw [e] at e'
      injection e' with e'
      injection e' with e1 e2
      subst e1 e2 e
      obtain ⟨a0, a1, a2, a3, a4⟩ := hac k hlt
      clear hac
      have hst := fill_step L arcD k hlt
      obtain ⟨a, ha⟩ : ∃ a, a = L.getD k arcD := ⟨_, rfl⟩
      rw [← ha] at a0 a1 a2 a3 a4 hst
      have HST := Lib.hid hst
      have hfl := fill_len L arcD k hk
      have HFL := Lib.hid hfl
      have HO := Lib.hid hO
      have HB := Lib.hid hB
      clear ha hst hfl hO hB
      obtain ⟨fr, tt, co, tl, ld⟩ := a
      dsimp only at a0 a1 a2 a3 a4
      go_wp2_with fail
      refine (c_toArc ⟨fr, tt, co, tl, ld⟩ wr).mono ?_
      rintro e w5 ⟨rfl, hb5⟩
      unfold Arc.val
      have O5 := HO.out.below hb5
      have HO5 := Lib.hid O5
      have hO5' : OA w5 w.heap.size (.slice (some ⟨w.heap.size, 0, none⟩) (L.take k ++ List.replicate (L.length - k) arcD).length L.length) (L.take k ++ List.replicate (L.length - k) arcD) := by rw [HFL.out]; exact O5
      obtain ⟨g5, cap5, e5, _, hg5, hc5, hf5⟩ := hO5'.at (by rw [HFL.out]; omega)
      injection e5 with e1 e2 e3
      injection e1 with e1
      injection e1 with e1
      subst e1
      clear e2 e3
      obtain ⟨x0, x1, x2, x3, x4⟩ := hc5 k (by rw [HFL.out]; exact hlt)
      have f0 := hf5 (k * 5)
      have f1 := hf5 (k * 5 + 1)
      have f2 := hf5 (k * 5 + 2)
      have f3 := hf5 (k * 5 + 3)
      have f4 := hf5 (k * 5 + 4)
      have HP := Lib.hid (hO5'.put k ⟨fr, tt, co, tl, ld⟩ (by rw [HFL.out]; exact hlt))
      rw [HFL.out, HST.out] at HP
      have HB5 := Lib.hid (((((below_of HB.out hb5).setCell (p := ⟨w.heap.size, k * 5, none⟩) (Nat.le_refl _) (.int .i64 fr)).setCell (p := ⟨w.heap.size, k * 5 + 1, none⟩) (Nat.le_refl _) (.int .i64 tt)).setCell (p := ⟨w.heap.size, k * 5 + 2, none⟩) (Nat.le_refl _) (.int .i64 co)).setCell (p := ⟨w.heap.size, k * 5 + 3, none⟩) (Nat.le_refl _) (.int .i64 tl))
      have HB6 := Lib.hid (HB5.out.setCell (p := ⟨w.heap.size, k * 5 + 4, none⟩) (Nat.le_refl _) (.int .i64 ld))
      clear hO5' O5 hb5 hc5 hf5 HB5 a0 a1 a2 a3 a4
      go_wp2_with fail
      go_roundw
      case rel => exact ⟨k + 1, by omega, by go_num, HP.out, HB6.out⟩
      case measure => simp [intOf]; omega
    · have hltI : ¬ (k : Int) < (L.length : Int) := by omega
      have hkL : k = L.length := by omega
      have HO : Hid (OA wr w.heap.size (.slice (some ⟨w.heap.size, 0, none⟩) L.length L.length) L) := by rw [hkL] at hO; simpa [Hid] using hO
      clear hkL hO
      go_wp2_with fail
      go_ret
      exact ⟨_, rfl, HO.out, hB⟩
def MadeN (nn : Int) (L : List Arc) (w : World) (e : Ending) (w' : World) : Prop := ∃ A c, e = .returned (.agg #[.int .i64 nn, .slice A L.length c]) ∧ L.length ≤ c ∧ OA w' w.heap.size (.slice A L.length c) L ∧ Below w.heap.size w w'
theorem two_set {w : World} {r : Nat} {a b : Value} {t : TypeId} (h : Blk w r #[a, b] t) (x y : Value) : Blk ((w.setCell ⟨r, 0, none⟩ x).setCell ⟨r, 1, none⟩ y) r #[x, y] t := by
  have := (h.set 0 x).set 1 y
  simpa using this
set_option maxHeartbeats 1000000 in
set_option maxRecDepth 100000 in
theorem c_toNet (A : Option Addr) (c : Nat) (nn : Int) (L : List Arc) (w : World) (hA : ArcsAt w A L) (hl : L.length ≤ 1048576) :
    Calls Try.prog 31 #[.agg #[.int .i64 nn, .slice A L.length c]] w (MadeN nn L w) := by
  have hHA := Lib.hid hA
  clear hA
  go_enter Try.func31, Try.ntmps31
  go_upto_region 3 with fail
  have s1 : (w.alloc (.cells #[.int .i64 nn, .slice A L.length c] 53)).heap.size = w.heap.size + 1 := by simp
  have s2 : ((w.alloc (.cells #[.int .i64 nn, .slice A L.length c] 53)).alloc (.cells #[.int .i64 0, .slice none 0 0] 34)).heap.size = w.heap.size + 1 + 1 := by simp
  have BX := ((Blk.new w #[.int .i64 nn, .slice A L.length c] 53).alloc (.cells #[.int .i64 0, .slice none 0 0] 34)).alloc (.cells #[.int .i64 nn, .slice none 0 0] 34)
  have BR := (Blk.new (w.alloc (.cells #[.int .i64 nn, .slice A L.length c] 53)) #[.int .i64 0, .slice none 0 0] 34).alloc (.cells #[.int .i64 nn, .slice none 0 0] 34)
  rw [s1] at BR
  have BO := Blk.new ((w.alloc (.cells #[.int .i64 nn, .slice A L.length c] 53)).alloc (.cells #[.int .i64 0, .slice none 0 0] 34)) #[.int .i64 nn, .slice none 0 0] 34
  rw [s2] at BO
  have H3 := below_alloc (below_alloc (below_new w (.cells #[.int .i64 nn, .slice A L.length c] 53)) (.cells #[.int .i64 0, .slice none 0 0] 34)) (.cells #[.int .i64 nn, .slice none 0 0] 34)
  clear s1 s2
  generalize (((w.alloc (.cells #[.int .i64 nn, .slice A L.length c] 53)).alloc (.cells #[.int .i64 0, .slice none 0 0] 34)).alloc (.cells #[.int .i64 nn, .slice none 0 0] 34)) = W3 at *
  obtain ⟨bo, hbo⟩ : ∃ b, b = w.heap.size + 1 + 1 := ⟨_, rfl⟩
  obtain ⟨br, hbr⟩ : ∃ b, b = w.heap.size + 1 := ⟨_, rfl⟩
  rw [← hbo] at BO ⊢
  rw [← hbr] at BR ⊢
  have hne : bo ≠ br := by omega
  have hbo' : w.heap.size ≤ bo := by omega
  have hbr' : w.heap.size ≤ br := by omega
  obtain ⟨x0, x1⟩ := BX.cells2
  clear hbo hbr BX
  go_wp2_with fail
  refine (c_toArcS A c L W3 (hHA.out.below H3) hl).mono ?_
  rintro e w4 ⟨v, rfl, hO4, hb4⟩
  obtain ⟨A4, c4, rfl, hc4, _⟩ := hO4.shape
  have O4 : OA w4 w.heap.size (.slice A4 L.length c4) L := own_lower hO4 H3.size
  have H4 := below_of H3 hb4
  have R4 := BR.below hb4
  have Q4 := BO.below hb4
  clear hO4 hb4 BR BO H3 x0 x1
  obtain ⟨o0, o1⟩ := Q4.cells2
  have of := Q4.frozen 1
  have Q5 : Blk (w4.setCell ⟨bo, 1, none⟩ (.slice A4 L.length c4)) bo #[.int .i64 nn, .slice A4 L.length c4] 34 := by have := Q4.set 1 (.slice A4 L.length c4); simpa using this
  have R5 := R4.far (p := ⟨bo, 1, none⟩) hne.symm (.slice A4 L.length c4)
  have O5 : OA (w4.setCell ⟨bo, 1, none⟩ (.slice A4 L.length c4)) w.heap.size (.slice A4 L.length c4) L := own_far O4 (p := ⟨bo, 1, none⟩) (own_ne_blk O4 Q4 (by decide)) _
  have H5 := H4.setCell (p := ⟨bo, 1, none⟩) hbo' (.slice A4 L.length c4)
  have HQ5 := Lib.hid Q5
  have HR5 := Lib.hid R5
  have HO5 := Lib.hid O5
  have HH5 := Lib.hid H5
  clear Q5 R5 O5 H5 Q4 R4 O4 H4
  go_upto_region 4 with fail
  generalize w4.setCell ⟨bo, 1, none⟩ (.slice A4 L.length c4) = W5 at *
  clear o0 o1 of
  obtain ⟨o0, o1⟩ := HQ5.out.cells2
  obtain ⟨r0, r1⟩ := HR5.out.cells2
  have rf0 := HR5.out.frozen 0
  have rf1 := HR5.out.frozen 1
  have R6 := two_set HR5.out (.int .i64 nn) (.slice A4 L.length c4)
  have O6 : OA ((W5.setCell ⟨br, 0, none⟩ (.int .i64 nn)).setCell ⟨br, 1, none⟩ (.slice A4 L.length c4)) w.heap.size (.slice A4 L.length c4) L := own_far (own_far HO5.out (p := ⟨br, 0, none⟩) (own_ne_blk HO5.out HR5.out (by decide)) (.int .i64 nn)) (p := ⟨br, 1, none⟩) (own_ne_blk HO5.out HR5.out (by decide)) _
  have H6 := (HH5.out.setCell (p := ⟨br, 0, none⟩) hbr' (.int .i64 nn)).setCell (p := ⟨br, 1, none⟩) hbr' (.slice A4 L.length c4)
  have HR6 := Lib.hid R6
  have HO6 := Lib.hid O6
  have HH6 := Lib.hid H6
  clear R6 O6 H6
  go_wp2_with fail
  obtain ⟨q0, q1⟩ := HR6.out.cells2
  refine bodyPost_ret (v := .agg #[.int .i64 nn, .slice A4 L.length c4]) (by simp [results, Try.results31, go_sem, q0, q1]) rfl ⟨A4, c4, rfl, hc4, HO6.out, HH6.out⟩
/-! ### lists of ints -/
def MadeI (xs : List Int) (w : World) (e : Ending) (w' : World) : Prop := ∃ v, e = .returned v ∧ OI w' w.heap.size v xs ∧ Below w.heap.size w w'
set_option maxHeartbeats 1000000 in
set_option maxRecDepth 100000 in
theorem c_toIntS (A : Option Addr) (c : Nat) (xs : List Int) (w : World) (hA : IntsAt w A xs) (hl : xs.length ≤ 1048576) :
    Calls Try.prog 39 #[.slice A xs.length c] w (MadeI xs w) := by
  have hHA := Lib.hid hA
  clear hA
  go_enter Try.func39, Try.ntmps39
  go_wp2_with ((refine mk_ints w.heap.size rfl _ _ rfl xs.length (xs.length : Int) rfl rfl rfl (by omega) (Nat.le_refl _) ?_); intro W1 hO1 hg1)
  have hB1 := gb_below_new1 hg1
  clear hg1
  go_loopw [4] (fun v4 wr => ∃ k : Nat, k ≤ xs.length ∧ v4 = .int .i64 k ∧ OI wr w.heap.size (.slice (some ⟨w.heap.size, 0, none⟩) xs.length xs.length) (xs.take k ++ List.replicate (xs.length - k) 0) ∧ Below w.heap.size w wr) (fun v4 _ => xs.length - (intOf v4).toNat)
  case atStart => exact ⟨0, Nat.zero_le _, rfl, by simpa using hO1, hB1⟩
  case round =>
    clear hO1 hB1
    obtain ⟨k, hk, rfl, hO, hB⟩ := hrel
    by_cases hlt : k < xs.length
    · have hltI : (k : Int) < (xs.length : Int) := by omega
      have hk0 : (0 : Int) ≤ (k : Int) := by omega
      obtain ⟨g, o, e, hg, hac⟩ := hHA.out.below hB (by omega)
      subst e
      have a0 := hac k hlt
      clear hac
      have hst := fill_step xs 0 k hlt
      obtain ⟨a, ha⟩ : ∃ a, a = xs.getD k 0 := ⟨_, rfl⟩
      rw [← ha] at a0 hst
      have HST := Lib.hid hst
      have hfl := fill_len xs 0 k hk
      obtain ⟨_, _, e, _, hgs, hc5, hf5⟩ := hO.at (by rw [hfl]; omega)
      injection e with e1 e2 e3
      injection e1 with e1
      injection e1 with e1
      subst e1
      clear e2 e3
      have x0 := hc5 k (by rw [hfl]; exact hlt)
      have f0 := hf5 k
      have HP := Lib.hid (hO.set' k a)
      rw [HST.out] at HP
      have HB5 := Lib.hid (hB.setCell (p := ⟨w.heap.size, k, none⟩) (Nat.le_refl _) (.int .i64 a))
      clear ha hst hfl hO hB hc5 hf5
      go_wp2_with fail
      go_roundw
      case rel => exact ⟨k + 1, by omega, by go_num, HP.out, HB5.out⟩
      case measure => simp [intOf]; omega
    · have hltI : ¬ (k : Int) < (xs.length : Int) := by omega
      have hkL : k = xs.length := by omega
      have HO : Hid (OI wr w.heap.size (.slice (some ⟨w.heap.size, 0, none⟩) xs.length xs.length) xs) := by rw [hkL] at hO; simpa [Hid] using hO
      clear hkL hO
      go_wp2_with fail
      go_ret
      exact ⟨_, rfl, HO.out, hB⟩
end Go.Proofs.Ythglnmhcgagkdaa
