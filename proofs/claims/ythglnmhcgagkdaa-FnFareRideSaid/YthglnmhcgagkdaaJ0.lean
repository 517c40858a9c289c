/- Walks: Index, Contains, equality of lists of ints. -/
import Derived.Test.YthglnmhcgagkdaaA2
namespace Go.Proofs.Ythglnmhcgagkdaa
open Go.RowKit
def hasI (xs : List Int) (v : Int) : Bool := xs.any fun x => x == v
set_option maxHeartbeats 400000 in
set_option maxRecDepth 100000 in
theorem c_IndexI (A : Option Addr) (c : Nat) (xs : List Int) (v : Int) (w : World) (hA : IntsAt w A xs) (hl : xs.length ≤ 140737488351232) :
    Calls Try.prog 128 #[.slice A xs.length c, .int .i64 v] w fun e w' => (∃ r : Int, e = .returned (.int .i64 r) ∧ FirstAt (fun x => x == v) xs 0 r) ∧ w = w' := by
  have hHA := Lib.hid hA
  clear hA
  go_enter Try.func128, Try.ntmps128
  go_wp2
  go_loop [8] (fun v8 => ∃ k : Nat, k ≤ xs.length ∧ v8 = .int .i64 k ∧ Hid (∀ j, j < k → (xs.getD j 0 == v) = false)) (fun v8 => xs.length - (intOf v8).toNat)
  case atStart => exact ⟨0, Nat.zero_le _, rfl, fun j hj => absurd hj (by omega)⟩
  case round =>
    obtain ⟨k, hk, rfl, hn⟩ := hrel
    by_cases hlt : k < xs.length
    · have hltI : (k : Int) < (xs.length : Int) := by omega
      obtain ⟨g, o, e, hg, hc⟩ := hHA.out (by omega)
      subst e
      have hx := hc k hlt
      clear hc
      obtain ⟨x, hxx⟩ : ∃ x, x = xs.getD k 0 := ⟨_, rfl⟩
      rw [← hxx] at hx
      have HX := Lib.hid hxx
      clear hxx
      by_cases e : v = x
      · have e1 : (v == x) = true := by simpa using e
        have HE : Hid ((x == v) = true) := by show _ = _; simpa using e.symm
        clear e
        go_wp2_with fail
        go_ret
        exact ⟨⟨k, rfl, .inr ⟨k, hlt, rfl, by show (xs.getD k 0 == v) = true; rw [← HX.out]; exact HE.out, hn.out⟩⟩, rfl⟩
      · have e1 : (v == x) = false := by simpa using e
        have HE : Hid ((x == v) = false) := by show _ = _; simpa using fun h => e h.symm
        clear e
        go_wp2_with fail
        go_round
        case rel =>
          refine ⟨k + 1, by omega, by go_num, fun j hj => ?_⟩
          rcases Nat.lt_succ_iff_lt_or_eq.1 hj with h | rfl
          · exact hn.out j h
          · rw [← HX.out]; exact HE.out
        case measure => simp [intOf]; omega
    · have hltI : ¬ (k : Int) < (xs.length : Int) := by omega
      go_wp2_with fail
      go_ret
      exact ⟨⟨-1, rfl, .inl ⟨rfl, fun i hi => hn.out i (by omega)⟩⟩, rfl⟩
theorem c_ContainsI (A : Option Addr) (c : Nat) (xs : List Int) (v : Int) (w : World) (hA : IntsAt w A xs) (hl : xs.length ≤ 140737488351232) :
    Calls Try.prog 106 #[.slice A xs.length c, .int .i64 v] w fun e w' => e = .returned (.bool (hasI xs v)) ∧ w = w' := by
  go_enter Try.func106, Try.ntmps106
  go_wp2_with fail
  refine (c_IndexI A c xs v w hA hl).mono ?_
  rintro e w' ⟨⟨r, rfl, hr⟩, rfl⟩
  have HR := Lib.hid (any_of_first hr)
  clear hr
  go_wp2
  go_ret
  exact ⟨by unfold hasI; rw [← HR.out]; rfl, rfl⟩
def eqB (xs ys : List Int) : Bool := decide (xs = ys)
theorem eqB_at {xs ys : List Int} (hl : xs.length = ys.length) (h : ∀ i, i < xs.length → xs.getD i 0 = ys.getD i 0) : eqB xs ys = true := by
  unfold eqB
  refine decide_eq_true (List.ext_getElem hl fun i h1 h2 => ?_)
  have := h i h1
  simpa [List.getD_eq_getElem?_getD, h1, h2] using this
theorem eqB_not {xs ys : List Int} (i : Nat) (h : xs.getD i 0 ≠ ys.getD i 0) : eqB xs ys = false := by
  unfold eqB
  exact decide_eq_false (fun e => h (by rw [e]))
theorem eqB_len {xs ys : List Int} (h : xs.length ≠ ys.length) : eqB xs ys = false := by
  unfold eqB
  exact decide_eq_false (fun e => h (by rw [e]))
theorem eqB_iff {xs ys : List Int} : eqB xs ys = true ↔ xs = ys := by unfold eqB; simp
set_option maxHeartbeats 400000 in
set_option maxRecDepth 100000 in
theorem c_wkInts (A B : Option Addr) (c d : Nat) (xs ys : List Int) (w : World) (hA : IntsAt w A xs) (hB : IntsAt w B ys) (hl : xs.length ≤ 140737488351232) :
    Calls Try.prog 28 #[.slice A xs.length c, .slice B ys.length d] w fun e w' => e = .returned (.bool (eqB xs ys)) ∧ ∃ n, w' = w.drewN n := by
  have hHA := Lib.hid hA
  have hHB := Lib.hid hB
  clear hA hB
  by_cases hlen : xs.length = ys.length
  · have hlen' : ((xs.length : Int) != (ys.length : Int)) = false := by simp; omega
    have HLEN := Lib.hid hlen
    clear hlen
    go_enter Try.func28, Try.ntmps28
    go_wp2_with fail
    go_loopw [5] (fun v5 wr => ∃ k : Nat, k ≤ xs.length ∧ v5 = .int .i64 k ∧ Hid (∃ n, wr = w.drewN n) ∧ Hid (∀ j, j < k → xs.getD j 0 = ys.getD j 0)) (fun v5 _ => xs.length - (intOf v5).toNat)
    case atStart => exact ⟨0, Nat.zero_le _, rfl, ⟨0, rfl⟩, fun j hj => absurd hj (by omega)⟩
    case round =>
      obtain ⟨k, hk, rfl, hw, hn⟩ := hrel
      by_cases hlt : k < xs.length
      · have hltI : (k : Int) < (xs.length : Int) := by omega
        have hltJ : (k : Int) < (ys.length : Int) := by have := HLEN.out; omega
        have hk0 : (0 : Int) ≤ (k : Int) := by omega
        obtain ⟨g, o, e, hg, hc⟩ := hHA.out (by omega)
        subst e
        obtain ⟨g2, o2, e, hg2, hc2⟩ := hHB.out (by have := HLEN.out; omega)
        subst e
        have hx : wr.cell? ⟨g, o + k, none⟩ = some (.int .i64 (xs.getD k 0)) := by obtain ⟨n, rfl⟩ := hw.out; exact hc k hlt
        have hy : wr.cell? ⟨g2, o2 + k, none⟩ = some (.int .i64 (ys.getD k 0)) := by obtain ⟨n, rfl⟩ := hw.out; exact hc2 k (by have := HLEN.out; omega)
        clear hc hc2
        obtain ⟨x, hxx⟩ : ∃ x, x = xs.getD k 0 := ⟨_, rfl⟩
        rw [← hxx] at hx
        have HX := Lib.hid hxx
        obtain ⟨y, hyy⟩ : ∃ y, y = ys.getD k 0 := ⟨_, rfl⟩
        rw [← hyy] at hy
        have HY := Lib.hid hyy
        clear hxx hyy
        by_cases e : x = y
        · have e1 : (x != y) = false := by simpa using e
          have HE := Lib.hid e
          clear e
          go_wp2_with fail
          go_quiet (fail)
          go_wp2_with fail
          go_roundw
          case rel =>
            refine ⟨k + 1, by omega, by go_num, by obtain ⟨n, rfl⟩ := hw.out; exact ⟨n + nq, World.drewN_drewN _ _ _⟩, fun j hj => ?_⟩
            rcases Nat.lt_succ_iff_lt_or_eq.1 hj with h | rfl
            · exact hn.out j h
            · rw [← HX.out, ← HY.out]; exact HE.out
          case measure => simp [intOf]; omega
        · have e1 : (x != y) = true := by simpa using e
          have HE := Lib.hid e
          clear e
          go_wp2_with fail
          go_quiet (fail)
          go_wp2_with fail
          go_ret
          exact ⟨by rw [eqB_not k (by rw [← HX.out, ← HY.out]; exact HE.out)]; rfl, by obtain ⟨n, rfl⟩ := hw.out; exact ⟨n + nq, World.drewN_drewN _ _ _⟩⟩
      · have hltI : ¬ (k : Int) < (xs.length : Int) := by omega
        go_wp2_with fail
        go_ret
        exact ⟨by rw [eqB_at HLEN.out (fun i hi => hn.out i (by omega))]; rfl, hw.out⟩
  · have hlen' : ((xs.length : Int) != (ys.length : Int)) = true := by simp; omega
    go_enter Try.func28, Try.ntmps28
    go_wp2_with fail
    go_ret
    exact ⟨by rw [eqB_len hlen]; rfl, 0, rfl⟩
set_option maxHeartbeats 400000 in
set_option maxRecDepth 100000 in
theorem c_eqIntS (A B : Option Addr) (c d : Nat) (xs ys : List Int) (w : World) (hA : IntsAt w A xs) (hB : IntsAt w B ys) (hl : xs.length ≤ 140737488351232) :
    Calls Try.prog 32 #[.slice A xs.length c, .slice B ys.length d] w fun e w' => e = .returned (.bool (eqB xs ys)) ∧ ∃ n, w' = w.drewN n := by
  have hHA := Lib.hid hA
  have hHB := Lib.hid hB
  clear hA hB
  by_cases hlen : xs.length = ys.length
  · have hlen' : ((xs.length : Int) != (ys.length : Int)) = false := by simp; omega
    have HLEN := Lib.hid hlen
    clear hlen
    go_enter Try.func32, Try.ntmps32
    go_wp2_with fail
    go_loopw [5] (fun v5 wr => ∃ k : Nat, k ≤ xs.length ∧ v5 = .int .i64 k ∧ Hid (∃ n, wr = w.drewN n) ∧ Hid (∀ j, j < k → xs.getD j 0 = ys.getD j 0)) (fun v5 _ => xs.length - (intOf v5).toNat)
    case atStart => exact ⟨0, Nat.zero_le _, rfl, ⟨0, rfl⟩, fun j hj => absurd hj (by omega)⟩
    case round =>
      obtain ⟨k, hk, rfl, hw, hn⟩ := hrel
      by_cases hlt : k < xs.length
      · have hltI : (k : Int) < (xs.length : Int) := by omega
        have hltJ : (k : Int) < (ys.length : Int) := by have := HLEN.out; omega
        have hk0 : (0 : Int) ≤ (k : Int) := by omega
        obtain ⟨g, o, e, hg, hc⟩ := hHA.out (by omega)
        subst e
        obtain ⟨g2, o2, e, hg2, hc2⟩ := hHB.out (by have := HLEN.out; omega)
        subst e
        have hx : wr.cell? ⟨g, o + k, none⟩ = some (.int .i64 (xs.getD k 0)) := by obtain ⟨n, rfl⟩ := hw.out; exact hc k hlt
        have hy : wr.cell? ⟨g2, o2 + k, none⟩ = some (.int .i64 (ys.getD k 0)) := by obtain ⟨n, rfl⟩ := hw.out; exact hc2 k (by have := HLEN.out; omega)
        clear hc hc2
        obtain ⟨x, hxx⟩ : ∃ x, x = xs.getD k 0 := ⟨_, rfl⟩
        rw [← hxx] at hx
        have HX := Lib.hid hxx
        obtain ⟨y, hyy⟩ : ∃ y, y = ys.getD k 0 := ⟨_, rfl⟩
        rw [← hyy] at hy
        have HY := Lib.hid hyy
        clear hxx hyy
        by_cases e : x = y
        · have e1 : (x != y) = false := by simpa using e
          have HE := Lib.hid e
          clear e
          go_wp2_with fail
          go_quiet (fail)
          go_wp2_with fail
          go_roundw
          case rel =>
            refine ⟨k + 1, by omega, by go_num, by obtain ⟨n, rfl⟩ := hw.out; exact ⟨n + nq, World.drewN_drewN _ _ _⟩, fun j hj => ?_⟩
            rcases Nat.lt_succ_iff_lt_or_eq.1 hj with h | rfl
            · exact hn.out j h
            · rw [← HX.out, ← HY.out]; exact HE.out
          case measure => simp [intOf]; omega
        · have e1 : (x != y) = true := by simpa using e
          have HE := Lib.hid e
          clear e
          go_wp2_with fail
          go_quiet (fail)
          go_wp2_with fail
          go_ret
          exact ⟨by rw [eqB_not k (by rw [← HX.out, ← HY.out]; exact HE.out)]; rfl, by obtain ⟨n, rfl⟩ := hw.out; exact ⟨n + nq, World.drewN_drewN _ _ _⟩⟩
      · have hltI : ¬ (k : Int) < (xs.length : Int) := by omega
        go_wp2_with fail
        go_ret
        exact ⟨by rw [eqB_at HLEN.out (fun i hi => hn.out i (by omega))]; rfl, hw.out⟩
  · have hlen' : ((xs.length : Int) != (ys.length : Int)) = true := by simp; omega
    go_enter Try.func32, Try.ntmps32
    go_wp2_with fail
    go_ret
    exact ⟨by rw [eqB_len hlen]; rfl, 0, rfl⟩
end Go.Proofs.Ythglnmhcgagkdaa
