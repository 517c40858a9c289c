/- Walks: small functions, IndexFunc and ContainsFunc over ints, the functions over fares but the draws. -/
import Derived.Test.YthglnmhcgagkdaaRows
import Derived.Test.YthglnmhcgagkdaaA0
namespace Go.Proofs.Ythglnmhcgagkdaa
open Go.RowKit
def inR (n lo hi : Int) : Bool := decide (lo ≤ n) && decide (n ≤ hi)

theorem c_within (n lo hi : Int) (w : World) :
    Calls Try.prog 64 #[.int .i64 n, .int .i64 lo, .int .i64 hi] w fun e w' => e = .returned (.bool (inR n lo hi)) ∧ w = w' := by
  go_enter Try.func64, Try.ntmps64
  go_wp2
  all_goals go_ret
  all_goals exact ⟨by simp [inR]; try omega, rfl⟩
theorem c_l1In (n lo hi : Int) (w : World) :
    Calls Try.prog 66 #[.int .i64 n, .int .i64 lo, .int .i64 hi] w fun e w' => e = .returned (.bool (inR n lo hi)) ∧ w = w' := by
  go_enter Try.func66, Try.ntmps66
  go_wp2
  all_goals go_ret
  all_goals exact ⟨by simp [inR]; try omega, rfl⟩
theorem c_costOk (n : Int) (w : World) :
    Calls Try.prog 78 #[.int .i64 n] w fun e w' => e = .returned (.bool (inR n 0 99)) ∧ w = w' := by
  go_enter Try.func78, Try.ntmps78
  go_wp2_with (go_at_call 64; refine (c_within _ _ _ _).mono ?_; rintro e w' ⟨rfl, rfl⟩)
  go_ret
  exact ⟨rfl, rfl⟩
theorem c_pricesOk1 (n : Int) (w : World) :
    Calls Try.prog 98 #[.int .i64 n] w fun e w' => e = .returned (.bool (!inR n 0 99)) ∧ w = w' := by
  go_enter Try.func98, Try.ntmps98
  go_wp2_with (go_at_call 78; refine (c_costOk _ _).mono ?_; rintro e w' ⟨rfl, rfl⟩)
  go_ret
  exact ⟨rfl, rfl⟩
def FirstAt {α : Type} (p : α → Bool) (xs : List α) (d : α) (r : Int) : Prop :=
  (r = -1 ∧ ∀ i, i < xs.length → p (xs.getD i d) = false) ∨ ∃ i : Nat, i < xs.length ∧ r = i ∧ p (xs.getD i d) = true ∧ ∀ j, j < i → p (xs.getD j d) = false
def Found {α : Type} (p : α → Bool) (xs : List α) (d : α) (w0 : World) (e : Ending) (w' : World) : Prop := ∃ r : Int, e = .returned (.int .i64 r) ∧ FirstAt p xs d r ∧ Below w0.heap.size w0 w'
/-- A function that is called as a value: what it answers; nothing that was there turns. -/
structure CloI (f : FuncId) (caps : Array Value) (p : Int → Bool) (w0 : World) : Prop where
  run : ∀ (xa : Array Value) (w : World), Sem.run Try.prog (callFunc f xa) w = .ok (.enter f xa) w
  calls : ∀ x w, Below w0.heap.size w0 w → Calls Try.prog f (#[.int .i64 x] ++ caps) w fun e w' => e = .returned (.bool (p x)) ∧ Below w.heap.size w w'

set_option maxHeartbeats 400000 in
set_option maxRecDepth 100000 in
theorem c_IndexFuncI (A : Option Addr) (c : Nat) (xs : List Int) (f : FuncId) (caps : Array Value) (p : Int → Bool) (w : World) (hA : IntsAt w A xs) (hl : xs.length ≤ 140737488351232) (hf : CloI f caps p w) :
    Calls Try.prog 126 #[.slice A xs.length c, .func (.func f) #[] caps] w (Found p xs 0 w) := by
  obtain ⟨hrun, hcall⟩ := hf
  have HF := Lib.hid hcall
  clear hcall
  go_enter Try.func126, Try.ntmps126
  go_wp2
  go_loopw [8] (fun v8 wr => ∃ k : Nat, k ≤ xs.length ∧ v8 = .int .i64 k ∧ Below w.heap.size w wr ∧ Hid (∀ j, j < k → p (xs.getD j 0) = false)) (fun v8 _ => xs.length - (intOf v8).toNat)
  case atStart => exact ⟨0, Nat.zero_le _, rfl, Below.refl _ _, fun j hj => absurd hj (by omega)⟩
  case round =>
    obtain ⟨k, hk, rfl, hb, hn⟩ := hrel
    by_cases hlt : k < xs.length
    · obtain ⟨g, o, rfl, hg, hc⟩ := hA.below hb (by omega)
      have hx := hc k hlt
      clear hc hA
      obtain ⟨x, hxx⟩ : ∃ x, x = xs.getD k 0 := ⟨_, rfl⟩
      rw [← hxx] at hx
      have HX := Lib.hid hxx
      clear hxx
      go_wp2_with fail
      refine (HF.out x wr hb).mono ?_
      rintro e w' ⟨rfl, hb'⟩
      have HB := below_of hb hb'
      clear hb hx hg
      obtain ⟨b, hpb⟩ : ∃ b, b = p x := ⟨_, rfl⟩
      rw [← hpb]
      have HP := Lib.hid hpb
      clear hpb hb'
      cases b
      · go_wp2
        go_roundw
        case rel =>
          refine ⟨k + 1, by omega, by go_num, HB, fun j hj => ?_⟩
          rcases Nat.lt_succ_iff_lt_or_eq.1 hj with h | rfl
          · exact hn.out j h
          · rw [← HX.out]; exact HP.out.symm
        case measure => simp [intOf]; omega
      · go_wp2
        go_ret
        exact ⟨k, rfl, .inr ⟨k, hlt, rfl, by rw [← HX.out]; exact HP.out.symm, hn.out⟩, HB⟩
    · go_wp2
      go_ret
      exact ⟨-1, rfl, .inl ⟨rfl, fun i hi => hn.out i (by omega)⟩, hb⟩
theorem any_of_first {α : Type} {p : α → Bool} {xs : List α} {d : α} {r : Int} (h : FirstAt p xs d r) : decide (r ≥ 0) = xs.any p := by
  rcases h with ⟨rfl, h⟩ | ⟨i, hi, rfl, hp, _⟩
  · symm
    simp only [ge_iff_le, Int.reduceNeg, Int.reduceLE, decide_false]
    rw [List.any_eq_false]
    intro x hx
    obtain ⟨i, hi, rfl⟩ := List.mem_iff_getElem.1 hx
    have := h i hi
    simpa [List.getD_eq_getElem?_getD, hi] using this
  · have : decide ((i : Int) ≥ 0) = true := by simp
    rw [this]
    symm
    rw [List.any_eq_true]
    exact ⟨xs[i], List.getElem_mem hi, by simpa [List.getD_eq_getElem?_getD, hi] using hp⟩
theorem c_ContainsFuncI (A : Option Addr) (c : Nat) (xs : List Int) (f : FuncId) (caps : Array Value) (p : Int → Bool) (w : World) (hA : IntsAt w A xs) (hl : xs.length ≤ 140737488351232) (hf : CloI f caps p w) :
    Calls Try.prog 97 #[.slice A xs.length c, .func (.func f) #[] caps] w fun e w' => e = .returned (.bool (xs.any p)) ∧ Below w.heap.size w w' := by
  have HF := Lib.hid hf
  clear hf
  go_enter Try.func97, Try.ntmps97
  go_wp2_with fail
  refine (c_IndexFuncI A c xs f caps p w hA hl HF.out).mono ?_
  rintro e w' ⟨r, rfl, hr, hb⟩
  have HR := Lib.hid (any_of_first hr)
  clear hr
  go_wp2
  go_ret
  exact ⟨by rw [← HR.out]; rfl, hb⟩

theorem c_isNaN (a : Int) (w : World) : Calls Try.prog 127 #[.int .i64 a] w fun e w' => e = .returned (.bool false) ∧ w = w' := by
  go_enter Try.func127, Try.ntmps127
  go_wp2
  go_ret
  exact ⟨rfl, rfl⟩
theorem c_Less (a b : Int) (w : World) :
    Calls Try.prog 104 #[.int .i64 a, .int .i64 b] w fun e w' => e = .returned (.bool (decide (a < b))) ∧ w = w' := by
  go_enter Try.func104, Try.ntmps104
  go_wp2_with (go_at_call 127; refine (c_isNaN _ _).mono ?_; rintro e w' ⟨rfl, rfl⟩)
  go_ret
  exact ⟨rfl, rfl⟩
theorem clo_pricesOk1 (w : World) : CloI 98 #[] (fun x => !inR x 0 99) w := by
  refine ⟨fun xa w => by go_simp, fun x w _ => ?_⟩
  refine (c_pricesOk1 x w).mono ?_
  rintro e w' ⟨rfl, rfl⟩
  exact ⟨rfl, Below.refl _ _⟩
def pricesB (xs : List Int) : Bool := xs.all fun x => inR x 0 99
theorem not_any_prices (xs : List Int) : (!xs.any fun x => !inR x 0 99) = pricesB xs := by
  unfold pricesB
  rw [List.all_eq_not_any_not]
theorem c_pricesOk (A : Option Addr) (c : Nat) (xs : List Int) (w : World) (hA : IntsAt w A xs) (hl : xs.length ≤ 140737488351232) :
    Calls Try.prog 59 #[.slice A xs.length c] w fun e w' => e = .returned (.bool (pricesB xs)) ∧ Below w.heap.size w w' := by
  go_enter Try.func59, Try.ntmps59
  go_wp2_with fail
  refine (c_ContainsFuncI A c xs 98 #[] _ w hA hl (clo_pricesOk1 w)).mono ?_
  rintro e w' ⟨rfl, hb⟩
  obtain ⟨b, hpb⟩ : ∃ b, b = xs.any fun x => !inR x 0 99 := ⟨_, rfl⟩
  rw [← hpb]
  have HB : Hid ((!b) = pricesB xs) := by rw [hpb]; exact not_any_prices xs
  clear hpb
  go_wp2
  go_ret
  exact ⟨by rw [← HB.out]; rfl, hb⟩
def sortedB (xs : List Int) : Bool := (List.range (xs.length - 1)).all fun i => decide (xs.getD i 0 ≤ xs.getD (i + 1) 0)
theorem sortedB_true {xs : List Int} (h : ∀ i, i + 1 < xs.length → xs.getD i 0 ≤ xs.getD (i + 1) 0) : sortedB xs = true := by
  unfold sortedB
  rw [List.all_eq_true]
  intro i hi
  exact decide_eq_true (h i (by have := List.mem_range.1 hi; omega))
theorem sortedB_false {xs : List Int} {i : Nat} (hi : i + 1 < xs.length) (h : ¬ xs.getD i 0 ≤ xs.getD (i + 1) 0) : sortedB xs = false := by
  unfold sortedB
  rw [List.all_eq_false]
  exact ⟨i, List.mem_range.2 (by omega), by simpa using h⟩
theorem sortedB_at {xs : List Int} (h : sortedB xs = true) (i : Nat) (hi : i + 1 < xs.length) : xs.getD i 0 ≤ xs.getD (i + 1) 0 := by
  unfold sortedB at h
  exact of_decide_eq_true (List.all_eq_true.1 h i (List.mem_range.2 (by omega)))
set_option maxHeartbeats 400000 in
set_option maxRecDepth 100000 in
theorem c_IsSorted (A : Option Addr) (c : Nat) (xs : List Int) (w : World) (hA : IntsAt w A xs) (hl : xs.length ≤ 140737488351232) :
    Calls Try.prog 77 #[.slice A xs.length c] w fun e w' => e = .returned (.bool (sortedB xs)) ∧ Below w.heap.size w w' := by
  go_enter Try.func77, Try.ntmps77
  go_wp2
  go_loopw [3] (fun v3 wr => ∃ k : Int, -1 ≤ k ∧ k < xs.length ∧ v3 = .int .i64 k ∧ Below w.heap.size w wr ∧ Hid (∀ i : Nat, k ≤ (i : Int) → i + 1 < xs.length → xs.getD i 0 ≤ xs.getD (i + 1) 0)) (fun v3 _ => (intOf v3).toNat)
  case atStart => exact ⟨xs.length - 1, by omega, by omega, rfl, Below.refl _ _, fun i h1 h2 => by omega⟩
  case round =>
    obtain ⟨k, hk0, hk, rfl, hb, hn⟩ := hrel
    by_cases hlt : 0 < k
    · obtain ⟨m, rfl⟩ : ∃ m : Nat, k = m := ⟨k.toNat, by omega⟩
      obtain ⟨g, o, rfl, hg, hc⟩ := hA.below hb (by omega)
      have hx := hc (m - 1) (by omega)
      have hy := hc m (by omega)
      clear hc hA
      obtain ⟨x, hxx⟩ : ∃ x, x = xs.getD (m - 1) 0 := ⟨_, rfl⟩
      obtain ⟨y, hyy⟩ : ∃ y, y = xs.getD m 0 := ⟨_, rfl⟩
      rw [← hxx] at hx
      rw [← hyy] at hy
      have HX := Lib.hid hxx
      have HY := Lib.hid hyy
      clear hxx hyy
      go_wp2_with fail
      have e1 : IntKind.i64.wrap ((m : Int) - 1) = (m : Int) - 1 := wrap_in (by omega)
      have e2 : (0 : Int) ≤ (m : Int) - 1 := by omega
      have e3 : ((m : Int) - 1).toNat = m - 1 := by omega
      have e4 : (m : Int) - 1 < xs.length := by omega
      go_quiet ((go_at_call 104; exact q_same (c_Less _ _ _)))
      clear e1 e3
      go_wp2
      · have h : y < x := by assumption
        go_ret
        exact ⟨by rw [sortedB_false (xs := xs) (i := m - 1) (by omega) (by rw [← HX.out, show m - 1 + 1 = m by omega, ← HY.out]; omega)]; rfl, below_drewN hb _⟩
      · have h : x ≤ y := by assumption
        go_roundw
        case rel =>
          refine ⟨(m : Int) - 1, by omega, by omega, rfl, below_drewN hb _, fun i h1 h2 => ?_⟩
          by_cases h3 : (m : Int) ≤ i
          · exact hn.out i h3 h2
          · have : i = m - 1 := by omega
            subst this
            rw [← HX.out, show m - 1 + 1 = m by omega, ← HY.out]; exact h
        case measure => simp [intOf]; omega
    · go_wp2
      go_ret
      exact ⟨by rw [sortedB_true fun i hi => hn.out i (by omega) hi]; rfl, hb⟩

/-! ### fares -/
structure Fare where (single : List Int) (day week : Int)
def fareOkB (f : Fare) : Bool := decide (f.single.length = 4) && pricesB f.single && sortedB f.single && inR f.day 0 99 && inR f.week 0 990
def ridesB (xs : List Int) : Bool := decide (xs.length ≤ 10) && pricesB xs
set_option maxHeartbeats 400000 in
theorem c_FareOk (A : Option Addr) (c : Nat) (f : Fare) (w : World) (hA : IntsAt w A f.single) (hl : f.single.length ≤ 140737488351232) :
    Calls Try.prog 24 #[.agg #[.slice A f.single.length c, .int .i64 f.day, .int .i64 f.week]] w fun e w' => e = .returned (.bool (fareOkB f)) ∧ Below w.heap.size w w' := by
  obtain ⟨xs, day, week⟩ := f
  simp only at hA hl ⊢
  by_cases h4 : xs.length = 4
  · obtain ⟨bp, hbp⟩ : ∃ b, b = pricesB xs := ⟨_, rfl⟩
    obtain ⟨bs, hbs⟩ : ∃ b, b = sortedB xs := ⟨_, rfl⟩
    obtain ⟨bd, hbd⟩ : ∃ b, b = inR day 0 99 := ⟨_, rfl⟩
    obtain ⟨bw, hbw⟩ : ∃ b, b = inR week 0 990 := ⟨_, rfl⟩
    have HF : Hid (fareOkB ⟨xs, day, week⟩ = (bp && bs && bd && bw)) := by show _ = _; unfold fareOkB; simp only [hbp, hbs, hbd, hbw, h4, decide_true, Bool.true_and]
    have H4 := Lib.hid h4
    have h4' : ((xs.length : Int) == 4) = true := by rw [beq_iff_eq]; omega
    clear h4
    have HP := Lib.hid hbp
    have HS := Lib.hid hbs
    have HD := Lib.hid hbd
    have HW := Lib.hid hbw
    clear hbp hbs hbd hbw
    go_enter Try.func24, Try.ntmps24
    go_wp2_with fail
    refine (c_pricesOk _ _ _ _ (hA.below (below_new _ _)) hl).mono ?_
    rintro e w1 ⟨rfl, hb1⟩
    rw [← HP.out]
    have B1 := (Blk.new w _ _).below hb1
    obtain ⟨c0, c1, c2⟩ := B1.cells3
    have HB1 := below_of (below_new w _) hb1
    clear hb1
    cases bp
    · go_wp2
      go_ret
      exact ⟨by rw [HF.out]; rfl, HB1⟩
    · go_wp2_with fail
      refine (c_IsSorted _ _ _ _ (hA.below HB1) hl).mono ?_
      rintro e w2 ⟨rfl, hb2⟩
      rw [← HS.out]
      have B2 := B1.below hb2
      have HB2 := below_of HB1 hb2
      clear c0 c1 c2 hb2 B1 HB1
      obtain ⟨c0, c1, c2⟩ := B2.cells3
      cases bs
      · go_wp2
        go_ret
        exact ⟨by rw [HF.out]; rfl, HB2⟩
      · go_wp2_with fail
        refine (c_costOk _ _).mono ?_
        rintro e w3 ⟨rfl, rfl⟩
        rw [← HD.out]
        cases bd
        · go_wp2
          go_ret
          exact ⟨by rw [HF.out]; rfl, HB2⟩
        · go_wp2_with fail
          refine (c_within _ _ _ _).mono ?_
          rintro e w3 ⟨rfl, rfl⟩
          rw [← HW.out]
          go_wp2
          go_ret
          exact ⟨by rw [HF.out]; rfl, HB2⟩
  · have HF : Hid (fareOkB ⟨xs, day, week⟩ = false) := by show _ = _; unfold fareOkB; simp [h4]
    have h4' : ((xs.length : Int) == 4) = false := by rw [beq_eq_false_iff_ne]; omega
    go_enter Try.func24, Try.ntmps24
    go_wp2
    go_ret
    exact ⟨by rw [HF.out]; rfl, (Below.refl _ _).alloc (Nat.le_refl _) _⟩
end Go.Proofs.Ythglnmhcgagkdaa
