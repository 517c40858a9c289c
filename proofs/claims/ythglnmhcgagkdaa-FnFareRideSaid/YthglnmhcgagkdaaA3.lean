/- Walks: a day, a week. -/
import Derived.Test.YthglnmhcgagkdaaA2
namespace Go.Proofs.Ythglnmhcgagkdaa
open Go.RowKit
attribute [local go_sem] b_max2 b_min2 b_max_two b_min_two
theorem take_snoc {α : Type} (xs : List α) (k : Nat) (d : α) (h : k < xs.length) : xs.take (k + 1) = xs.take k ++ [xs.getD k d] := by
  rw [List.take_succ_eq_append_getElem h]; simp [List.getD_eq_getElem?_getD, h]
theorem sum_snoc (xs : List Int) (k : Nat) (h : k < xs.length) : (xs.take (k + 1)).sum = (xs.take k).sum + xs.getD k 0 := by
  rw [take_snoc xs k 0 h, List.sum_append]; simp
theorem sum_bound {xs : List Int} (h : pricesB xs = true) : ∀ k, k ≤ xs.length → 0 ≤ (xs.take k).sum ∧ (xs.take k).sum ≤ 99 * k := by
  intro k
  induction k with
  | zero => intro _; simp
  | succ k ih =>
    intro hk
    have := ih (by omega)
    have h2 := pricesB_at h k (by omega)
    rw [sum_snoc xs k (by omega)]
    omega
theorem rides_parts {xs : List Int} (h : ridesB xs = true) : xs.length ≤ 10 ∧ pricesB xs = true := by
  unfold ridesB at h
  simpa using h
def dayI (d : Int) (xs : List Int) : Int := min xs.sum d
set_option maxRecDepth 100000 in
theorem c_l28Day (A B : Option Addr) (c c' : Nat) (f : Fare) (xs : List Int) (w : World) (hA : IntsAt w A xs) (hr : ridesB xs = true) :
    Calls Try.prog 58 #[.agg #[.slice B f.single.length c', .int .i64 f.day, .int .i64 f.week], .slice A xs.length c] w fun e w' => e = .returned (.int .i64 (dayI f.day xs)) ∧ Below w.heap.size w w' := by
  obtain ⟨h10, hp⟩ := rides_parts hr
  obtain ⟨single, day, week⟩ := f
  simp only
  clear hr
  go_enter Try.func58, Try.ntmps58
  go_wp2_with fail
  have hA1 := hA.below (below_new w (.cells #[Value.slice B single.length c', Value.int IntKind.i64 day, Value.int IntKind.i64 week] 25))
  clear hA
  go_loop [5, 6] (fun v5 v6 => ∃ k : Nat, k ≤ xs.length ∧ v6 = .int .i64 k ∧ ∃ s : Int, v5 = .int .i64 s ∧ Hid (s = (xs.take k).sum)) (fun _ v6 => xs.length - (intOf v6).toNat)
  case atStart => exact ⟨0, Nat.zero_le _, rfl, 0, rfl, by simp [Hid]⟩
  case round =>
    obtain ⟨k, hk, rfl, s, rfl, hs⟩ := hrel
    have hb := sum_bound hp k hk
    rw [← hs.out] at hb
    by_cases hlt : k < xs.length
    · obtain ⟨g, o, rfl, hg, hc⟩ := hA1 (by omega)
      have hx := hc k hlt
      have hxb := pricesB_at hp k hlt
      clear hc hA1
      obtain ⟨x, hxx⟩ : ∃ x, x = xs.getD k 0 := ⟨_, rfl⟩
      rw [← hxx] at hx hxb
      have HX := Lib.hid hxx
      have HP := Lib.hid hp
      clear hxx hp
      go_wp2
      go_round
      case rel => exact ⟨k + 1, by omega, by go_num, s + x, rfl, by show _ = _; rw [sum_snoc xs k hlt, ← hs.out, ← HX.out]⟩
      case measure => simp [intOf]; omega
    · have hf : Hid (s = xs.sum) := by show _ = _; rw [hs.out, List.take_of_length_le (by omega)]
      go_wp2
      · have h : day < s := by assumption
        go_ret
        exact ⟨by unfold dayI; rw [← hf.out, Int.min_eq_right (by omega)]; rfl, below_new _ _⟩
      · have h : s ≤ day := by assumption
        go_ret
        exact ⟨by unfold dayI; rw [← hf.out, Int.min_eq_left h]; rfl, below_new _ _⟩
def fareDayI (f : Fare) (xs : List Int) : Int := if fareOkB f && ridesB xs then dayI f.day xs else -1
set_option maxHeartbeats 400000 in
set_option maxRecDepth 100000 in
theorem c_FareDay (A B : Option Addr) (c c' : Nat) (f : Fare) (xs : List Int) (w : World) (hB : IntsAt w B f.single) (hfl : f.single.length ≤ 140737488351232) (hA : IntsAt w A xs) (hl : xs.length ≤ 140737488351232) :
    Calls Try.prog 16 #[.agg #[.slice B f.single.length c', .int .i64 f.day, .int .i64 f.week], .slice A xs.length c] w fun e w' => e = .returned (.int .i64 (fareDayI f xs)) ∧ Below w.heap.size w w' := by
  obtain ⟨single, day, week⟩ := f
  simp only at hB hfl ⊢
  obtain ⟨bf, hbf⟩ : ∃ b, b = fareOkB ⟨single, day, week⟩ := ⟨_, rfl⟩
  obtain ⟨bp, hbp⟩ : ∃ b, b = pricesB xs := ⟨_, rfl⟩
  have HF := Lib.hid hbf
  have HP := Lib.hid hbp
  clear hbf hbp
  have HR : Hid (fareDayI ⟨single, day, week⟩ xs = if bf && (decide (xs.length ≤ 10) && bp) then dayI day xs else -1) := by
    show _ = _; unfold fareDayI ridesB; rw [← HF.out, ← HP.out]
  go_enter Try.func16, Try.ntmps16
  go_wp2_with fail
  refine (c_FareOk _ _ ⟨single, day, week⟩ _ (hB.below (below_new _ _)) hfl).mono ?_
  rintro e w1 ⟨rfl, hb1⟩
  rw [← HF.out]
  have B1 := (Blk.new w _ _).below hb1
  have HB1 := below_of (below_new w _) hb1
  have hA1 := hA.below HB1
  clear hb1 hA hB
  obtain ⟨c0, c1, c2⟩ := B1.cells3
  cases bf
  · go_wp2
    go_ret
    exact ⟨by rw [HR.out]; rfl, HB1⟩
  · by_cases h10 : xs.length ≤ 10
    · go_wp2_with fail
      refine (c_pricesOk _ _ _ _ hA1 hl).mono ?_
      rintro e w2 ⟨rfl, hb2⟩
      rw [← HP.out]
      have B2 := B1.below hb2
      have HB2 := below_of HB1 hb2
      have hA2 := hA1.below hb2
      clear hb2 hA1 B1 HB1 c0 c1 c2
      obtain ⟨c0, c1, c2⟩ := B2.cells3
      cases bp
      · go_wp2
        go_ret
        exact ⟨by rw [HR.out]; simp, HB2⟩
      · go_wp2_with fail
        go_loop [5, 23] (fun v5 v6 => ∃ k : Nat, k ≤ xs.length ∧ v6 = .int .i64 k ∧ ∃ s : Int, v5 = .int .i64 s ∧ Hid (s = (xs.take k).sum)) (fun _ v6 => xs.length - (intOf v6).toNat)
        case atStart => exact ⟨0, Nat.zero_le _, rfl, 0, rfl, by simp [Hid]⟩
        case round =>
          obtain ⟨k, hk, rfl, s, rfl, hs⟩ := hrel
          have hb := sum_bound HP.out.symm k hk
          rw [← hs.out] at hb
          by_cases hlt : k < xs.length
          · obtain ⟨g, o, rfl, hg, hc⟩ := hA2 (by omega)
            have hx := hc k hlt
            have hxb := pricesB_at HP.out.symm k hlt
            clear hc hA2
            obtain ⟨x, hxx⟩ : ∃ x, x = xs.getD k 0 := ⟨_, rfl⟩
            rw [← hxx] at hx hxb
            have HX := Lib.hid hxx
            clear hxx
            go_wp2
            go_round
            case rel => exact ⟨k + 1, by omega, by go_num, s + x, rfl, by show _ = _; rw [sum_snoc xs k hlt, ← hs.out, ← HX.out]⟩
            case measure => simp [intOf]; omega
          · have hf : Hid (s = xs.sum) := by show _ = _; rw [hs.out, List.take_of_length_le (by omega)]
            have HZ : Hid (fareDayI ⟨single, day, week⟩ xs = min s day) := by show _ = _; rw [HR.out, hf.out]; simp [h10, dayI]
            go_wp2
            · have h : day < s := by assumption
              go_ret
              exact ⟨by rw [HZ.out]; exact ret_int (by omega), HB2⟩
            · have h : s ≤ day := by assumption
              go_ret
              exact ⟨by rw [HZ.out]; exact ret_int (by omega), HB2⟩
    · go_wp2
      go_ret
      exact ⟨by rw [HR.out]; simp [h10], HB1⟩

/-! ### rows of rows -/
def RowsAt (w : World) (A : Option Addr) (rows : List (List Int)) : Prop :=
  0 < rows.length → ∃ g o, A = some ⟨g, o, none⟩ ∧ g < w.heap.size ∧ ∀ i, i < rows.length →
    ∃ A' c', w.cell? ⟨g, o + i, none⟩ = some (.slice A' (rows.getD i []).length c') ∧ (rows.getD i []).length ≤ 140737488351232 ∧ (rows.getD i []).length ≤ c' ∧ IntsAt w A' (rows.getD i [])
theorem RowsAt.below {w w' : World} {A : Option Addr} {rows : List (List Int)} (h : RowsAt w A rows) (hb : Below w.heap.size w w') : RowsAt w' A rows := fun hp => by
  obtain ⟨g, o, e, hg, hc⟩ := h hp
  refine ⟨g, o, e, Nat.lt_of_lt_of_le hg hb.size, fun i hi => ?_⟩
  obtain ⟨A', c', h1, h2, h3, h4⟩ := hc i hi
  exact ⟨A', c', (cell_keep (hb.block _ hg) _).trans h1, h2, h3, h4.below hb⟩
def weekSum (d : Int) (rows : List (List Int)) : Int := (rows.map (dayI d)).sum
def fareWeekI (f : Fare) (rows : List (List Int)) : Int :=
  if fareOkB f && decide (rows.length ≤ 7) && rows.all ridesB then min (weekSum f.day rows) f.week else -1
theorem weekSum_snoc (d : Int) (rows : List (List Int)) (k : Nat) (h : k < rows.length) : weekSum d (rows.take (k + 1)) = weekSum d (rows.take k) + dayI d (rows.getD k []) := by
  unfold weekSum
  rw [take_snoc rows k [] h, List.map_append, List.sum_append]; simp
theorem dayI_bound {d : Int} {xs : List Int} (hd : inR d 0 99 = true) (h : ridesB xs = true) : 0 ≤ dayI d xs ∧ dayI d xs ≤ 99 := by
  obtain ⟨h1, h2⟩ := rides_parts h
  have := sum_bound h2 xs.length (Nat.le_refl _)
  rw [List.take_length] at this
  simp [inR] at hd
  unfold dayI
  omega
theorem weekSum_bound {d : Int} {rows : List (List Int)} (hd : inR d 0 99 = true) : ∀ k, k ≤ rows.length → (∀ i, i < k → ridesB (rows.getD i []) = true) → 0 ≤ weekSum d (rows.take k) ∧ weekSum d (rows.take k) ≤ 99 * k := by
  intro k
  induction k with
  | zero => intro _ _; simp [weekSum]
  | succ k ih =>
    intro hk hr
    have := ih (by omega) (fun i hi => hr i (by omega))
    have h2 := dayI_bound hd (hr k (by omega))
    rw [weekSum_snoc d rows k (by omega)]
    omega
theorem fareOk_day {f : Fare} (h : fareOkB f = true) : inR f.day 0 99 = true := by
  unfold fareOkB at h
  simp only [Bool.and_eq_true] at h
  exact h.1.2
theorem all_true {α : Type} {p : α → Bool} {xs : List α} (d : α) (h : ∀ i, i < xs.length → p (xs.getD i d) = true) : xs.all p = true := by
  rw [List.all_eq_true]
  intro x hx
  obtain ⟨i, hi, rfl⟩ := List.mem_iff_getElem.1 hx
  simpa [List.getD_eq_getElem?_getD, hi] using h i hi
theorem all_false {α : Type} {p : α → Bool} {xs : List α} (d : α) {i : Nat} (hi : i < xs.length) (h : p (xs.getD i d) = false) : xs.all p = false := by
  rw [List.all_eq_false]
  exact ⟨xs[i], List.getElem_mem hi, by simpa [List.getD_eq_getElem?_getD, hi] using h⟩
theorem all_at {α : Type} {p : α → Bool} {xs : List α} (d : α) (h : xs.all p = true) (i : Nat) (hi : i < xs.length) : p (xs.getD i d) = true := by
  have := List.all_eq_true.1 h xs[i] (List.getElem_mem hi)
  simpa [List.getD_eq_getElem?_getD, hi] using this
set_option maxHeartbeats 400000 in
set_option maxRecDepth 100000 in
theorem c_FareWeek (A B : Option Addr) (c c' : Nat) (f : Fare) (rows : List (List Int)) (w : World) (hB : IntsAt w B f.single) (hfl : f.single.length ≤ 140737488351232) (hA : RowsAt w A rows) (hl : rows.length ≤ 140737488351232) :
    Calls Try.prog 14 #[.agg #[.slice B f.single.length c', .int .i64 f.day, .int .i64 f.week], .slice A rows.length c] w fun e w' => e = .returned (.int .i64 (fareWeekI f rows)) ∧ Below w.heap.size w w' := by
  obtain ⟨bf, hbf⟩ : ∃ b, b = fareOkB f := ⟨_, rfl⟩
  have HF := Lib.hid hbf
  clear hbf
  have HR : Hid (fareWeekI f rows = if bf && decide (rows.length ≤ 7) && rows.all ridesB then min (weekSum f.day rows) f.week else -1) := by
    show _ = _; unfold fareWeekI; rw [← HF.out]
  go_enter Try.func14, Try.ntmps14
  go_wp2_with fail
  refine (c_FareOk _ _ f _ (hB.below (below_new _ _)) hfl).mono ?_
  rintro e w1 ⟨rfl, hb1⟩
  rw [← HF.out]
  have B1 := (Blk.new w _ _).below hb1
  have HB1 := below_of (below_new w _) hb1
  clear hb1
  obtain ⟨c0, c1, c2⟩ := B1.cells3
  cases bf
  · go_wp2
    go_ret
    exact ⟨by rw [HR.out]; rfl, HB1⟩
  · by_cases h10 : rows.length ≤ 7
    · go_wp2_with fail
      go_loopw [5, 19] (fun v5 v6 wr => ∃ k : Nat, k ≤ rows.length ∧ v6 = .int .i64 k ∧ (∃ s : Int, v5 = .int .i64 s ∧ Hid (s = weekSum f.day (rows.take k))) ∧ Below w.heap.size w wr ∧ Blk wr w.heap.size #[.slice B f.single.length c', .int .i64 f.day, .int .i64 f.week] 25 ∧ Hid (∀ i, i < k → ridesB (rows.getD i []) = true)) (fun _ v6 _ => rows.length - (intOf v6).toNat)
      case atStart => exact ⟨0, Nat.zero_le _, rfl, ⟨0, rfl, by simp [Hid, weekSum]⟩, HB1, B1, fun i hi => absurd hi (by omega)⟩
      case round =>
        clear c0 c1 c2 B1 HB1
        obtain ⟨k, hk, rfl, ⟨s, rfl, hs⟩, hb, hB2, hr⟩ := hrel
        obtain ⟨c0, c1, c2⟩ := hB2.cells3
        have hsb := weekSum_bound (fareOk_day HF.out.symm) k hk hr.out
        rw [← hs.out] at hsb
        by_cases hlt : k < rows.length
        · obtain ⟨g, o, rfl, hg, hc⟩ := hA.below hb (by omega)
          obtain ⟨A', n', hx, hx1, hx2, hx3⟩ := hc k hlt
          obtain ⟨x, hxx⟩ : ∃ x, x = rows.getD k [] := ⟨_, rfl⟩
          rw [← hxx] at hx hx1 hx2 hx3
          have HX := Lib.hid hxx
          clear hxx hc
          go_wp2_with fail
          refine (c_FareDay _ _ _ _ f x _ (hB.below hb) hfl hx3 hx1).mono ?_
          rintro e w2 ⟨rfl, hb2⟩
          have HB2 := below_of hb hb2
          have B2 := hB2.below hb2
          have HD : Hid (fareDayI f x = if ridesB x then dayI f.day x else -1) := by show _ = _; unfold fareDayI; rw [← HF.out]; rfl
          obtain ⟨b, hbb⟩ : ∃ b, b = ridesB x := ⟨_, rfl⟩
          have HY := Lib.hid hbb
          clear hbb hb2 hB2 hb c0 c1 c2
          obtain ⟨c0, c1, c2⟩ := B2.cells3
          rw [HD.out, ← HY.out]
          cases b
          · simp only [Bool.false_eq_true, if_false]
            go_wp2
            go_ret
            exact ⟨by rw [HR.out, all_false (p := ridesB) [] hlt (by rw [← HX.out]; exact HY.out.symm)]; simp, HB2⟩
          · have hdb := dayI_bound (fareOk_day HF.out.symm) HY.out.symm
            simp only [if_true]
            obtain ⟨d, hdd⟩ : ∃ d, d = dayI f.day x := ⟨_, rfl⟩
            rw [← hdd] at hdb ⊢
            have HZ := Lib.hid hdd
            clear hdd
            go_wp2
            go_roundw
            case rel =>
              refine ⟨k + 1, by omega, by go_num, ⟨s + d, rfl, by show _ = _; rw [weekSum_snoc f.day rows k hlt, ← hs.out, ← HX.out, ← HZ.out]⟩, HB2, B2, fun i hi => ?_⟩
              rcases Nat.lt_succ_iff_lt_or_eq.1 hi with h1 | rfl
              · exact hr.out i h1
              · rw [← HX.out]; exact HY.out.symm
            case measure => simp [intOf]; omega
        · have hf : Hid (s = weekSum f.day rows) := by show _ = _; rw [hs.out, List.take_of_length_le (by omega)]
          have HZ : Hid (fareWeekI f rows = min s f.week) := by show _ = _; rw [HR.out, hf.out, all_true (p := ridesB) [] (fun i hi => hr.out i (by omega))]; simp [h10]
          go_wp2
          · have h : f.week < s := by assumption
            go_ret
            exact ⟨by rw [HZ.out]; exact ret_int (by omega), hb⟩
          · have h : s ≤ f.week := by assumption
            go_ret
            exact ⟨by rw [HZ.out]; exact ret_int (by omega), hb⟩
    · go_wp2
      go_ret
      exact ⟨by rw [HR.out]; simp [h10], HB1⟩
end Go.Proofs.Ythglnmhcgagkdaa
