/- The plain law of FnFareWeek, and steps of append in a region that draws. -/
import Derived.Test.YthglnmhcgagkdaaB1
namespace Go.Proofs.Ythglnmhcgagkdaa
open Go.RowKit
/-! ### plain -/
theorem prices_sum_nonneg {xs : List Int} (h : pricesB xs = true) : 0 ≤ xs.sum := by
  have := (sum_bound h xs.length (Nat.le_refl _)).1
  rwa [List.take_length] at this
theorem pricesB_append {xs ys : List Int} : pricesB (xs ++ ys) = (pricesB xs && pricesB ys) := by
  unfold pricesB; rw [List.all_append]
theorem day_join {d : Int} {xs ys : List Int} (hd : 0 ≤ d) (hx : pricesB xs = true) (hy : pricesB ys = true) : dayI d (xs ++ ys) ≤ dayI d xs + dayI d ys := by
  have h1 := prices_sum_nonneg hx
  have h2 := prices_sum_nonneg hy
  unfold dayI
  rw [List.sum_append]
  omega
theorem weekSum_cons (d : Int) (x : List Int) (rows : List (List Int)) : weekSum d (x :: rows) = dayI d x + weekSum d rows := by simp [weekSum]
/-- Joining the first two days into one does not raise the price. -/
theorem week_join {f : Fare} {x y : List Int} {rows : List (List Int)} (h : 0 ≤ fareWeekI f (x :: y :: rows)) (hl : x.length + y.length ≤ 10) : fareWeekI f ((x ++ y) :: rows) ≤ fareWeekI f (x :: y :: rows) := by
  unfold fareWeekI at h ⊢
  by_cases hc : (fareOkB f && decide ((x :: y :: rows).length ≤ 7) && (x :: y :: rows).all ridesB) = true
  · rw [if_pos hc] at h ⊢
    simp only [Bool.and_eq_true, decide_eq_true_eq, List.all_cons] at hc
    obtain ⟨⟨hf, h7⟩, hx, hy, hr⟩ := hc
    obtain ⟨hx1, hx2⟩ := rides_parts hx
    obtain ⟨hy1, hy2⟩ := rides_parts hy
    have hd : 0 ≤ f.day := by have := fareOk_day hf; simp [inR] at this; exact this.1
    have hxy : ridesB (x ++ y) = true := by
      unfold ridesB; rw [pricesB_append, hx2, hy2]; simp; omega
    have h7' : rows.length + 1 ≤ 7 := by simp only [List.length_cons] at h7; omega
    rw [if_pos (by simp [hf, hxy, hr]; omega)]
    rw [weekSum_cons, weekSum_cons, weekSum_cons]
    have := day_join hd hx2 hy2
    omega
  · rw [if_neg hc] at h; omega
theorem fareWeek_parts {f : Fare} {rows : List (List Int)} (h : 0 ≤ fareWeekI f rows) : fareOkB f = true ∧ rows.length ≤ 7 ∧ (∀ i, i < rows.length → ridesB (rows.getD i []) = true) ∧ fareWeekI f rows = min (weekSum f.day rows) f.week := by
  unfold fareWeekI at h
  by_cases hc : (fareOkB f && decide (rows.length ≤ 7) && rows.all ridesB) = true
  · have hc' := hc
    simp only [Bool.and_eq_true, decide_eq_true_eq] at hc
    exact ⟨hc.1.1, hc.1.2, fun i hi => all_at [] hc.2 i hi, by unfold fareWeekI; rw [if_pos hc']⟩
  · rw [if_neg hc] at h; omega
/-! ### append in a region that draws -/
section
variable {ops : Array Oper} {o : Oper} {a : Act} {K : Act → World → Prop} {Q : Exit → Act → World → Prop} {E : Prop} {w : World}
theorem step_app_ints (hgd : o.guard = none) (base : Nat) (s x : Operand) (ho : o.op = .call { callee := .builtin .append, args := #[s, x], argTypes := #[23, 23] })
    (v : Value) (xs ys : List Int) (A : Option Addr) (c : Nat) (hs : a.eval s = v) (hx : a.eval x = .slice A ys.length c) (hA : IntsAt w A ys) (h : OI w base v xs) (hb : base ≤ w.heap.size) (hl : xs.length + ys.length ≤ 1000000000)
    (hk : ∀ v1 w1, OI w1 base v1 (xs ++ ys) → w.grownBy w1 v.ownBlock → (v1.ownBlock = v.ownBlock ∨ v1.ownBlock = some w.heap.size) → K (a.put o.dst v1) w1) :
    if Region.wanted o (yielded ops a.tmps) = true then Oper.wp Try.prog o a w K Q else E := by
  have hw : Region.wanted o (yielded ops a.tmps) = true := by simp [Region.wanted, hgd]
  rw [if_pos hw]
  obtain ⟨v', w', h1, h2, h3, h4⟩ := run_app_ints o.type base v xs ys A c hA h hb hl
  exact wp_app s x 23 ho hs hx h1 (hk v' w' h2 h3 h4)
/-- A slice of rows, by its cells. -/
def RowsC (w : World) (A : Option Addr) (cs : List Value) (rows : List (List Int)) : Prop :=
  cs.length = rows.length ∧ (0 < rows.length → ∃ g o, A = some ⟨g, o, none⟩ ∧ g < w.heap.size ∧ ∀ j u, cs[j]? = some u → w.cell? ⟨g, o + j, none⟩ = some u)
def RowV (w : World) (u : Value) (xs : List Int) : Prop := ∃ A c, u = .slice A xs.length c ∧ xs.length ≤ 140737488351232 ∧ xs.length ≤ c ∧ IntsAt w A xs
theorem RowV.below {w w1 : World} {u : Value} {xs : List Int} (h : RowV w u xs) (hb : Below w.heap.size w w1) : RowV w1 u xs := by
  obtain ⟨A, c, h1, h2, h3, h4⟩ := h
  exact ⟨A, c, h1, h2, h3, h4.below hb⟩
theorem RowsAt.cells {A : Option Addr} {rows : List (List Int)} (h : RowsAt w A rows) : ∃ cs, RowsC w A cs rows ∧ ∀ i, i < rows.length → ∃ u, cs[i]? = some u ∧ RowV w u (rows.getD i []) := by
  by_cases hp : 0 < rows.length
  · obtain ⟨g, o, e, hg, hc⟩ := h hp
    refine ⟨(List.range rows.length).map fun i => (w.cell? ⟨g, o + i, none⟩).getD default, ⟨by simp, fun _ => ⟨g, o, e, hg, fun j u hu => ?_⟩⟩, fun i hi => ?_⟩
    · have hj : j < rows.length := by have := (List.getElem?_eq_some_iff.1 hu).1; simpa using this
      obtain ⟨A', c', h1, _⟩ := hc j hj
      simp [hj, h1] at hu
      rw [h1, ← hu]
      simp [List.getD_eq_getElem?_getD, hj]
    · obtain ⟨A', c', h1, h2, h3, h4⟩ := hc i hi
      exact ⟨_, by simp [hi, h1], A', c', rfl, h2, h3, h4⟩
  · exact ⟨[], ⟨by simp; omega, fun h => absurd h hp⟩, fun i hi => absurd hi (by omega)⟩
theorem step_app_cells (hgd : o.guard = none) (base : Nat) (s x : Operand) (ho : o.op = .call { callee := .builtin .append, args := #[s, x], argTypes := #[26, 26] })
    (v : Value) (n : Nat) (cs : List Value) (A : Option Addr) (m c : Nat) (news : List Value) (hs : a.eval s = v) (hx : a.eval x = .slice A m c) (h : w.ownsRow base 23 1 v n cs) (hl : news.length = m) (hr : 0 < m → ∃ g o, A = some ⟨g, o, none⟩ ∧ ∀ j u, news[j]? = some u → w.cell? ⟨g, o + j, none⟩ = some u)
    (h1 : ∀ u ∈ news, u.oneCell' = true) (hb : base ≤ w.heap.size) (hn : n + m ≤ 1000000000)
    (hk : ∀ v1 w1, w1.ownsRow base 23 1 v1 (n + m) (cs ++ news) → w.grownBy w1 v.ownBlock → (v1.ownBlock = v.ownBlock ∨ v1.ownBlock = some w.heap.size) → K (a.put o.dst v1) w1) :
    if Region.wanted o (yielded ops a.tmps) = true then Oper.wp Try.prog o a w K Q else E := by
  have hw : Region.wanted o (yielded ops a.tmps) = true := by simp [Region.wanted, hgd]
  rw [if_pos hw]
  obtain ⟨i0, hi, hz⟩ := Option.map_eq_some_iff.1 info23
  simp only [Prod.mk.injEq] at hz
  obtain ⟨hz0, hz1, hz2⟩ := hz
  obtain ⟨v', w', h1, h2, h3, h4⟩ := run_app w base 26 o.type 23 i0 (.slice none 0 0) 1 24 Try.underlying26 hi hz0 hz1 hz2 rfl (by decide) v n cs h A m c news (by omega) hr h1 (by simp only [maxLen]; omega) (by omega) hb
  exact wp_app s x 26 ho hs hx h1 (hk v' w' h2 h3 h4)
end
end Go.Proofs.Ythglnmhcgagkdaa
