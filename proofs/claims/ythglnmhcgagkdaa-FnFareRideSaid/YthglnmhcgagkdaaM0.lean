/- Walks: what the exact laws use: sizes, copies, comparisons, marks. -/
import Derived.Test.YthglnmhcgagkdaaJ0
import Derived.Test.YthglnmhcgagkdaaE3
import Derived.Test.YthglnmhcgagkdaaA4
namespace Go.Proofs.Ythglnmhcgagkdaa
open Go.RowKit
def szI (n left : Int) : Int := if left - n < 0 then -1 else left - n
theorem c_szArcS (A : Option Addr) (n c : Nat) (left : Int) (w : World) (hn : n ≤ 9223372036854775807) (h0 : 0 ≤ left) (h1 : left ≤ 1048576) :
    Calls Try.prog 82 #[.slice A n c, .int .i64 left] w fun e w' => e = .returned (.int .i64 (szI n left)) ∧ w = w' := by
  by_cases hl : left - n < 0
  · have HZ : Hid (szI n left = -1) := by show _ = _; unfold szI; rw [if_pos hl]
    go_enter Try.func82, Try.ntmps82
    go_wp2_with fail
    go_ret
    exact ⟨by rw [HZ.out]; rfl, rfl⟩
  · have HZ : Hid (szI n left = left - n) := by show _ = _; unfold szI; rw [if_neg hl]
    go_enter Try.func82, Try.ntmps82
    go_wp2_with fail
    go_ret
    exact ⟨by rw [HZ.out]; rfl, rfl⟩
theorem szI_range (n left : Int) (hn : 0 ≤ n) (h1 : left ≤ 1048576) : -1 ≤ szI n left ∧ szI n left ≤ 1048576 ∧ (0 ≤ szI n left → n ≤ left) := by
  unfold szI; split <;> omega
theorem c_szNet (A : Option Addr) (n c : Nat) (nn left : Int) (w : World) (hn : n ≤ 9223372036854775807) (h0 : 0 ≤ left) (h1 : left ≤ 1048576) :
    Calls Try.prog 30 #[.agg #[.int .i64 nn, .slice A n c], .int .i64 left] w fun e w' => e = .returned (.int .i64 (szI n left)) ∧ Below w.heap.size w w' := by
  have hr := szI_range n left (by omega) h1
  go_enter Try.func30, Try.ntmps30
  go_wp2_with fail
  refine (c_szArcS A n c left _ hn h0 h1).mono ?_
  rintro e w' ⟨rfl, rfl⟩
  obtain ⟨y, hy⟩ : ∃ y, y = szI n left := ⟨_, rfl⟩
  rw [← hy] at hr ⊢
  have HY := Lib.hid hy
  clear hy
  have HB := Lib.hid (below_new w (.cells #[.int .i64 nn, .slice A n c] 53))
  by_cases h2 : y < 0
  · have hy1 : y = -1 := by omega
    subst hy1
    go_wp2_with fail
    go_ret
    exact ⟨by rw [← HY.out]; rfl, HB.out⟩
  · go_wp2_with fail
    go_ret
    exact ⟨by rw [← HY.out]; rfl, HB.out⟩
theorem five_set {w : World} {r : Nat} {a b c d e : Value} {t : TypeId} (h : Blk w r #[a, b, c, d, e] t) (x y z u v : Value) : Blk (((((w.setCell ⟨r, 0, none⟩ x).setCell ⟨r, 1, none⟩ y).setCell ⟨r, 2, none⟩ z).setCell ⟨r, 3, none⟩ u).setCell ⟨r, 4, none⟩ v) r #[x, y, z, u, v] t := by
  have := ((((h.set 0 x).set 1 y).set 2 z).set 3 u).set 4 v
  simpa using this
set_option maxHeartbeats 1000000 in
set_option maxRecDepth 100000 in
theorem c_toArc (a : Arc) (w : World) : Calls Try.prog 107 #[a.val] w fun e w' => e = .returned a.val ∧ Below w.heap.size w w' := by
  obtain ⟨fr, tt, co, tl, ld⟩ := a
  unfold Arc.val
  simp only
  go_enter Try.func107, Try.ntmps107
  go_wp2_with fail
  refine bodyPost_ret (v := .agg #[.int .i64 fr, .int .i64 tt, .int .i64 co, .int .i64 tl, .int .i64 ld]) (by simp [results, Try.results107, go_sem]) rfl ⟨rfl, below_alloc (below_alloc (below_new _ _) _) _⟩
/-! ### rows that are filled -/
theorem fill_step {α : Type} (xs : List α) (d : α) (k : Nat) (hk : k < xs.length) : (xs.take k ++ List.replicate (xs.length - k) d).set k (xs.getD k d) = xs.take (k + 1) ++ List.replicate (xs.length - (k + 1)) d := by
  rw [List.set_append_right _ _ (by simp; omega), take_snoc xs k d hk, List.append_assoc]
  congr 1
  have e : k - (xs.take k).length = 0 := by simp; omega
  rw [e, show xs.length - k = (xs.length - (k + 1)) + 1 by omega, List.replicate_succ]
  rfl
theorem fill_len {α : Type} (xs : List α) (d : α) (k : Nat) (hk : k ≤ xs.length) : (xs.take k ++ List.replicate (xs.length - k) d).length = xs.length := by simp; omega
theorem arcCells_put : ∀ (L : List Arc) (i : Nat) (x : Arc), i < L.length → arcCells (L.set i x) = (((((arcCells L).set (i * 5) (.int .i64 x.fr)).set (i * 5 + 1) (.int .i64 x.to)).set (i * 5 + 2) (.int .i64 x.co)).set (i * 5 + 3) (.int .i64 x.tl)).set (i * 5 + 4) (.int .i64 x.ld)
  | [], i, x, h => absurd h (by simp)
  | a :: L, 0, x, _ => by simp [arcCells, Arc.cells]
  | a :: L, i + 1, x, h => by
    have ih := arcCells_put L i x (by simpa using h)
    have e : ∀ j, (i + 1) * 5 + j = a.cells.length + (i * 5 + j) := fun j => by simp [Arc.cells]; omega
    have e0 : (i + 1) * 5 = a.cells.length + i * 5 := by simp [Arc.cells]; omega
    rw [e 1, e 2, e 3, e 4, e0]
    show a.cells ++ arcCells (L.set i x) = (((((a.cells ++ arcCells L).set _ _).set _ _).set _ _).set _ _).set _ _
    rw [ih]
    simp only [List.set_append_right _ _ (Nat.le_add_right _ _), Nat.add_sub_cancel_left]
theorem OA.put {w : World} {base g cap : Nat} {L : List Arc} (h : OA w base (.slice (some ⟨g, 0, none⟩) L.length cap) L) (i : Nat) (x : Arc) (hi : i < L.length) :
    OA (((((w.setCell ⟨g, i * 5, none⟩ (.int .i64 x.fr)).setCell ⟨g, i * 5 + 1, none⟩ (.int .i64 x.to)).setCell ⟨g, i * 5 + 2, none⟩ (.int .i64 x.co)).setCell ⟨g, i * 5 + 3, none⟩ (.int .i64 x.tl)).setCell ⟨g, i * 5 + 4, none⟩ (.int .i64 x.ld)) base (.slice (some ⟨g, 0, none⟩) L.length cap) (L.set i x) := by
  have h1 := (World.ownsRow.stored h (i * 5) (.int .i64 x.fr)).1
  have h2 := (World.ownsRow.stored h1 (i * 5 + 1) (.int .i64 x.to)).1
  have h3 := (World.ownsRow.stored h2 (i * 5 + 2) (.int .i64 x.co)).1
  have h4 := (World.ownsRow.stored h3 (i * 5 + 3) (.int .i64 x.tl)).1
  have h5 := (World.ownsRow.stored h4 (i * 5 + 4) (.int .i64 x.ld)).1
  unfold OA
  rw [List.length_set, arcCells_put L i x hi]
  exact h5
theorem OA.at {w : World} {base : Nat} {v : Value} {L : List Arc} (h : OA w base v L) (hn : 0 < L.length) :
    ∃ g cap, v = .slice (some ⟨g, 0, none⟩) L.length cap ∧ base ≤ g ∧ g < w.heap.size ∧ (∀ i, i < L.length → w.cell? ⟨g, i * 5, none⟩ = some (.int .i64 (L.getD i arcD).fr) ∧ w.cell? ⟨g, i * 5 + 1, none⟩ = some (.int .i64 (L.getD i arcD).to) ∧
      w.cell? ⟨g, i * 5 + 2, none⟩ = some (.int .i64 (L.getD i arcD).co) ∧ w.cell? ⟨g, i * 5 + 3, none⟩ = some (.int .i64 (L.getD i arcD).tl) ∧ w.cell? ⟨g, i * 5 + 4, none⟩ = some (.int .i64 (L.getD i arcD).ld)) ∧ ∀ j, w.frozen? ⟨g, j, none⟩ = false := by
  obtain ⟨g, cap, rfl, _, hb, hg, hcell, hf⟩ := own_at h hn
  refine ⟨g, cap, rfl, hb, hg, fun i hi => ?_, hf⟩
  have k := fun j hj => hcell (i * 5 + j) _ ((arcCells_at L i j hi hj).trans (List.getElem?_eq_getElem (by simpa [Arc.cells] using hj)))
  exact ⟨k 0 (by omega), k 1 (by omega), k 2 (by omega), k 3 (by omega), k 4 (by omega)⟩
theorem madeCells_arc (n : Nat) : (madeCells (Value.agg #[.int .i64 0, .int .i64 0, .int .i64 0, .int .i64 0, .int .i64 0]).cells (n * 5)).toList = arcCells (List.replicate n arcD) := by
  apply List.ext_getElem?
  intro i
  simp only [madeCells, Value.cells]
  by_cases hi : i < n * 5
  · have e : i = i / 5 * 5 + i % 5 := by omega
    have h5 : i % 5 < 5 := by omega
    have hq : i / 5 < (List.replicate n arcD).length := by simp; omega
    have h2 := arcCells_at (List.replicate n arcD) (i / 5) (i % 5) hq h5
    rw [← e] at h2
    rw [h2]
    have h3 : (List.replicate n arcD).getD (i / 5) arcD = arcD := by
      rw [List.getD_eq_getElem?_getD, List.getElem?_replicate]; split <;> rfl
    rw [h3]
    have : i % 5 = 0 ∨ i % 5 = 1 ∨ i % 5 = 2 ∨ i % 5 = 3 ∨ i % 5 = 4 := by omega
    rcases this with h | h | h | h | h <;> simp [hi, h, Arc.cells, arcD]
  · rw [List.getElem?_eq_none (by simp; omega), List.getElem?_eq_none (by rw [arcCells_length]; simp; omega)]
section
variable {ops : Array Oper} {rest : List Oper} {o : Oper} {a : Act} {Q : Exit → Act → World → Prop} {w : World}
/-- make([]impl.Arc, n) -/
theorem mk_arcs (base : Nat) (hgd : o.guard = none) (l c : Operand) (hop : o.op = .makeSlice 32 l c) (n : Nat) (L : Int) (hl : a.eval l = .int .i64 L) (hc : a.eval c = .int .i64 L) (hL : L = n) (hn : n ≤ 1000000000) (hb : base ≤ w.heap.size)
    (hk : ∀ w1, OA w1 base (.slice (some ⟨w.heap.size, 0, none⟩) n n) (List.replicate n arcD) → w.grownBy w1 none → wpList Try.prog ops Q rest (a.put o.dst (.slice (some ⟨w.heap.size, 0, none⟩) n n)) w1) :
    wpList Try.prog ops Q (o :: rest) a w := by
  obtain ⟨i0, hi, hz⟩ := Option.map_eq_some_iff.1 info40
  simp only [Prod.mk.injEq] at hz
  obtain ⟨hz0, hz1, hz2⟩ := hz
  refine wpList_make_full w hgd l c 32 hop base 40 i0 _ 5 Try.underlying32 hi hz0 hz1 .i64 .i64 L L n hl hc hL hL (by rw [hz2]; omega) (by simp only [maxLen]; omega) hb ?_
  intro w1 h1 h2
  refine hk w1 ?_ h2
  rw [madeCells_arc] at h1
  unfold OA
  rw [List.length_replicate]
  exact h1
end
end Go.Proofs.Ythglnmhcgagkdaa
