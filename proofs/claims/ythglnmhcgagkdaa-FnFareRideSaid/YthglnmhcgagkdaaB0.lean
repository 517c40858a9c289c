/- The laws of append and make, said once over this seat's program and its own words. -/
import Derived.Test.YthglnmhcgagkdaaRows
import Derived.Test.YthglnmhcgagkdaaA0
import Derived.Maps.AppendAt
namespace Go.Proofs.Ythglnmhcgagkdaa
open Go.RowKit
theorem gb_trans {w w1 w2 : World} {r row : Option Nat} (h : w.grownBy w1 r) (h2 : w1.grownBy w2 row) (hr : row = r ∨ ∀ k, row = some k → w.heap.size ≤ k) : w.grownBy w2 r :=
  ⟨h2.os.trans h.os, h2.tape.trans h.tape, h2.output.trans h.output, Nat.le_trans h.size h2.size, fun k hk hne =>
    (h2.block k (Nat.lt_of_lt_of_le hk h.size) (by
      rcases hr with rfl | hr
      · exact hne
      · intro e; have := hr k e.symm; omega)).trans (h.block k hk hne)⟩
theorem gb_refl (w : World) (r : Option Nat) : w.grownBy w r := ⟨rfl, rfl, rfl, Nat.le_refl _, fun _ _ _ => rfl⟩
theorem gb_alloc {w w1 : World} {r : Option Nat} (h : w.grownBy w1 r) (o : Obj) : w.grownBy (w1.alloc o) r := gb_trans h (World.grownBy_alloc w1 o none) (.inr (fun _ h => by cases h))
theorem gb_below {w w1 w2 : World} {r : Option Nat} (h : w.grownBy w1 r) (hb : Below w1.heap.size w1 w2) : w.grownBy w2 r :=
  gb_trans h (row := none) ⟨hb.os, hb.tape, hb.output, hb.size, fun k hk _ => hb.block k hk⟩ (.inr (fun _ h => by cases h))
theorem below_gb {w w1 w2 : World} {row : Option Nat} (h : Below w.heap.size w w1) (h2 : w1.grownBy w2 row) (hr : ∀ k, row = some k → w.heap.size ≤ k) : Below w.heap.size w w2 := h.grown h2 h.size hr
theorem gb_set_new {w w1 : World} {r : Option Nat} (h : w.grownBy w1 r) {p : Addr} (hp : w.heap.size ≤ p.block) (u : Value) : w.grownBy (w1.setCell p u) r :=
  ⟨h.os, h.tape, h.output, by simpa using h.size, fun k hk hne => (Below.heap_setCell w1 p u k (by omega)).trans (h.block k hk hne)⟩
theorem OI.grown {w w1 : World} {base g : Nat} {v : Value} {xs : List Int} (h : OI w base v xs) (hg : w.grownBy w1 (some g)) (hlt : g < base) : OI w1 base v xs :=
  own_move h (fun k _ hb hk => hg.block k hk (fun e => by injection e with e; omega))
theorem OI.below {w w1 : World} {base : Nat} {v : Value} {xs : List Int} (h : OI w base v xs) (hb : Below w.heap.size w w1) : OI w1 base v xs := own_below h hb
theorem OA.below {w w1 : World} {base : Nat} {v : Value} {xs : List Arc} (h : OA w base v xs) (hb : Below w.heap.size w w1) : OA w1 base v xs := own_below h hb
theorem OA.grown {w w1 : World} {base g : Nat} {v : Value} {xs : List Arc} (h : OA w base v xs) (hg : w.grownBy w1 (some g)) (hlt : g < base) : OA w1 base v xs :=
  own_move h (fun k _ hb hk => hg.block k hk (fun e => by injection e with e; omega))

theorem info3 : (Try.prog.info? 3).map (fun i => (i.zero, i.size, i.bytes)) = some (some (.int .i64 0), 1, 8) := by kernel_rfl
theorem info4 : (Try.prog.info? 4).map (fun i => (i.zero, i.size, i.bytes)) = some (some (.bool false), 1, 1) := by kernel_rfl
theorem info23 : (Try.prog.info? 23).map (fun i => (i.zero, i.size, i.bytes)) = some (some (.slice none 0 0), 1, 24) := by kernel_rfl
theorem info40 : (Try.prog.info? 40).map (fun i => (i.zero, i.size, i.bytes)) = some (some (.agg #[.int .i64 0, .int .i64 0, .int .i64 0, .int .i64 0, .int .i64 0]), 5, 40) := by kernel_rfl
section
variable {ops : Array Oper} {rest : List Oper} {o : Oper} {a : Act} {Q : Exit → Act → World → Prop} {w : World}
/-- append(v, y), v of ints and the call's own; the variadic's box has just been laid. -/
theorem app_int (base : Nat) (hgd : o.guard = none) (s x : Operand) (ho : o.op = .call { callee := .builtin .append, args := #[s, x], argTypes := #[23, 23] })
    (v : Value) (xs : List Int) (y : Int) (hs : a.eval s = v) (hx : a.eval x = .slice (some ⟨w.heap.size, 0, none⟩) 1 1) (h : OI w base v xs) (hb : base ≤ w.heap.size) (hl : xs.length ≤ 1000000000)
    (hk : ∀ v1 w1, OI w1 base v1 (xs ++ [y]) → w.grownBy w1 v.ownBlock → wpList Try.prog ops Q rest (a.put o.dst v1) w1) :
    wpList Try.prog ops Q (o :: rest) a (w.alloc (.cells #[.int .i64 y] 3)) := by
  obtain ⟨i0, hi, hz⟩ := Option.map_eq_some_iff.1 info3
  simp only [Prod.mk.injEq] at hz
  obtain ⟨hz0, hz1, hz2⟩ := hz
  refine wpList_append_own _ hgd s x 23 ho base 3 i0 (.int .i64 0) 1 8 Try.underlying23 hi hz0 hz1 hz2 rfl (by decide) v xs.length (nums xs) hs (World.ownsRow.alloc h _) ⟨w.heap.size, 0, none⟩ 1 1 [.int .i64 y] hx rfl ?_ ?_ ?_ ?_ ?_ ?_
  · intro j u hu
    cases j with
    | zero =>
      simp at hu; subst hu
      exact (Blk.new w #[.int .i64 y] 3).cell 0
    | succ j => simp at hu
  · intro u hu; simp at hu; subst hu; rfl
  · simp only [maxLen]; omega
  · omega
  · simp; omega
  · intro v1 w1 hown hg _
    refine hk v1 w1 ?_ (gb_trans (World.grownBy_alloc w _ v.ownBlock) hg (.inl rfl))
    unfold OI
    rw [List.length_append, nums_append]
    exact hown
end
section
variable {P : Program} (w : World)
theorem run_app_none (base : Nat) (t ty e : TypeId) (i : TypeInfo) (size : Nat) (ht : P.underlying t = some (.slice e)) (hi : P.info? e = some i)
    (v : Value) (n : Nat) (xs : List Value) (hown : w.ownsRow base e size v n xs) (c : Nat) : (Builtin.append_ #[t, t] ty #[v, .slice none 0 c]).run P w = .ok v w := by
  rcases hown.2 with ⟨rfl, rfl⟩ | ⟨g, cap, cur, rfl, _, _, hnc, _⟩
  · simp [Builtin.append_, run_underlying ht, sizeOf, typeInfo, hi, Builtin.lenOf, Builtin.firstCells]
  · simp [Builtin.append_, run_underlying ht, sizeOf, typeInfo, hi, Builtin.lenOf, Builtin.firstCells, hnc, storeCells]
/-- append of whatever came in: where the new row lies is told too. -/
theorem run_app (base : Nat) (t ty e : TypeId) (i : TypeInfo) (z : Value) (size bytes : Nat) (ht : P.underlying t = some (.slice e)) (hi : P.info? e = some i) (hz : i.zero = some z)
    (hsize : i.size = size) (hby : i.bytes = bytes) (hzs : z.cells.size = size) (hsz : 0 < size)
    (v : Value) (n : Nat) (xs : List Value) (hown : w.ownsRow base e size v n xs)
    (A : Option Addr) (m c : Nat) (news : List Value) (hl : news.length = m * size) (hr : 0 < m → ∃ g o, A = some ⟨g, o, none⟩ ∧ ∀ j u, news[j]? = some u → w.cell? ⟨g, o + j, none⟩ = some u) (h1 : ∀ u ∈ news, u.oneCell' = true)
    (h63 : n + m ≤ maxLen) (hbytes : (n + m) * bytes ≤ 140737488355328) (hbase : base ≤ w.heap.size) :
    ∃ v' w', (Builtin.append_ #[t, t] ty #[v, .slice A m c]).run P w = .ok v' w' ∧ w'.ownsRow base e size v' (n + m) (xs ++ news) ∧ w.grownBy w' v.ownBlock ∧ (v'.ownBlock = v.ownBlock ∨ v'.ownBlock = some w.heap.size) := by
  rcases Nat.eq_zero_or_pos m with h0 | h0
  · subst h0
    have hn : news = [] := List.eq_nil_of_length_eq_zero (by simpa using hl)
    subst hn
    rcases A with _ | ad
    · exact ⟨v, w, run_app_none w base t ty e i size ht hi v n xs hown c, by simpa using hown, gb_refl w _, .inl rfl⟩
    · obtain ⟨v', w', hrun, h2, h3, _, h5⟩ := run_append_own_at (P := P) w base t ty e i z size bytes ht hi hz hsize hby hzs hsz v n xs hown ad 0 c [] hl (by simp) h1 h63 hbytes hbase
      exact ⟨v', w', hrun, h2, h3, h5⟩
  · obtain ⟨g, o, rfl, hc⟩ := hr h0
    have hadd : ∀ j, (⟨g, o, none⟩ : Addr).add j = ⟨g, o + j, none⟩ := fun j => by unfold Addr.add; split <;> simp_all
    obtain ⟨v', w', hrun, h2, h3, _, h5⟩ := run_append_own_at (P := P) w base t ty e i z size bytes ht hi hz hsize hby hzs hsz v n xs hown ⟨g, o, none⟩ m c news hl (fun j u hu => by rw [hadd]; exact hc j u hu) h1 h63 hbytes hbase
    exact ⟨v', w', hrun, h2, h3, h5⟩
end
section
variable {ops : Array Oper} {rest : List Oper} {o : Oper} {a : Act} {Q : Exit → Act → World → Prop} {w : World}
theorem wp_app {K : Act → World → Prop} (s x : Operand) (t : TypeId) (ho : o.op = .call { callee := .builtin .append, args := #[s, x], argTypes := #[t, t] }) {v u v' : Value} {w' : World} (hs : a.eval s = v) (hx : a.eval x = u)
    (hrun : (Builtin.append_ #[t, t] o.type #[v, u]).run Try.prog w = .ok v' w') (h : K (a.put o.dst v') w') : o.wp Try.prog a w K Q := by
  unfold Oper.wp execOp
  simp only [ho, resolve, invoke, builtin, Sem.run_bind, Sem.run_pure, Result.andThen_ok, List.map_toArray, List.map_cons, List.map_nil, hs, hx, hrun]
  exact h
theorem IntsAt.cells {A : Option Addr} {ys : List Int} (hA : IntsAt w A ys) : 0 < ys.length → ∃ g o, A = some ⟨g, o, none⟩ ∧ ∀ j u, (nums ys)[j]? = some u → w.cell? ⟨g, o + j, none⟩ = some u := fun hp => by
  obtain ⟨g, o, e, _, hc⟩ := hA hp
  refine ⟨g, o, e, fun j u hu => ?_⟩
  have hj : j < ys.length := by have := (List.getElem?_eq_some_iff.1 hu).1; simpa [nums] using this
  rw [nums_at ys j hj] at hu
  rw [← hu]; exact hc j hj
theorem run_app_ints (ty : TypeId) (base : Nat) (v : Value) (xs ys : List Int) (A : Option Addr) (c : Nat) (hA : IntsAt w A ys) (h : OI w base v xs) (hb : base ≤ w.heap.size) (hl : xs.length + ys.length ≤ 1000000000) :
    ∃ v' w', (Builtin.append_ #[23, 23] ty #[v, .slice A ys.length c]).run Try.prog w = .ok v' w' ∧ OI w' base v' (xs ++ ys) ∧ w.grownBy w' v.ownBlock ∧ (v'.ownBlock = v.ownBlock ∨ v'.ownBlock = some w.heap.size) := by
  obtain ⟨i0, hi, hz⟩ := Option.map_eq_some_iff.1 info3
  simp only [Prod.mk.injEq] at hz
  obtain ⟨hz0, hz1, hz2⟩ := hz
  obtain ⟨v', w', h1, h2, h3, h4⟩ := run_app w base 23 ty 3 i0 (.int .i64 0) 1 8 Try.underlying23 hi hz0 hz1 hz2 rfl (by decide) v xs.length (nums xs) h A ys.length c (nums ys) (by rw [nums_length, Nat.mul_one]) hA.cells (nums_one ys) (by simp only [maxLen]; omega) (by omega) hb
  refine ⟨v', w', h1, ?_, h3, h4⟩
  unfold OI
  rw [List.length_append, nums_append]
  exact h2
/-- append(v, ys...), ys of ints, whatever came in. -/
theorem app_ints (base : Nat) (hgd : o.guard = none) (s x : Operand) (ho : o.op = .call { callee := .builtin .append, args := #[s, x], argTypes := #[23, 23] })
    (v : Value) (xs ys : List Int) (A : Option Addr) (c : Nat) (hs : a.eval s = v) (hx : a.eval x = .slice A ys.length c) (hA : IntsAt w A ys) (h : OI w base v xs) (hb : base ≤ w.heap.size) (hl : xs.length + ys.length ≤ 1000000000)
    (hk : ∀ v1 w1, OI w1 base v1 (xs ++ ys) → w.grownBy w1 v.ownBlock → (v1.ownBlock = v.ownBlock ∨ v1.ownBlock = some w.heap.size) → wpList Try.prog ops Q rest (a.put o.dst v1) w1) :
    wpList Try.prog ops Q (o :: rest) a w := by
  obtain ⟨v', w', h1, h2, h3, h4⟩ := run_app_ints o.type base v xs ys A c hA h hb hl
  exact wpList_plain hgd fun _ hK => wp_app s x 23 ho hs hx h1 (hK _ _ (hk v' w' h2 h3 h4))
theorem ArcsAt.cells {A : Option Addr} {ys : List Arc} (hA : ArcsAt w A ys) : 0 < ys.length → ∃ g o, A = some ⟨g, o, none⟩ ∧ ∀ j u, (arcCells ys)[j]? = some u → w.cell? ⟨g, o + j, none⟩ = some u := fun hp => by
  obtain ⟨g, o, e, _, hc⟩ := hA hp
  refine ⟨g, o, e, fun j u hu => ?_⟩
  have hj : j < ys.length * 5 := by have := (List.getElem?_eq_some_iff.1 hu).1; rwa [arcCells_length] at this
  have hi : j / 5 < ys.length := by omega
  have e : j = j / 5 * 5 + j % 5 := by omega
  have h5 : j % 5 < 5 := by omega
  rw [e] at hu ⊢
  rw [arcCells_at ys (j / 5) (j % 5) hi h5] at hu
  obtain ⟨h0, h1, h2, h3, h4⟩ := hc (j / 5) hi
  rw [← hu, ← Nat.add_assoc]
  have : j % 5 = 0 ∨ j % 5 = 1 ∨ j % 5 = 2 ∨ j % 5 = 3 ∨ j % 5 = 4 := by omega
  rcases this with h | h | h | h | h <;> rw [h]
  · exact h0
  · exact h1
  · exact h2
  · exact h3
  · exact h4
theorem arc_one (xs : List Arc) : ∀ u ∈ arcCells xs, u.oneCell' = true := by
  intro u hu
  obtain ⟨x, _, hx⟩ := List.mem_flatMap.1 hu
  simp only [Arc.cells, List.mem_cons, List.not_mem_nil, or_false] at hx
  rcases hx with rfl | rfl | rfl | rfl | rfl <;> rfl
theorem run_app_arcs (ty : TypeId) (base : Nat) (v : Value) (xs ys : List Arc) (A : Option Addr) (c : Nat) (hA : ArcsAt w A ys) (h : OA w base v xs) (hb : base ≤ w.heap.size) (hl : xs.length + ys.length ≤ 1000000000) :
    ∃ v' w', (Builtin.append_ #[32, 32] ty #[v, .slice A ys.length c]).run Try.prog w = .ok v' w' ∧ OA w' base v' (xs ++ ys) ∧ w.grownBy w' v.ownBlock ∧ (v'.ownBlock = v.ownBlock ∨ v'.ownBlock = some w.heap.size) := by
  obtain ⟨i0, hi, hz⟩ := Option.map_eq_some_iff.1 info40
  simp only [Prod.mk.injEq] at hz
  obtain ⟨hz0, hz1, hz2⟩ := hz
  obtain ⟨v', w', h1, h2, h3, h4⟩ := run_app w base 32 ty 40 i0 _ 5 40 Try.underlying32 hi hz0 hz1 hz2 rfl (by decide) v xs.length (arcCells xs) h A ys.length c (arcCells ys) (arcCells_length _) hA.cells (arc_one ys) (by simp only [maxLen]; omega) (by omega) hb
  refine ⟨v', w', h1, ?_, h3, h4⟩
  unfold OA
  rw [List.length_append, arcCells_append]
  exact h2
theorem app_arcs (base : Nat) (hgd : o.guard = none) (s x : Operand) (ho : o.op = .call { callee := .builtin .append, args := #[s, x], argTypes := #[32, 32] })
    (v : Value) (xs ys : List Arc) (A : Option Addr) (c : Nat) (hs : a.eval s = v) (hx : a.eval x = .slice A ys.length c) (hA : ArcsAt w A ys) (h : OA w base v xs) (hb : base ≤ w.heap.size) (hl : xs.length + ys.length ≤ 1000000000)
    (hk : ∀ v1 w1, OA w1 base v1 (xs ++ ys) → w.grownBy w1 v.ownBlock → (v1.ownBlock = v.ownBlock ∨ v1.ownBlock = some w.heap.size) → wpList Try.prog ops Q rest (a.put o.dst v1) w1) :
    wpList Try.prog ops Q (o :: rest) a w := by
  obtain ⟨v', w', h1, h2, h3, h4⟩ := run_app_arcs o.type base v xs ys A c hA h hb hl
  exact wpList_plain hgd fun _ hK => wp_app s x 32 ho hs hx h1 (hK _ _ (hk v' w' h2 h3 h4))
theorem IntsAt.lit (w : World) (xs : List Int) : IntsAt (w.alloc (.cells (nums xs).toArray 3)) (some ⟨w.heap.size, 0, none⟩) xs := fun _ =>
  ⟨w.heap.size, 0, rfl, by simp, fun i hi => by
    rw [Nat.zero_add, (Blk.new w (nums xs).toArray 3).cell i, List.getElem?_toArray]; exact nums_at xs i hi⟩
theorem OI.lit (w : World) (base : Nat) (xs : List Int) (hb : base ≤ w.heap.size) (hl : xs.length ≤ 1000000000) : OI (w.alloc (.cells (nums xs).toArray 3)) base (.slice (some ⟨w.heap.size, 0, none⟩) xs.length xs.length) xs := by
  have := World.ownsRow_lit (base := base) (e := 3) (size := 1) w (nums xs).toArray xs.length hb (by simp only [maxLen]; omega) (by simp [nums])
  unfold OI
  simpa using this
/-- make([]int, n) -/
theorem mk_ints (base : Nat) (hgd : o.guard = none) (l c : Operand) (hop : o.op = .makeSlice 23 l c) (n : Nat) (L : Int) (hl : a.eval l = .int .i64 L) (hc : a.eval c = .int .i64 L) (hL : L = n) (hn : n ≤ 1000000000) (hb : base ≤ w.heap.size)
    (hk : ∀ w1, OI w1 base (.slice (some ⟨w.heap.size, 0, none⟩) n n) (List.replicate n 0) → w.grownBy w1 none → wpList Try.prog ops Q rest (a.put o.dst (.slice (some ⟨w.heap.size, 0, none⟩) n n)) w1) :
    wpList Try.prog ops Q (o :: rest) a w := by
  obtain ⟨i0, hi, hz⟩ := Option.map_eq_some_iff.1 info3
  simp only [Prod.mk.injEq] at hz
  obtain ⟨hz0, hz1, hz2⟩ := hz
  refine wpList_make_full w hgd l c 23 hop base 3 i0 (.int .i64 0) 1 Try.underlying23 hi hz0 hz1 .i64 .i64 L L n hl hc hL hL (by rw [hz2]; omega) (by simp only [maxLen]; omega) hb ?_
  intro w1 h1 h2
  refine hk w1 ?_ h2
  rw [madeCells_int] at h1
  unfold OI
  rw [List.length_replicate]
  exact h1
/-- make([]int, 0, n) -/
theorem mk_room (base : Nat) (hgd : o.guard = none) (l c : Operand) (hop : o.op = .makeSlice 23 l c) (n : Nat) (C : Int) (hl : a.eval l = .int .i64 0) (hc : a.eval c = .int .i64 C) (hC : C = n) (hn : n ≤ 1000000000) (hb : base ≤ w.heap.size)
    (hk : ∀ w1, OI w1 base (.slice (some ⟨w.heap.size, 0, none⟩) 0 n) [] → w.grownBy w1 none → wpList Try.prog ops Q rest (a.put o.dst (.slice (some ⟨w.heap.size, 0, none⟩) 0 n)) w1) :
    wpList Try.prog ops Q (o :: rest) a w := by
  obtain ⟨i0, hi, hz⟩ := Option.map_eq_some_iff.1 info3
  simp only [Prod.mk.injEq] at hz
  obtain ⟨hz0, hz1, hz2⟩ := hz
  exact wpList_make_own w hgd l c 23 hop base 3 i0 (.int .i64 0) 1 Try.underlying23 hi hz0 hz1 .i64 .i64 C n hl hc hC (by rw [hz2]; omega) (by simp only [maxLen]; omega) hb hk
end
theorem elem23 : Try.prog.elem 23 = 3 := by simp [Program.elem, Try.underlying23]
theorem run_drop (g o n c : Nat) (k : Int) (h0 : 0 ≤ k) (hk : k ≤ n) (hne : ¬ ((c : Int) = k)) (w : World) :
    (Instr.slice 23 (.slice (some ⟨g, o, none⟩) n c) (some (.int .i64 k)) none none).run Try.prog w = .ok (.slice (some ⟨g, o + k.toNat, none⟩) (n - k.toNat) (c - k.toNat)) w := by
  obtain ⟨i0, hi, hz⟩ := Option.map_eq_some_iff.1 info3
  simp only [Prod.mk.injEq] at hz
  obtain ⟨hz0, hz1, hz2⟩ := hz
  have hu : Try.prog.underlying 23 = some (.slice (Try.prog.elem 23)) := by rw [elem23]; exact Try.underlying23
  have ht : (Instr.slice 23 (.slice (some ⟨g, o, none⟩) n c) (some (.int .i64 k)) none none).run Try.prog w = _ := run_slice_l w 23 (some ⟨g, o, none⟩) n c hu .i64 k h0 hk
  rw [ht, elem23]
  have hne' : ¬ (c = k.toNat) := by omega
  have hadd : (⟨g, o, none⟩ : Addr).add k.toNat = ⟨g, o + k.toNat, none⟩ := by unfold Addr.add; split <;> simp_all
  simp [sizeOf, typeInfo, hi, hz1, sliced, Result.andThen, hne', hadd]
theorem IntsAt.drop {w : World} {g o : Nat} {xs : List Int} (h : IntsAt w (some ⟨g, o, none⟩) xs) (k : Nat) : IntsAt w (some ⟨g, o + k, none⟩) (xs.drop k) := fun hp => by
  simp only [List.length_drop] at hp
  obtain ⟨g', o', e, hg, hc⟩ := h (by omega)
  injection e with e
  injection e with e1 e2
  subst e1 e2
  refine ⟨g, o + k, rfl, hg, fun i hi => ?_⟩
  simp only [List.length_drop] at hi
  have := hc (k + i) (by omega)
  rw [← Nat.add_assoc] at this
  rw [this]
  simp [List.getD_eq_getElem?_getD]
end Go.Proofs.Ythglnmhcgagkdaa
