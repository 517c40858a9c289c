/- Laws: a step looked up in the call's own map; steps in a row. -/
import Derived.Test.YthglnmhcgagkdaaJ1
import Derived.Test.YthglnmhcgagkdaaG1
namespace Go.Proofs.Ythglnmhcgagkdaa
open Go.RowKit
theorem zero94 (w : World) : (zeroValue 94).run Try.prog w = .ok (.agg #[.int .i64 0, .bool false]) w := by kernel_rfl
theorem info94 : (Try.prog.info? 94).map (fun i => (i.zero, i.size, i.bytes)) = some (some (.agg #[.int .i64 0, .bool false]), 2, 16) := by kernel_rfl
/-- Steps in a row: their codes. -/
def StepsAt (w : World) (A : Option Addr) (cs : List Int) : Prop := 0 < cs.length → ∃ g o, A = some ⟨g, o, none⟩ ∧ g < w.heap.size ∧ ∀ i, i < cs.length →
  w.cell? ⟨g, o + i * 2, none⟩ = some (.int .i64 (arcNo (cs.getD i 0))) ∧ w.cell? ⟨g, o + i * 2 + 1, none⟩ = some (.bool (isFwd (cs.getD i 0)))
theorem StepsAt.below {w w' : World} {A : Option Addr} {cs : List Int} (h : StepsAt w A cs) (hb : Below w.heap.size w w') : StepsAt w' A cs := fun hp => by
  obtain ⟨g, o, e, hg, hc⟩ := h hp
  exact ⟨g, o, e, Nat.lt_of_lt_of_le hg hb.size, fun i hi => ⟨(cell_keep (hb.block g hg) _).trans (hc i hi).1, (cell_keep (hb.block g hg) _).trans (hc i hi).2⟩⟩
def stepCells (cs : List Int) : List Value := cs.flatMap fun c => [.int .i64 (arcNo c), .bool (isFwd c)]
theorem stepCells_length (cs : List Int) : (stepCells cs).length = cs.length * 2 := by
  induction cs with
  | nil => rfl
  | cons c cs ih =>
    simp only [stepCells, List.flatMap_cons, List.length_append, List.length_cons, List.length_nil] at ih ⊢
    omega
theorem stepCells_append (xs ys : List Int) : stepCells (xs ++ ys) = stepCells xs ++ stepCells ys := by simp [stepCells]
theorem stepCells_at (cs : List Int) (i : Nat) (h : i < cs.length) : (stepCells cs)[i * 2]? = some (.int .i64 (arcNo (cs.getD i 0))) ∧ (stepCells cs)[i * 2 + 1]? = some (.bool (isFwd (cs.getD i 0))) := by
  induction cs generalizing i with
  | nil => simp at h
  | cons c cs ih =>
    cases i with
    | zero => exact ⟨rfl, rfl⟩
    | succ i =>
      have := ih i (by simpa using h)
      have e1 : (i + 1) * 2 = i * 2 + 1 + 1 := by omega
      simp only [stepCells, List.flatMap_cons, List.getD_cons_succ, e1] at this ⊢
      simpa using this
def OS (w : World) (base : Nat) (v : Value) (cs : List Int) : Prop := w.ownsRow base 94 2 v cs.length (stepCells cs)
theorem OS.shape {w : World} {base : Nat} {v : Value} {cs : List Int} (h : OS w base v cs) : ∃ A c, v = .slice A cs.length c ∧ cs.length ≤ c ∧ StepsAt w A cs := by
  obtain ⟨A, c, rfl, hc⟩ := own_shape h
  refine ⟨A, c, rfl, hc, fun hp => ?_⟩
  obtain ⟨g, cap, e, _, _, hg, hcell, _⟩ := own_at h hp
  injection e with e1 _ e2
  refine ⟨g, 0, e1, hg, fun i hi => ?_⟩
  have := stepCells_at cs i hi
  simp only [Nat.zero_add]
  exact ⟨hcell _ _ this.1, hcell _ _ this.2⟩
theorem OS.lit0 (w : World) (base : Nat) (hb : base ≤ w.heap.size) : OS (w.alloc (.cells #[] 94)) base (.slice (some ⟨w.heap.size, 0, none⟩) 0 0) [] :=
  World.ownsRow_lit (base := base) (e := 94) (size := 2) w #[] 0 hb (by simp [maxLen]) (by simp)
section
variable {ops : Array Oper} {rest : List Oper} {o : Oper} {a : Act} {Q : Exit → Act → World → Prop} {w : World}
/-- append(v, s): the variadic's box has just been laid. -/
theorem app_step (base : Nat) (hgd : o.guard = none) (s x : Operand) (ho : o.op = .call { callee := .builtin .append, args := #[s, x], argTypes := #[90, 90] })
    (v : Value) (cs : List Int) (c : Int) (hs : a.eval s = v) (hx : a.eval x = .slice (some ⟨w.heap.size, 0, none⟩) 1 1) (h : OS w base v cs) (hb : base ≤ w.heap.size) (hl : cs.length ≤ 1000000000)
    (hk : ∀ v1 w1, OS w1 base v1 (cs ++ [c]) → w.grownBy w1 v.ownBlock → wpList Try.prog ops Q rest (a.put o.dst v1) w1) :
    wpList Try.prog ops Q (o :: rest) a (w.alloc (.cells #[.int .i64 (arcNo c), .bool (isFwd c)] 94)) := by
  obtain ⟨i0, hi, hz⟩ := Option.map_eq_some_iff.1 info94
  simp only [Prod.mk.injEq] at hz
  obtain ⟨hz0, hz1, hz2⟩ := hz
  refine wpList_append_own _ hgd s x 90 ho base 94 i0 _ 2 16 Try.underlying90 hi hz0 hz1 hz2 rfl (by decide) v cs.length (stepCells cs) hs (World.ownsRow.alloc h _) ⟨w.heap.size, 0, none⟩ 1 1 [.int .i64 (arcNo c), .bool (isFwd c)] hx rfl ?_ ?_ ?_ ?_ ?_ ?_
  · intro j u hu
    have hB := (Blk.new w #[.int .i64 (arcNo c), .bool (isFwd c)] 94).cell j
    match j with
    | 0 => simp at hu; subst hu; exact hB
    | 1 => simp at hu; subst hu; exact hB
    | j + 2 => simp at hu
  · intro u hu; simp at hu; rcases hu with rfl | rfl <;> rfl
  · simp only [maxLen]; omega
  · omega
  · simp; omega
  · intro v1 w1 hown hg _
    refine hk v1 w1 ?_ (gb_trans (World.grownBy_alloc w _ v.ownBlock) hg (.inl rfl))
    unfold OS
    rw [List.length_append, stepCells_append]
    exact hown
theorem wp_lookup_step (hg : o.guard = none) (m x : Operand) (hop : o.op = Op.lookup 113 m x false) (b : Nat) (S : Reach) (h : MapSt w b S) (p : Nat) (hp0 : 0 < p) (hp : p < S.length) (hm : a.eval m = .map (some b)) (y : Int) (hy : y = (S.getD p (0, 0)).1) (hx : a.eval x = .int .i64 y) (hy0 : 0 ≤ y) (hy1 : y ≤ 1000000)
    (c : Int) (hc : c = (S.getD p (0, 0)).2)
    (hK : wpList Try.prog ops Q rest (a.put o.dst (.agg #[.int .i64 (arcNo c), .bool (isFwd c)])) w) :
    wpList Try.prog ops Q (o :: rest) a w := by
  refine wpList_plain hg fun K' hK' => ?_
  obtain ⟨n, D, hown, hn, hD, hat⟩ := h
  have hV : keyOf Try.prog 3 (.int .i64 y) = some (.int .i64 y) := Maps.keyOf_int_mk Try.underlying3 (by
    have m1 : IntKind.i64.min = -9223372036854775808 := rfl
    have m2 : IntKind.i64.max = 9223372036854775807 := rfl
    simp [Lit.wf, m1, m2]; omega)
  obtain ⟨v, ps, hrun, hR⟩ := hown.lookup (Maps.int_keyed Try.underlying3) Try.underlying113 (zero94 w) (stepR_mk 0 false (Int.le_refl _)) hV
  rw [hy, hat p hp0 hp] at hR
  have hv := stepR_inv hR
  rw [← hc] at hv
  subst hv
  unfold Oper.wp
  simp [execOp, hop, hm, hx, hrun, Result.andThen]
  exact hK' _ _ hK
end
/-- What is kept while the way is told. -/
structure BSt (w : World) (nn : Nat) (L : List Arc) (A : Option Addr) (cA gm bm : Nat) (S : Reach) (W : World) : Prop where
  N : Blk W w.heap.size #[.int .i64 nn, .slice A L.length cA] 34
  M : Blk W gm #[.map (some bm)] 113
  P : MapSt W bm S
  G : Below w.heap.size w W
theorem ASt.toB {w : World} {nn : Nat} {L : List Arc} {A : Option Addr} {cA gm gf bm : Nat} {S : Reach} {W : World} (h : ASt w nn L A cA gm gf bm S W) : BSt w nn L A cA gm bm S W := ⟨h.N, h.M, h.P, h.G⟩
theorem BSt.alloc {w : World} {nn : Nat} {L : List Arc} {A : Option Addr} {cA gm bm : Nat} {S : Reach} {W : World} (h : BSt w nn L A cA gm bm S W) (o : Obj) : BSt w nn L A cA gm bm S (W.alloc o) :=
  ⟨h.N.alloc o, h.M.alloc o, h.P.kept (World.grownBy_alloc W o none) (by simp), below_alloc h.G o⟩
theorem BSt.app {w : World} {nn : Nat} {L : List Arc} {A : Option Addr} {cA gm bm : Nat} {S : Reach} {W W' : World} {base : Nat} {v : Value} {cs : List Int} (h : BSt w nn L A cA gm bm S W) (hO : OS W base v cs) (hb : w.heap.size ≤ base) (hg : W.grownBy W' v.ownBlock) : BSt w nn L A cA gm bm S W' := by
  refine ⟨h.N.grown hg (fun e => own_ne_blk hO h.N (by decide) e.symm), h.M.grown hg (fun e => own_ne_blk hO h.M (by decide) e.symm), h.P.kept hg ?_, below_gb h.G hg (fun k hk => by have := (own_ge hO k hk).1; omega)⟩
  obtain ⟨n, D, h1, _⟩ := h.P
  exact map_not_own h1 hO
end Go.Proofs.Ythglnmhcgagkdaa
