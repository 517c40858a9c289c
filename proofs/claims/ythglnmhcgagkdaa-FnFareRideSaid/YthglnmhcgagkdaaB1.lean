/- Rows of rows of ints that a call makes. -/
import Derived.Test.YthglnmhcgagkdaaB0
import Derived.Test.YthglnmhcgagkdaaA4
namespace Go.Proofs.Ythglnmhcgagkdaa
open Go.RowKit
theorem own_apart {w : World} {b b' : Nat} {e e' : TypeId} {s s' n n' : Nat} {v v' : Value} {xs xs' : List Value} (h : w.ownsRow b e s v n xs) (h' : w.ownsRow b' e' s' v' n' xs') (hne : e ≠ e') : ∀ k, v.ownBlock = some k → v'.ownBlock ≠ some k := by
  intro k hk hk'
  rcases h.2 with ⟨rfl, _⟩ | ⟨g, cap, cur, rfl, _, hh, _⟩
  · simp [Value.ownBlock] at hk
  rcases h'.2 with ⟨rfl, _⟩ | ⟨g', cap', cur', rfl, _, hh', _⟩
  · simp [Value.ownBlock] at hk'
  simp [Value.ownBlock] at hk hk'
  subst hk hk'
  rw [hh] at hh'
  injection hh' with hh'
  injection hh' with _ ht
  exact hne ht
def OR (w : World) (base : Nat) (v : Value) (rows : List (List Int)) : Prop :=
  ∃ cs : List Value, w.ownsRow base 23 1 v rows.length cs ∧ ∀ i, i < rows.length → ∃ u, cs[i]? = some u ∧ OI w base u (rows.getD i [])
theorem OR.move {w w1 : World} {base : Nat} {v : Value} {rows : List (List Int)} (h : OR w base v rows) (hk : ∀ k, base ≤ k → k < w.heap.size → w1.heap[k]? = w.heap[k]?) : OR w1 base v rows := by
  obtain ⟨cs, h1, h2⟩ := h
  refine ⟨cs, own_move h1 (fun k _ hb hs => hk k hb hs), fun i hi => ?_⟩
  obtain ⟨u, h3, h4⟩ := h2 i hi
  exact ⟨u, h3, own_move h4 (fun k _ hb hs => hk k hb hs)⟩
theorem OR.below {w w1 : World} {base : Nat} {v : Value} {rows : List (List Int)} (h : OR w base v rows) (hb : Below w.heap.size w w1) : OR w1 base v rows := h.move (fun k _ hs => hb.block k hs)
theorem OR.grown {w w1 : World} {base g : Nat} {v : Value} {rows : List (List Int)} (h : OR w base v rows) (hg : w.grownBy w1 (some g)) (hlt : g < base) : OR w1 base v rows := h.move (fun k hb hs => hg.block k hs (fun e => by injection e with e; omega))
theorem OR.shape {w : World} {base : Nat} {v : Value} {rows : List (List Int)} (h : OR w base v rows) (hl : ∀ i, i < rows.length → (rows.getD i []).length ≤ 140737488351232) : ∃ A c, v = .slice A rows.length c ∧ rows.length ≤ c ∧ RowsAt w A rows := by
  obtain ⟨cs, h1, h2⟩ := h
  obtain ⟨A, c, rfl, hc⟩ := own_shape h1
  refine ⟨A, c, rfl, hc, fun hp => ?_⟩
  obtain ⟨g, cap, e, _, _, hg, hcell, _⟩ := own_at h1 hp
  injection e with e1 _ e2
  refine ⟨g, 0, e1, hg, fun i hi => ?_⟩
  obtain ⟨u, h3, h4⟩ := h2 i hi
  obtain ⟨A', c', rfl, hc', hA'⟩ := h4.shape
  exact ⟨A', c', by rw [Nat.zero_add]; exact hcell i _ h3, hl i hi, hc', hA'⟩
theorem OR.lit0 (w : World) : OR (w.alloc (.cells #[] 23)) w.heap.size (.slice (some ⟨w.heap.size, 0, none⟩) 0 0) [] :=
  ⟨[], World.ownsRow_made (size := 1) w #[] 0 (Nat.le_refl _) (by simp [maxLen]) rfl, fun i hi => absurd hi (by simp)⟩
section
variable {ops : Array Oper} {rest : List Oper} {o : Oper} {a : Act} {Q : Exit → Act → World → Prop} {w : World}
/-- append(v, u), v of rows, both the call's own. -/
theorem app_row (base : Nat) (hgd : o.guard = none) (s x : Operand) (ho : o.op = .call { callee := .builtin .append, args := #[s, x], argTypes := #[26, 26] })
    (v u : Value) (rows : List (List Int)) (y : List Int) (hs : a.eval s = v) (hx : a.eval x = .slice (some ⟨w.heap.size, 0, none⟩) 1 1) (h : OR w base v rows) (hu : OI w base u y) (hb : base ≤ w.heap.size) (hl : rows.length ≤ 1000000000)
    (hk : ∀ v1 w1, OR w1 base v1 (rows ++ [y]) → w.grownBy w1 v.ownBlock → wpList Try.prog ops Q rest (a.put o.dst v1) w1) :
    wpList Try.prog ops Q (o :: rest) a (w.alloc (.cells #[u] 23)) := by
  obtain ⟨i0, hi, hz⟩ := Option.map_eq_some_iff.1 info23
  simp only [Prod.mk.injEq] at hz
  obtain ⟨hz0, hz1, hz2⟩ := hz
  obtain ⟨cs, h1, h2⟩ := h
  obtain ⟨A, n, c, rfl⟩ : ∃ A n c, u = .slice A n c := by obtain ⟨A, c, e, _⟩ := hu.shape; exact ⟨A, _, c, e⟩
  refine wpList_append_own _ hgd s x 26 ho base 23 i0 (.slice none 0 0) 1 24 Try.underlying26 hi hz0 hz1 hz2 rfl (by decide) v rows.length cs hs (World.ownsRow.alloc h1 _) ⟨w.heap.size, 0, none⟩ 1 1 [.slice A n c] hx rfl ?_ ?_ ?_ ?_ ?_ ?_
  · intro j u hu
    cases j with
    | zero =>
      simp at hu; subst hu
      exact (Blk.new w #[.slice A n c] 23).cell 0
    | succ j => simp at hu
  · intro u hu; simp at hu; subst hu; rfl
  · simp only [maxLen]; omega
  · omega
  · simp; omega
  · intro v1 w1 hown hg _
    have hg1 := gb_trans (World.grownBy_alloc w (.cells #[.slice A n c] 23) v.ownBlock) hg (.inl rfl)
    refine hk v1 w1 ⟨cs ++ [.slice A n c], by rw [List.length_append]; exact hown, fun i hi => ?_⟩ hg1
    have hcl : cs.length = rows.length := by have := h1.1; omega
    rw [List.length_append, List.length_singleton] at hi
    by_cases hlt : i < rows.length
    · obtain ⟨u, h3, h4⟩ := h2 i hlt
      refine ⟨u, by rw [List.getElem?_append_left (by omega)]; exact h3, ?_⟩
      have e : (rows ++ [y]).getD i [] = rows.getD i [] := by simp [List.getD_eq_getElem?_getD, List.getElem?_append_left hlt]
      rw [e]
      exact own_move h4 (fun k hk _ hs => hg1.block k hs (fun e => own_apart h4 h1 (by decide) k hk e.symm))
    · have hie : i = rows.length := by omega
      subst hie
      refine ⟨.slice A n c, by rw [List.getElem?_append_right (by omega), hcl]; simp, ?_⟩
      have e : (rows ++ [y]).getD rows.length [] = y := by simp [List.getD_eq_getElem?_getD]
      rw [e]
      exact own_move hu (fun k hk _ hs => hg1.block k hs (fun e => own_apart hu h1 (by decide) k hk e.symm))
end
end Go.Proofs.Ythglnmhcgagkdaa
