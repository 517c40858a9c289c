/- A region that draws its order, by an invariant: each operation once, whatever order is drawn. -/
import Derived.Test.YthglnmhcgagkdaaD1
namespace Go.Proofs.Ythglnmhcgagkdaa
open Go.RowKit
section
variable {P : Program} {ops : Array Oper} {Q : Exit → Act → World → Prop} {md : Region.Mode}
theorem getD_set {l : Array Bool} {i j : Nat} (d : Bool) (hi : i < l.size) : (l.setIfInBounds i true).getD j d = if i = j then true else l.getD j d := by
  by_cases h : i = j
  · subst h; simp [hi]
  · rw [if_neg h, getD_set_ne d h]
theorem count_zero_ready {l : Array Bool} (hs : l.size = ops.size) (hc : l.toList.count false = 0) : Region.ready md ops l = [] := by
  rw [List.eq_nil_iff_forall_not_mem]
  intro i hi
  obtain ⟨h0, o, ho, _⟩ := mem_ready.1 hi
  have hlt : i < l.size := by rw [hs]; exact (Array.getElem?_eq_some_iff.1 ho).1
  have : l[i] = false := by simpa [Array.getD, hlt] using h0
  have hm : false ∈ l.toList := by rw [← this]; exact Array.getElem_mem_toList _
  exact absurd (List.count_pos_iff.2 hm) (by omega)
theorem count_set_lt {l : Array Bool} {i : Nat} (h : l.getD i true = false) : (l.setIfInBounds i true).toList.count false + 1 = l.toList.count false := by
  have hlt : i < l.size := by
    rcases Nat.lt_or_ge i l.size with h' | h'
    · exact h'
    · simp [Array.getElem?_eq_none h'] at h
  have hi : l[i] = false := by simpa [Array.getD, hlt] using h
  have hp : 0 < l.toList.count false := List.count_pos_iff.2 (by rw [← hi]; exact Array.getElem_mem_toList _)
  rw [Array.toList_setIfInBounds, List.count_set (by simpa using hlt)]
  simp only [Array.getElem_toList, hi, show (false == false) = true from rfl, show (true == false) = false from rfl, if_true, Bool.false_eq_true, if_false]
  omega
theorem wpAny_inv (Inv : Array Bool → Act → World → Prop)
    (hstep : ∀ l a w i, l.size = ops.size → Inv l a w → i ∈ Region.ready md ops l → wpOp P ops Q i (Inv (l.setIfInBounds i true)) a w)
    (hdone : ∀ l a w, l.size = ops.size → Inv l a w → Region.ready md ops l = [] → Q .normal a w) :
    ∀ fuel l a w, l.size = ops.size → l.toList.count false ≤ fuel → Inv l a w → wpAny P md ops Q fuel l a w := by
  intro fuel
  induction fuel with
  | zero =>
    intro l a w hs hc hI
    have := count_zero_ready (md := md) (ops := ops) hs (by omega)
    exact ⟨this, hdone l a w hs hI this⟩
  | succ n ih =>
    intro l a w hs hc hI
    refine ⟨hdone l a w hs hI, fun i hi => ?_⟩
    have h0 := (mem_ready.1 hi).1
    have := count_set_lt h0
    exact wpOp_mono (fun a' w' h => ih _ a' w' (by simp [hs]) (by omega) h) (hstep l a w i hs hI hi)
theorem ready_nil_all (hac : ∀ i o, ops[i]? = some o → ∀ e ∈ o.after, Region.binds md e = true → e.on < i) {l : Array Bool} (hs : l.size = ops.size) (hr : Region.ready md ops l = []) :
    ∀ i, i < ops.size → l.getD i false = true := by
  intro i
  induction i using Nat.strongRecOn with
  | ind i ih =>
    intro hi
    have hn : i ∉ Region.ready md ops l := by rw [hr]; simp
    have ho : ops[i]? = some ops[i] := Array.getElem?_eq_getElem hi
    have hli : i < l.size := by omega
    cases hb : l.getD i false with
    | true => rfl
    | false =>
      refine absurd (mem_ready.2 ⟨?_, ops[i], ho, fun e he hbd => ?_⟩) hn
      · simpa [Array.getD, hli] using hb
      · have := hac i _ ho e he hbd
        exact ih _ this (by omega)
theorem wp_region_inv {id : Nat} {a : Act} {w : World} (hm : P.follows .mixedOrders = true) (Inv : Array Bool → Act → World → Prop)
    (hstep : ∀ l a w i K, l.size = ops.size → Inv l a w → i ∈ Region.ready .any ops l → (∀ a' w', Inv (l.setIfInBounds i true) a' w' → K a' w') → wpOp P ops Q i K a w)
    (hdone : ∀ l a w, l.size = ops.size → Inv l a w → Region.ready .any ops l = [] → Q .normal a w)
    (h : Inv (Array.replicate ops.size false) a w.drew) : (Code.region id ops true).wp P Q a w :=
  wp_region_any hm (wpAny_inv Inv (fun l a w i hs hI hi => hstep l a w i _ hs hI hi fun _ _ h => h) hdone _ _ _ _ (by simp) (by simp) h)
theorem wpOp_of {K : Act → World → Prop} {a : Act} {w : World} {i : Nat} {o : Oper} (ho : ops[i]? = some o) (hw : Region.wanted o (yielded ops a.tmps) = true) (h : o.wp P a w K Q) : wpOp P ops Q i K a w := by
  unfold wpOp
  rw [ho]
  simp only [hw, if_true]
  exact .inl h
def acycB (md : Region.Mode) (ops : Array Oper) : Bool := (List.range ops.size).all fun i => match ops[i]? with
  | some o => o.after.all fun e => !Region.binds md e || decide (e.on < i)
  | none => true
theorem acycB_spec (h : acycB md ops = true) : ∀ i o, ops[i]? = some o → ∀ e ∈ o.after, Region.binds md e = true → e.on < i := by
  intro i o ho e he hb
  have := List.all_eq_true.1 h i (List.mem_range.2 (Array.getElem?_eq_some_iff.1 ho).1)
  simp only [ho, Array.all_eq_true_iff_forall_mem] at this
  have := this e he
  rw [hb] at this
  simpa using this
theorem unlisted {l : Array Bool} {i n : Nat} (hs : l.size = n) (hi : i < n) (hu : l.getD i true = false) : l.getD i false = false := by
  rw [Array.getD_eq_getD_getElem?] at hu ⊢
  rw [Array.getElem?_eq_getElem (by omega)] at hu ⊢
  exact hu
def upd (F : Nat → Value) (i : Nat) (v : Value) : Nat → Value := fun k => if k = i then v else F k
end
end Go.Proofs.Ythglnmhcgagkdaa
