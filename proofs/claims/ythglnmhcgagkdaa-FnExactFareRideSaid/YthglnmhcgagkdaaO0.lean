/- Arguments opened: nets, lists of ints. -/
import Derived.Test.YthglnmhcgagkdaaRows
import Derived.Test.YthglnmhcgagkdaaA0
import Derived.Deep.Slices
import Derived.Deep.Fields
import Derived.ChangeSame
import Derived.Lib.SmallJoins
import Derived.WalkKit
import Derived.ProofKit
import Derived.OpenShut
import Derived.ShutString
import Derived.ChangeOld
import Derived.Below
namespace Go.Proofs.Ythglnmhcgagkdaa
open Go.ChangeShapes Go.WideShapes Go.Deep Go.RowKit Go.Joins
section
variable {H : Type} {enc : TypeId × Value → H} {P : Program} {w : World} {base : Nat} {spare : Nat → Bool} {held : Bool}
theorem open_slice_fields {t e : TypeId} {fs : Array Field} {fuel : Nat} {cs : List Value} {x : DataW H × List MemPlace} (ht : P.underlying t = some (.slice e)) (he : P.underlying e = some (.struct fs))
    (hone : oneCellFields P fs = true) (hC : P.cellsOf e = fs.size) (h : DataW.trod enc P w base spare held fuel t cs = some x) :
    (cs = [.slice none 0 0] ∧ x = (.nil, [])) ∨
    ∃ (a : Addr) (len cap m : Nat) (D : Nat → DataW H) (Pl : Nat → List MemPlace), cs = [.slice (some a) len cap] ∧ base ≤ a.block ∧ len ≤ cap ∧ cap ≤ maxLen ∧ m = (if spare a.block then cap else len) ∧
      x = (.slice ((List.range len).map D) ((List.range (m - len)).map fun j => D (len + j)), MemPlace.row a (m * fs.size) ++ (List.range m).flatMap Pl) ∧
      ∀ i, i < m → ∃ (ys : List (DataW H × List MemPlace)) (n : Nat), D i = .agg (ys.map (·.1)) ∧ Pl i = ys.flatMap (·.2) ∧ ys.length = fs.size ∧
        ∀ (j : Nat) (f : Field), fs[j]? = some f → ∃ (v : Value) (y : DataW H × List MemPlace), w.cell? (a.add (i * fs.size + j)) = some v ∧ ys[j]? = some y ∧ DataW.trod enc P w base spare held n f.type [v] = some y := by
  rcases open_slice ht h with h0 | ⟨a, len, cap, m, n, D, Pl, hcs, hb, hl, hm, hmm, hx, hi⟩
  · exact .inl h0
  · refine .inr ⟨a, len, cap, m, D, Pl, hcs, hb, hl, hm, hmm, by rw [hC] at hx; exact hx, fun i him => ?_⟩
    obtain ⟨cs', hc, ht'⟩ := hi i him
    rw [hC] at hc
    obtain ⟨ys, n', hn', hy, hlen, hyl, hf⟩ := DataW.trod_struct he ht'
    obtain ⟨_, hcl, hat⟩ := World.cells?_some hc
    simp only [Prod.mk.injEq] at hy
    refine ⟨ys, n', hy.1, hy.2, hyl, fun j f hj => ?_⟩
    obtain ⟨ho, hk⟩ := hone_of hone j f hj
    have hjl : j < fs.size := (Array.getElem?_eq_some_iff.1 hj).1
    have hcell := hat j hjl
    have hv : cs'[j]? = some (cs'[j]'(by omega)) := List.getElem?_eq_getElem (by omega)
    have h1 := hf j f hj
    rw [ho, hk] at h1
    have hone' : (cs'.drop j).take 1 = [cs'[j]'(by omega)] := by
      rw [List.drop_eq_getElem_cons (by omega)]
      rfl
    rw [hone'] at h1
    have hys : ys[j]? = some (ys[j]'(by omega)) := List.getElem?_eq_getElem (by omega)
    refine ⟨_, _, ?_, hys, h1.trans hys⟩
    rw [← Go.Deep.add_add, hcell, hv]
end
section
variable {H : Type} {enc : TypeId × Value → H} {W : World} {base : Nat} {spare : Nat → Bool} {held : Bool}
/-- A slice of arcs that came in. -/
theorem arcs_open {n : Nat} {v : Value} {y : DataW H × List MemPlace} (h : DataW.trod enc Try.prog W base spare held n 51 [v] = some y) : ∃ A c L, v = .slice A (List.length L) c ∧ ArcsAt W A L ∧ L.length ≤ c ∧ L.length ≤ 9223372036854775807 := by
  rcases open_slice_fields (e := 116) Try.underlying51 Try.underlying116 (by kernel_rfl) (by kernel_rfl) h with ⟨hcs, _⟩ | ⟨a, len, cap, m, D, Pl, hcs, _, hl, hm, hmm, _, hi⟩
  · simp at hcs
    subst hcs
    exact ⟨none, 0, [], rfl, ArcsAt.nil _ _, Nat.le_refl _, Nat.zero_le _⟩
  · simp at hcs
    subst hcs
    have hlm : len ≤ m := by rw [hmm]; split <;> omega
    have hcell : ∀ i j, i < len → j < 5 → ∃ x : Int, W.cell? (a.add (i * 5 + j)) = some (.int .i64 x) := fun i j hi' hj => by
      obtain ⟨ys, n', _, _, _, hf⟩ := hi i (by omega)
      have hj5 : j = 0 ∨ j = 1 ∨ j = 2 ∨ j = 3 ∨ j = 4 := by omega
      rcases hj5 with rfl | rfl | rfl | rfl | rfl
      · obtain ⟨v, y, hc, _, ht⟩ := hf 0 _ rfl
        obtain ⟨x, hx, _, _⟩ := DataW.trod_int (k := .i64) Try.underlying3 ht
        simp at hx
        subst hx
        exact ⟨x, hc⟩
      · obtain ⟨v, y, hc, _, ht⟩ := hf 1 _ rfl
        obtain ⟨x, hx, _, _⟩ := DataW.trod_int (k := .i64) Try.underlying3 ht
        simp at hx
        subst hx
        exact ⟨x, hc⟩
      · obtain ⟨v, y, hc, _, ht⟩ := hf 2 _ rfl
        obtain ⟨x, hx, _, _⟩ := DataW.trod_int (k := .i64) Try.underlying3 ht
        simp at hx
        subst hx
        exact ⟨x, hc⟩
      · obtain ⟨v, y, hc, _, ht⟩ := hf 3 _ rfl
        obtain ⟨x, hx, _, _⟩ := DataW.trod_int (k := .i64) Try.underlying3 ht
        simp at hx
        subst hx
        exact ⟨x, hc⟩
      · obtain ⟨v, y, hc, _, ht⟩ := hf 4 _ rfl
        obtain ⟨x, hx, _, _⟩ := DataW.trod_int (k := .i64) Try.underlying3 ht
        simp at hx
        subst hx
        exact ⟨x, hc⟩
    have hsp : 0 < len → a.spot = none := fun hp => by
      obtain ⟨x, hx⟩ := hcell 0 0 hp (by omega)
      cases hs : a.spot with
      | none => rfl
      | some s => simp [World.cell?, Addr.add, hs] at hx; split at hx <;> simp at hx
    refine ⟨some a, cap, (List.range len).map fun i => ⟨intOf ((W.cell? (a.add (i * 5 + 0))).getD undef), intOf ((W.cell? (a.add (i * 5 + 1))).getD undef), intOf ((W.cell? (a.add (i * 5 + 2))).getD undef), intOf ((W.cell? (a.add (i * 5 + 3))).getD undef), intOf ((W.cell? (a.add (i * 5 + 4))).getD undef)⟩, by simp, fun hp => ?_, by simpa using hl, ?_⟩
    · simp only [List.length_map, List.length_range] at hp ⊢
      have hs := hsp hp
      obtain ⟨g, o, sp⟩ := a
      simp only at hs
      subst hs
      have hadd : ∀ j, (⟨g, o, none⟩ : Addr).add j = ⟨g, o + j, none⟩ := fun j => by unfold Addr.add; split <;> simp_all
      obtain ⟨x0, hx0⟩ := hcell 0 0 hp (by omega)
      rw [hadd] at hx0
      refine ⟨g, o, rfl, World.block_lt_of_cell? W _ hx0, fun i hi' => ?_⟩
      have key : ∀ j, j < 5 → W.cell? ⟨g, o + i * 5 + j, none⟩ = some (.int .i64 (intOf ((W.cell? ((⟨g, o, none⟩ : Addr).add (i * 5 + j))).getD undef))) := fun j hj => by
        obtain ⟨x, hx⟩ := hcell i j hi' hj
        rw [hadd] at hx ⊢
        rw [← Nat.add_assoc] at hx ⊢
        rw [hx]
        rfl
      have e : ∀ f : Nat → Arc, ((List.range len).map f).getD i arcD = f i := fun f => by
        rw [List.getD_eq_getElem?_getD, List.getElem?_map, List.getElem?_range hi']; rfl
      rw [e]
      exact ⟨key 0 (by omega), key 1 (by omega), key 2 (by omega), key 3 (by omega), key 4 (by omega)⟩
    · simp only [List.length_map, List.length_range]
      unfold maxLen at hm
      omega
/-- A slice of ints that came in. -/
theorem ints_open {n : Nat} {v : Value} {y : DataW H × List MemPlace} (h : DataW.trod enc Try.prog W base (fun _ => true) true n 23 [v] = some y) : ∃ A c xs, v = .slice A (List.length xs) c ∧ IntsAt W A xs ∧ xs.length ≤ c ∧ xs.length ≤ 9223372036854775807 := by
  rcases open_ints Try.underlying23 Try.underlying3 (by kernel_rfl) h with ⟨hcs, _⟩ | ⟨x, l, c, zs, hcs, _, hl, hm, hz, _, hcell, _⟩
  · simp at hcs
    subst hcs
    exact ⟨none, 0, [], rfl, IntsAt.nil _ _, Nat.le_refl _, Nat.zero_le _⟩
  · simp at hcs
    subst hcs
    unfold maxLen at hm
    have hlen : (zs.take l).length = l := by have hz' : zs.length = c := by simpa using hz
                                             rw [List.length_take]; omega
    refine ⟨some x, c, zs.take l, by rw [hlen], fun hp => ?_, by omega, by omega⟩
    rw [hlen] at hp
    have h0 := hcell 0 (by rw [List.length_take] at hlen; omega)
    obtain ⟨g, o, sp⟩ := x
    have hs : sp = none := by
      cases sp with
      | none => rfl
      | some s => simp [World.cell?, Addr.add] at h0; split at h0 <;> simp at h0
    subst hs
    have hadd : ∀ j, (⟨g, o, none⟩ : Addr).add j = ⟨g, o + j, none⟩ := fun j => by unfold Addr.add; split <;> simp_all
    refine ⟨g, o, rfl, World.block_lt_of_cell? W _ h0, fun i hi => ?_⟩
    rw [hlen] at hi
    have h1 := hcell i (by rw [List.length_take] at hlen; omega)
    rw [hadd] at h1
    rw [h1]
    simp [List.getD_eq_getElem?_getD, hi]
set_option maxRecDepth 100000 in
/-- A net that came in. -/
theorem net_open {r : Reach} {b0 : Nat} {v : Value} {d : DataW H} {p : List MemPlace} (hv : Value.okWide Try.prog W r b0 53 v) (h : DataW.Trod enc Try.prog W base spare held 53 v d p) :
    ∃ (nn : Int) (A : Option Addr) (c : Nat) (L : List Arc), v = .agg #[.int .i64 nn, .slice A L.length c] ∧ ArcsAt W A L ∧ L.length ≤ c ∧ L.length ≤ 9223372036854775807 := by
  obtain ⟨v0, v1, y0, y1, n, rfl, _, _, h0, h1⟩ := open_agg2 Try.underlying53 (by kernel_rfl) (by kernel_rfl) hv h
  obtain ⟨x, hx, _, _⟩ := DataW.trod_int (k := .i64) Try.underlying3 h0
  simp at hx
  subst hx
  obtain ⟨A, c, L, rfl, hA, hc, hl⟩ := arcs_open h1
  exact ⟨x, A, c, L, rfl, hA, hc, hl⟩
end
end Go.Proofs.Ythglnmhcgagkdaa
