/- What spec.l25Push holds in memory while it looks for a way. -/
import Derived.Test.YthglnmhcgagkdaaF3
import Derived.Test.YthglnmhcgagkdaaN2
import Derived.Test.YthglnmhcgagkdaaD2
namespace Go.Proofs.Ythglnmhcgagkdaa
open Go.RowKit
/-- The codes by node. -/
def codes (nn : Nat) (S : Reach) : List Int := (List.range nn).map fun (v : Nat) => codeOf S v
def nodesOf (S : Reach) : List Int := S.map (·.1)
theorem codes_length (nn : Nat) (S : Reach) : (codes nn S).length = nn := by simp [codes]
theorem codes_at (nn : Nat) (S : Reach) (v : Nat) (h : v < nn) : (codes nn S).getD v 0 = codeOf S v := by
  unfold codes
  rw [List.getD_eq_getElem?_getD, List.getElem?_map, List.getElem?_range h]; rfl
theorem nodesOf_at (S : Reach) (p : Nat) (h : p < S.length) : (nodesOf S).getD p 0 = (S.getD p (0, 0)).1 := by
  unfold nodesOf
  rw [List.getD_eq_getElem?_getD, List.getD_eq_getElem?_getD, List.getElem?_map, List.getElem?_eq_getElem h]; rfl
theorem codeOf_none : ∀ (S : Reach) (v : Int), foundHas S v = false → codeOf S v = 0
  | [], _, _ => rfl
  | p :: S, v, h => by
    unfold foundHas at h
    rw [List.any_cons, Bool.or_eq_false_iff] at h
    have h1 : ¬ p.1 = v := by simpa using h.1
    show (if p.1 = v then p.2 else codeOf S v) = 0
    rw [if_neg h1]; exact codeOf_none S v h.2
theorem codeOf_append : ∀ (S : Reach) (v c u : Int), foundHas S v = false → codeOf (S ++ [(v, c)]) u = if u = v then c else codeOf S u
  | [], v, c, u, _ => by
    show (if v = u then c else codeOf [] u) = _
    by_cases e : u = v
    · rw [if_pos e, if_pos e.symm]
    · rw [if_neg e, if_neg (fun e' => e e'.symm)]
  | p :: S, v, c, u, h => by
    unfold foundHas at h
    rw [List.any_cons, Bool.or_eq_false_iff] at h
    have h1 : ¬ p.1 = v := by simpa using h.1
    show (if p.1 = u then p.2 else codeOf (S ++ [(v, c)]) u) = if u = v then c else (if p.1 = u then p.2 else codeOf S u)
    rw [codeOf_append S v c u h.2]
    by_cases e : u = v
    · subst e; rw [if_neg h1, if_pos rfl, if_pos rfl]
    · rw [if_neg e, if_neg e]
/-- A node is found: it is the first, or its code is not 0. -/
theorem SOk.has {nn : Int} {L : List Arc} {F : List Int} {fr : Int} {S : Reach} (h : SOk nn L F fr S) (v : Int) : foundHas S v = !(codeOf S v == 0 && !(v == fr)) := by
  cases hf : foundHas S v with
  | false =>
    have hv : ¬ v = fr := fun e => by
      have := at_has h.pos
      rw [h.head, ← e, hf] at this; cases this
    rw [codeOf_none S v hf]
    simp [hv]
  | true =>
    obtain ⟨p, hp, e⟩ := has_at hf
    by_cases h0 : p = 0
    · subst h0
      rw [h.head] at e
      simp at e
      simp [e]
    · obtain ⟨_, _, _, _, _, hc⟩ := h.back p (by omega) hp
      rw [e] at hc
      simp [hc]
theorem codes_put (nn : Nat) (S : Reach) (v : Nat) (c : Int) (h : foundHas S v = false) : (codes nn S).set v c = codes nn (put S v c) := by
  unfold put
  rw [if_neg (by rw [h]; simp)]
  refine List.ext_getElem? fun i => ?_
  rw [List.getElem?_set]
  unfold codes
  rw [List.getElem?_map, List.getElem?_map, List.length_map, List.length_range]
  by_cases hi : i < nn
  · rw [List.getElem?_range hi]
    simp only [Option.map_some]
    rw [codeOf_append S v c i h]
    by_cases e : v = i
    · subst e; rw [if_pos rfl, if_pos hi, if_pos rfl]
    · rw [if_neg e, if_neg (by omega)]
  · rw [List.getElem?_eq_none (by simp; omega)]
    simp only [Option.map_none]
    split
    · rw [if_neg (by omega)]
    · rfl
theorem nodes_put (S : Reach) (v c : Int) (h : foundHas S v = false) : nodesOf S ++ [v] = nodesOf (put S v c) := by
  unfold put nodesOf
  rw [if_neg (by rw [h]; simp), List.map_append]; rfl
structure PSt (w : World) (nn : Nat) (L : List Arc) (A : Option Addr) (cA : Nat) (S : Reach) (vB vL : Value) (W : World) : Prop where
  N : Blk W w.heap.size #[.int .i64 nn, .slice A L.length cA] 34
  B : OI W (w.heap.size + 1) vB (codes nn S)
  Li : OI W (w.heap.size + 1) vL (nodesOf S)
  G : Below w.heap.size w W
  ne : ∀ k, vB.ownBlock = some k → vL.ownBlock ≠ some k
theorem PSt.alloc {w : World} {nn : Nat} {L : List Arc} {A : Option Addr} {cA : Nat} {S : Reach} {vB vL : Value} {W : World} (h : PSt w nn L A cA S vB vL W) (o : Obj) : PSt w nn L A cA S vB vL (W.alloc o) :=
  ⟨h.N.alloc o, h.B.below (below_new _ _), h.Li.below (below_new _ _), below_alloc h.G o, h.ne⟩
theorem PSt.drew {w : World} {nn : Nat} {L : List Arc} {A : Option Addr} {cA : Nat} {S : Reach} {vB vL : Value} {W : World} (h : PSt w nn L A cA S vB vL W) : PSt w nn L A cA S vB vL W.drew :=
  ⟨h.N.drewN 1, own_move h.B (fun _ _ _ _ => rfl), own_move h.Li (fun _ _ _ _ => rfl), ⟨h.G.os, h.G.tape, h.G.output, h.G.size, h.G.block⟩, h.ne⟩
/-- by[v] = c; list = append(list, v) -/
theorem PSt.put {w : World} {nn : Nat} {L : List Arc} {A : Option Addr} {cA : Nat} {S : Reach} {g cap : Nat} {vL vL' : Value} {W W' : World} (h : PSt w nn L A cA S (.slice (some ⟨g, 0, none⟩) nn cap) vL W) (v : Nat) (c : Int) (hf : foundHas S v = false)
    (hO : OI W' (w.heap.size + 1) vL' (nodesOf S ++ [(v : Int)])) (hg : ((W.setCell ⟨g, v, none⟩ (.int .i64 c)).alloc (.cells #[.int .i64 v] 3)).grownBy W' vL.ownBlock) (hv : vL'.ownBlock = vL.ownBlock ∨ vL'.ownBlock = some (W.heap.size + 1)) :
    PSt w nn L A cA (Ythglnmhcgagkdaa.put S v c) (.slice (some ⟨g, 0, none⟩) nn cap) vL' W' := by
  have hgb : w.heap.size + 1 ≤ g ∧ g < W.heap.size := own_ge h.B g rfl
  have hnl := h.ne g rfl
  have hLb : ∀ k, vL.ownBlock = some k → w.heap.size + 1 ≤ k := fun k hk => (own_ge h.Li k hk).1
  have hB1 : OI (W.setCell ⟨g, v, none⟩ (.int .i64 c)) (w.heap.size + 1) (.slice (some ⟨g, 0, none⟩) nn cap) (codes nn (Ythglnmhcgagkdaa.put S v c)) := by
    rw [← codes_put nn S v c hf]
    have h1 : OI W (w.heap.size + 1) (.slice (some ⟨g, 0, none⟩) (codes nn S).length cap) (codes nn S) := by rw [codes_length]; exact h.B
    have := h1.set v c
    rw [codes_length] at this
    exact this
  have hs1 : (W.setCell ⟨g, v, none⟩ (.int .i64 c)).heap.size = W.heap.size := by simp
  refine ⟨?_, ?_, ?_, ?_, ?_⟩
  · exact ((h.N.far (p := ⟨g, v, none⟩) (by show w.heap.size ≠ g; omega) _).alloc _).grown hg (fun e => by have := hLb _ e.symm; omega)
  · exact own_move (hB1.below (below_new _ _)) (fun k hk _ hlt => hg.block k hlt (fun e => by
      injection hk with hk; subst hk; exact hnl e.symm))
  · rw [← nodes_put S v c hf]; exact hO
  · exact below_gb (below_alloc (h.G.setCell (p := ⟨g, v, none⟩) (by show w.heap.size ≤ g; omega) _) _) hg (fun k hk => by have := hLb k hk; omega)
  · intro k hk
    injection hk with hk
    subst hk
    rcases hv with e | e <;> rw [e]
    · exact hnl
    · intro e'
      have : W.heap.size + 1 = g := by injection e'
      omega
end Go.Proofs.Ythglnmhcgagkdaa
