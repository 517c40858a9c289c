/- Walk: the closure of impl's augment: what it keeps of the search. -/
import Derived.Test.YthglnmhcgagkdaaJ0
import Derived.Test.YthglnmhcgagkdaaG0
import Derived.Maps.Own
import Derived.Maps.OwnOps
import Derived.Maps.Views
namespace Go.Proofs.Ythglnmhcgagkdaa
open Go.RowKit
/-- How a step reads: its code. -/
def stepR (v : Value) : Option (DataW Unit × List MemPlace) := match v with
  | .agg a => match a.toList with
    | [.int .i64 k, .bool b] => if 0 ≤ k then some (.lit (.int .i64 (if b then k + 1 else -k - 1)), []) else none
    | _ => none
  | _ => none
theorem stepR_mk (k : Int) (b : Bool) (h : 0 ≤ k) : stepR (.agg #[.int .i64 k, .bool b]) = some (.lit (.int .i64 (if b then k + 1 else -k - 1)), []) := by
  unfold stepR
  simp [h]
theorem stepR_inv {v : Value} {c : Int} {ps : List MemPlace} (h : stepR v = some (.lit (.int .i64 c), ps)) : v = .agg #[.int .i64 (arcNo c), .bool (isFwd c)] := by
  unfold stepR at h
  split at h
  · rename_i a
    split at h
    · rename_i k b e
      split at h
      · rename_i hk
        simp at h
        have hc := h.1
        congr 1
        refine Array.ext' ?_
        rw [e]
        cases b with
        | true =>
          simp at hc
          have h1 : isFwd c = true := by unfold isFwd; exact decide_eq_true (by omega)
          have h2 : (arcNo c : Int) = k := by unfold arcNo; rw [if_pos (by omega)]; omega
          rw [h1, h2]
        | false =>
          simp at hc
          have h1 : isFwd c = false := by unfold isFwd; exact decide_eq_false (by omega)
          have h2 : (arcNo c : Int) = k := by unfold arcNo; rw [if_neg (by omega)]; omega
          rw [h1, h2]
      · cases h
    · cases h
  · cases h
/-- The map of codes by node. -/
def MapSt (w : World) (b : Nat) (S : Reach) : Prop := ∃ n D, w.ownsMap Try.prog 3 stepR b n D ∧ n ≤ S.length ∧ Maps.IsMap D ∧ ∀ p, 0 < p → p < S.length → ∀ z, D.atKey (.int .i64 (S.getD p (0, 0)).1) z = .lit (.int .i64 (S.getD p (0, 0)).2)
theorem MapSt.lt {w : World} {b : Nat} {S : Reach} (h : MapSt w b S) : b < w.heap.size := by obtain ⟨n, D, h1, _⟩ := h; exact h1.lt
theorem MapSt.kept {w w' : World} {b : Nat} {S : Reach} {row : Option Nat} (h : MapSt w b S) (hg : w.grownBy w' row) (hne : some b ≠ row) : MapSt w' b S := by
  obtain ⟨n, D, h1, h2⟩ := h
  exact ⟨n, D, h1.kept hg hne, h2⟩
theorem map_not_own {w : World} {b n : Nat} {D : DataW Unit} {base : Nat} {e : TypeId} {size m : Nat} {v : Value} {xs : List Value} (h : w.ownsMap Try.prog 3 stepR b n D) (h' : w.ownsRow base e size v m xs) : some b ≠ v.ownBlock := by
  obtain ⟨es, clock, hb, _⟩ := h
  rcases h'.2 with ⟨rfl, rfl⟩ | ⟨g, cap, cur, rfl, _, hg, _⟩
  · simp [Value.ownBlock]
  · intro e
    simp [Value.ownBlock] at e
    subst e
    rw [hb] at hg
    cases hg
theorem map_not_blk {w : World} {b : Nat} {S : Reach} {g : Nat} {cs : Array Value} {t : TypeId} (h : MapSt w b S) (h' : Blk w g cs t) : b ≠ g := by
  obtain ⟨n, D, ⟨es, clock, hb, _⟩, _⟩ := h
  intro e
  subst e
  unfold Blk at h'
  rw [hb] at h'
  cases h'
theorem MapSt.far {w : World} {b : Nat} {S : Reach} (h : MapSt w b S) {p : Addr} (hp : b ≠ p.block) (u : Value) : MapSt (w.setCell p u) b S := by
  obtain ⟨n, D, ⟨es, clock, hb, r⟩, h2⟩ := h
  exact ⟨n, D, ⟨es, clock, (Below.heap_setCell w p u b hp).trans hb, r⟩, h2⟩
/-- Blocks of other kinds than rows of ints and slices' boxes stay. -/
def KeepB (w w' : World) : Prop := ∀ k cs t, t ≠ 3 → t ≠ 23 → Blk w k cs t → Blk w' k cs t
structure ASt (w : World) (nn : Nat) (L : List Arc) (A : Option Addr) (cA gm gf bm : Nat) (S : Reach) (W : World) : Prop where
  N : Blk W w.heap.size #[.int .i64 nn, .slice A L.length cA] 34
  M : Blk W gm #[.map (some bm)] 113
  F : ∃ v, Blk W gf #[v] 23 ∧ OI W (w.heap.size + 1) v (nodesOf S)
  P : MapSt W bm S
  G : Below w.heap.size w W
  o1 : w.heap.size < gm
  o2 : w.heap.size < gf
  o3 : w.heap.size < bm
theorem ASt.alloc {w : World} {nn : Nat} {L : List Arc} {A : Option Addr} {cA gm gf bm : Nat} {S : Reach} {W : World} (h : ASt w nn L A cA gm gf bm S W) (o : Obj) : ASt w nn L A cA gm gf bm S (W.alloc o) := by
  obtain ⟨v, h1, h2⟩ := h.F
  exact ⟨h.N.alloc o, h.M.alloc o, ⟨v, h1.alloc o, h2.below (below_new _ _)⟩, h.P.kept (World.grownBy_alloc W o none) (by simp), below_alloc h.G o, h.o1, h.o2, h.o3⟩
theorem ASt.drewN {w : World} {nn : Nat} {L : List Arc} {A : Option Addr} {cA gm gf bm : Nat} {S : Reach} {W : World} (h : ASt w nn L A cA gm gf bm S W) (n : Nat) : ASt w nn L A cA gm gf bm S (W.drewN n) :=
  ⟨h.N.drewN n, h.M.drewN n, h.F, h.P, below_drewN h.G n, h.o1, h.o2, h.o3⟩
theorem has_nodes (S : Reach) (v : Int) : hasI (nodesOf S) v = foundHas S v := by
  unfold hasI nodesOf foundHas
  rw [List.any_map]; rfl
def PutPost (w : World) (nn : Nat) (L : List Arc) (A : Option Addr) (cA gm gf bm : Nat) (S : Reach) (W : World) (e : Ending) (w' : World) : Prop := e = .returned (.tuple #[]) ∧ ASt w nn L A cA gm gf bm S w' ∧ KeepB W w' ∧ W.heap.size ≤ w'.heap.size
theorem keepB_refl (W : World) : KeepB W W := fun _ _ _ _ _ h => h
theorem own_map_far {w : World} {b n : Nat} {D : DataW Unit} (h : w.ownsMap Try.prog 3 stepR b n D) {g : Nat} {cs : Array Value} {t : TypeId} (hB : Blk w g cs t) (i : Nat) (u : Value) : (w.setCell ⟨g, i, none⟩ u).ownsMap Try.prog 3 stepR b n D := by
  obtain ⟨es, clock, hb, r⟩ := h
  have hne : b ≠ g := fun e => by
    subst e
    unfold Blk at hB
    rw [hb] at hB
    cases hB
  exact ⟨es, clock, (Below.heap_setCell w ⟨g, i, none⟩ u b hne).trans hb, r⟩
theorem own_map_ne {w : World} {b n : Nat} {D : DataW Unit} (h : w.ownsMap Try.prog 3 stepR b n D) {g : Nat} {cs : Array Value} {t : TypeId} (hB : Blk w g cs t) : g ≠ b := fun e => by
  obtain ⟨es, clock, hb, r⟩ := h
  subst e
  unfold Blk at hB
  rw [hb] at hB
  cases hB
theorem blk_ne {w : World} {g g' : Nat} {cs cs' : Array Value} {t t' : TypeId} (h : Blk w g cs t) (h' : Blk w g' cs' t') (hne : t ≠ t') : g ≠ g' := fun e => by
  subst e
  unfold Blk at h h'
  rw [h] at h'
  injection h' with h'
  injection h' with _ h'
  exact hne h'
theorem put_done {w : World} {nn : Nat} {L : List Arc} {A : Option Addr} {cA gm gf bm : Nat} {S : Reach} {W w2 w4 : World} {vF v2 : Value} {n : Nat} {D : DataW Unit} {v c : Int} (H1 : ASt w nn L A cA gm gf bm S W) (F1 : Blk W gf #[vF] 23) (O1 : OI W (w.heap.size + 1) vF (nodesOf S))
    (hown : W.ownsMap Try.prog 3 stepR bm n D) (hn : n ≤ S.length) (hD : Maps.IsMap D) (hat : ∀ p, 0 < p → p < S.length → ∀ z, D.atKey (.int .i64 (S.getD p (0, 0)).1) z = .lit (.int .i64 (S.getD p (0, 0)).2))
    (hO2 : OI w2 (w.heap.size + 1) v2 (nodesOf S ++ [v])) (hg2 : W.grownBy w2 vF.ownBlock) (hown4 : w4.ownsMap Try.prog 3 stepR bm (n + 1) (D.put (.int .i64 v) (.lit (.int .i64 c)))) (hg4 : (w2.setCell ⟨gf, 0, none⟩ v2).grownBy w4 (some bm)) (hf : foundHas S v = false) :
    ASt w nn L A cA gm gf bm (put S v c) w4 ∧ KeepB W w4 ∧ W.heap.size ≤ w4.heap.size := by
  have F2 := F1.grown hg2 (fun e => own_ne_blk O1 F1 (by decide) e.symm)
  have K2 : KeepB W w2 := fun k cs t h3 _ hB => hB.grown hg2 (fun e => own_ne_blk O1 hB (fun e' => h3 e'.symm) e.symm)
  have K3 : KeepB W (w2.setCell ⟨gf, 0, none⟩ v2) := fun k cs t h3 h23 hB => (K2 k cs t h3 h23 hB).far (p := ⟨gf, 0, none⟩) (blk_ne (K2 k cs t h3 h23 hB) F2 h23) v2
  have hown3 : (w2.setCell ⟨gf, 0, none⟩ v2).ownsMap Try.prog 3 stepR bm n D := own_map_far (hown.kept hg2 (map_not_own hown O1)) F2 0 v2
  have K4 : KeepB W w4 := fun k cs t h3 h23 hB => (K3 k cs t h3 h23 hB).grown hg4 (fun e => own_map_ne hown3 (K3 k cs t h3 h23 hB) (by injection e))
  have F3 : Blk (w2.setCell ⟨gf, 0, none⟩ v2) gf #[v2] 23 := by have := F2.set 0 v2; simpa using this
  have O3 : OI (w2.setCell ⟨gf, 0, none⟩ v2) (w.heap.size + 1) v2 (nodesOf S ++ [v]) := own_far hO2 (p := ⟨gf, 0, none⟩) (own_ne_blk hO2 F2 (by decide)) v2
  have hp : put S v c = S ++ [(v, c)] := by unfold put; rw [if_neg (by rw [hf]; simp)]
  have hsz : W.heap.size ≤ w4.heap.size := by have := hg2.size; have := hg4.size; simp at this; omega
  refine ⟨⟨K4 _ _ _ (by decide) (by decide) H1.N, K4 _ _ _ (by decide) (by decide) H1.M, ⟨v2, F3.grown hg4 (fun e => own_map_ne hown3 F3 (by injection e)), ?_⟩, ⟨n + 1, _, hown4, ?_, hD.put _ _, ?_⟩, ?_, H1.o1, H1.o2, H1.o3⟩, K4, hsz⟩
  · rw [← nodes_put S v c hf]
    exact own_move O3 (fun k hk _ hlt => hg4.block k hlt (fun e => map_not_own hown3 O3 (e.symm.trans hk.symm)))
  · rw [hp]; simp; omega
  · intro p hp0 hpl z
    rw [hp] at hpl ⊢
    rw [List.length_append, List.length_singleton] at hpl
    by_cases hlt : p < S.length
    · rw [pre_at (List.prefix_append S _) p hlt]
      rw [Maps.atKey_put_other]
      · exact hat p hp0 hlt z
      · intro e
        injection e with _ e
        have := at_has hlt
        rw [e, hf] at this
        cases this
    · have : p = S.length := by omega
      subst this
      have e : (S ++ [(v, c)]).getD S.length (0, 0) = (v, c) := by simp [List.getD_eq_getElem?_getD]
      rw [e]
      exact Maps.atKey_put_same hD (show WideAt.IsKeyLit (.int .i64 v) from trivial) _ _
  · have h1 := below_gb H1.G hg2 (fun k hk => by have := (own_ge O1 k hk).1; omega)
    exact below_gb (h1.setCell (p := ⟨gf, 0, none⟩) (Nat.le_of_lt H1.o2) v2) hg4 (fun k hk => by injection hk with hk; have := H1.o3; omega)
set_option maxHeartbeats 1000000 in
set_option maxRecDepth 100000 in
theorem c_putC (w : World) (nn : Nat) (L : List Arc) (A : Option Addr) (cA gm gf bm : Nat) (S : Reach) (W : World) (h : ASt w nn L A cA gm gf bm S W) (v k : Int) (b : Bool) (hv0 : 0 ≤ v) (hv1 : v ≤ 100) (hk0 : 0 ≤ k) (c : Int) (hcc : Hid (c = if b then k + 1 else -k - 1)) (hS : S.length ≤ 1000) :
    Calls Try.prog 105 #[.int .i64 v, .agg #[.int .i64 k, .bool b], .pointer (some ⟨gf, 0, none⟩), .pointer (some ⟨gm, 0, none⟩)] W (PutPost w nn L A cA gm gf bm (put S v c) W) := by
  have H1 := h.alloc (.cells #[.int .i64 k, .bool b] 94)
  have X1 := Blk.new W #[.int .i64 k, .bool b] 94
  obtain ⟨vF, F1, O1⟩ := H1.F
  obtain ⟨AF, cF, rfl, hcF, hF1⟩ := O1.shape
  have f0 := F1.cells1
  have hlen : (nodesOf S).length = S.length := by simp [nodesOf]
  have HLEN := Lib.hid hlen
  have hl : (nodesOf S).length ≤ 140737488351232 := by omega
  clear hlen
  go_enter Try.func105, Try.ntmps105
  go_wp2_with fail
  refine (c_ContainsI AF cF (nodesOf S) v _ hF1 hl).mono ?_
  rintro e w' ⟨rfl, rfl⟩
  have hKW : KeepB W (W.alloc (.cells #[.int .i64 k, .bool b] 94)) := fun g cs t _ _ hB => hB.alloc _
  have hsW : W.heap.size ≤ (W.alloc (.cells #[.int .i64 k, .bool b] 94)).heap.size := by simp
  have HKW := Lib.hid hKW
  clear hKW
  generalize W.alloc (.cells #[.int .i64 k, .bool b] 94) = W1 at *
  rw [has_nodes]
  obtain ⟨q, hq⟩ : ∃ q, q = foundHas S v := ⟨_, rfl⟩
  rw [← hq]
  have HQ := Lib.hid hq
  clear hq
  cases q with
  | true =>
    go_wp2_with fail
    go_end0
    have e : put S v c = S := by unfold put; rw [if_pos HQ.out.symm]
    rw [e]
    exact ⟨rfl, H1, HKW.out, hsW⟩
  | false =>
    have hl9 : (nodesOf S).length ≤ 1000000000 := by have := HLEN.out; omega
    have HX1 := Lib.hid X1
    have HH1 := Lib.hid H1
    have HF1 := Lib.hid F1
    have HO1 := Lib.hid O1
    obtain ⟨n, D, hown, hnS, hD, hat⟩ := H1.P
    have HOWN := Lib.hid hown
    have HD := Lib.hid hD
    have HAT := Lib.hid hat
    have hV : keyOf Try.prog 3 (.int .i64 v) = some (.int .i64 v) := Maps.keyOf_int_mk Try.underlying3 (by have m1 : IntKind.i64.min = -9223372036854775808 := rfl; have m2 : IntKind.i64.max = 9223372036854775807 := rfl; simp [Lit.wf, m1, m2]; omega)
    have hVal : stepR (.agg #[.int .i64 k, .bool b]) = some (.lit (.int .i64 c), []) := by rw [stepR_mk k b hk0, hcc.out]
    have HV := Lib.hid hV
    have HVAL := Lib.hid hVal
    have hnm : n < maxLen := by unfold maxLen; omega
    have HNM := Lib.hid hnm
    clear H1 F1 O1 X1 hown hD hat hV hVal hnm
    go_wp2_with (first | (at_builtin; refine app_int (w.heap.size + 1) rfl _ _ rfl (.slice AF (nodesOf S).length cF) (nodesOf S) v rfl rfl HO1.out (Nat.le_of_lt (Nat.lt_of_le_of_lt (Nat.succ_le_of_lt HH1.out.o2) HF1.out.lt)) hl9 ?_; intro v2 w2 hO2 hg2; obtain ⟨A2, n2, k2, e2⟩ := OI.any hO2; subst e2; have F2 := HF1.out.grown hg2 (fun e => own_ne_blk HO1.out HF1.out (by decide) e.symm); clear f0; have f0 := F2.cells1; have ff := F2.frozen 0; have M2 := HH1.out.M.grown hg2 (fun e => own_ne_blk HO1.out HH1.out.M (by decide) e.symm); have M3 := M2.far (p := ⟨gf, 0, none⟩) (blk_ne M2 F2 (by decide)) (.slice A2 n2 k2); have m0 := M3.cells1; have X2 := HX1.out.grown hg2 (fun e => own_ne_blk HO1.out HX1.out (by decide) e.symm); have X3 := X2.far (p := ⟨gf, 0, none⟩) (blk_ne X2 F2 (by decide)) (.slice A2 n2 k2); obtain ⟨x0, x1⟩ := X3.cells2; have HOWN3 := Lib.hid (own_map_far (HOWN.out.kept hg2 (map_not_own HOWN.out HO1.out)) F2 0 (.slice A2 n2 k2)); have HO2 := Lib.hid hO2; have HG2 := Lib.hid hg2; clear hO2 hg2 F2 M2 M3 X2 X3) | (at_mapUpdate; refine wpList_mapUpdate_own _ rfl _ _ _ 113 rfl 3 94 (Maps.int_keyed Try.underlying3) Try.underlying113 stepR bm n D rfl HOWN3.out HNM.out _ _ (.int .i64 v) rfl rfl HV.out (.lit (.int .i64 c)) [] HVAL.out ?_; intro w4 hown4 hg4; have HD4 := Lib.hid (put_done HH1.out HF1.out HO1.out HOWN.out hnS HD.out HAT.out HO2.out HG2.out hown4 hg4 HQ.out.symm); clear hown4 hg4))
    go_end0
    obtain ⟨h1, h2, h3⟩ := HD4.out
    exact ⟨rfl, h1, fun g cs t e3 e23 hB => h2 g cs t e3 e23 (HKW.out g cs t e3 e23 hB), Nat.le_trans hsW h3⟩
end Go.Proofs.Ythglnmhcgagkdaa
