/- Plain law of FnFareRide; steps of its regions. -/
import Derived.Test.YthglnmhcgagkdaaP6
import Derived.Test.YthglnmhcgagkdaaL1
namespace Go.Proofs.Ythglnmhcgagkdaa
open Go.RowKit
theorem nodesW_take {L : List Arc} {ws : List Int} {m : Nat} (h0 : 0 < m) : nodesW L (ws.take m) = (nodesW L ws).take (m + 1) := by
  unfold nodesW
  rw [List.take_succ_cons, List.map_take]
  congr 2
  cases ws with
  | nil => simp
  | cons x xs => cases m with
    | zero => omega
    | succ m => simp
theorem zonesW_take {L : List Arc} {zone ws : List Int} {m : Nat} (h0 : 0 < m) : zonesW L zone (ws.take m) = (zonesW L zone ws).take (m + 1) := by
  unfold zonesW; rw [nodesW_take h0, List.map_take]
theorem dist_take (zs : List Int) (k : Nat) : (distI (zs.take k)).length ≤ (distI zs).length := by
  have e : distI zs = (zs.drop k).foldl addD (distI (zs.take k)) := by
    unfold distI; rw [← List.foldl_append, List.take_append_drop]
  rw [e]; exact dist_mono _ _
theorem walk_take {L : List Arc} {ws : List Int} (h : walkB L ws = true) (m : Nat) : walkB L (ws.take m) = true := by
  unfold walkB at h ⊢
  rw [Bool.and_eq_true] at h ⊢
  have h20 : ws.length ≤ 20 := of_decide_eq_true h.1
  have hl : (ws.take m).length ≤ ws.length := by rw [List.length_take]; omega
  have hg : ∀ i, i < (ws.take m).length → (ws.take m).getD i 0 = ws.getD i 0 := fun i hi => by
    have : i < m := by rw [List.length_take] at hi; omega
    simp [List.getD_eq_getElem?_getD, this]
  refine ⟨decide_eq_true (by omega), stepsB_true fun i hi => ?_⟩
  have := stepsB_at h.2 i (by omega)
  unfold stepOkB at this ⊢
  rw [hg i hi]
  rcases Nat.eq_zero_or_pos i with rfl | hp
  · simpa using this
  · rw [hg (i - 1) (by omega)]; exact this
theorem sorted_le {xs : List Int} (h : sortedB xs = true) : ∀ (i j : Nat), i ≤ j → j < xs.length → xs.getD i 0 ≤ xs.getD j 0 := by
  intro i j hij hj
  induction j with
  | zero => rw [show i = 0 by omega]; exact Int.le_refl _
  | succ j ih =>
    rcases Nat.eq_or_lt_of_le hij with e | hlt
    · rw [e]; exact Int.le_refl _
    · exact Int.le_trans (ih (by omega) (by omega)) (sortedB_at h j hj)
theorem hasI_self (z : Int) : hasI [z] z = true := by simp [hasI]
theorem dist_zero : ∀ (zs : List Int), (∀ z ∈ zs, z = 0) → zs.foldl addD [0] = [0]
  | [], _ => rfl
  | z :: zs, h => by
    have : z = 0 := h z (by simp)
    subst this
    rw [List.foldl_cons]
    have : addD [0] 0 = [0] := by simp [addD, hasI]
    rw [this]
    exact dist_zero zs (fun y hy => h y (by simp [hy]))
theorem dist_all_zero {zs : List Int} (h0 : 0 < zs.length) (h : ∀ z ∈ zs, z = 0) : (distI zs).length = 1 := by
  cases zs with
  | nil => simp at h0
  | cons z zs =>
    have : z = 0 := h z (by simp)
    subst this
    unfold distI
    rw [List.foldl_cons]
    have e : addD [] 0 = [0] := by simp [addD, hasI]
    rw [e, dist_zero zs (fun y hy => h y (by simp [hy]))]; rfl
theorem zones_zero (L : List Arc) (n : Nat) (ws : List Int) : ∀ z ∈ zonesW L (List.replicate n 0) ws, z = 0 := by
  intro z hz
  unfold zonesW at hz
  obtain ⟨v, _, rfl⟩ := List.mem_map.1 hz
  by_cases hv : v.toNat < n
  · simp [List.getD_eq_getElem?_getD, hv]
  · simp [List.getD_eq_getElem?_getD, hv]
theorem zeros_ok (n : Nat) : zonesB (n : Int) (List.replicate n 0) = true := by
  unfold zonesB zoneB
  rw [Bool.and_eq_true]
  refine ⟨by simp, ?_⟩
  rw [List.all_eq_true]
  intro x hx
  rw [(List.mem_replicate.1 hx).2]; rfl
/-- The conditions of a ride that costs. -/
structure RideOk (f : Fare) (nn : Int) (L : List Arc) (zone ws : List Int) : Prop where
  F : fareOkB f = true
  N : netOkB ⟨nn, L⟩ = true
  Z : zonesB nn zone = true
  W : walkB L ws = true
  p : 0 < ws.length
theorem ride_val {f : Fare} {nn : Int} {L : List Arc} {zone ws : List Int} (h : RideOk f nn L zone ws) : rideI f nn L zone ws = f.single.getD ((distI (zonesW L zone ws)).length - 1) 0 := by
  unfold rideI; rw [h.F, h.N, h.Z, h.W, decide_eq_true h.p]; rfl
theorem ride_ok {f : Fare} {nn : Int} {L : List Arc} {zone ws : List Int} (h : 0 ≤ rideI f nn L zone ws) : RideOk f nn L zone ws := by
  unfold rideI at h
  by_cases hc : (fareOkB f && (netOkB ⟨nn, L⟩ && zonesB nn zone) && (netOkB ⟨nn, L⟩ && walkB L ws) && decide (0 < ws.length)) = true
  · simp only [Bool.and_eq_true, decide_eq_true_eq] at hc
    exact ⟨hc.1.1.1, hc.1.1.2.1, hc.1.1.2.2, hc.1.2.2, hc.2⟩
  · rw [if_neg hc] at h; omega
theorem fare_sorted {f : Fare} (h : fareOkB f = true) : f.single.length = 4 ∧ sortedB f.single = true := by
  unfold fareOkB at h
  simp only [Bool.and_eq_true, decide_eq_true_eq] at h
  exact ⟨h.1.1.1.1, h.1.1.2⟩
theorem ride_part {f : Fare} {nn : Int} {L : List Arc} {zone ws : List Int} (h : RideOk f nn L zone ws) {m : Nat} (h0 : 0 < m) : rideI f nn L zone (ws.take m) ≤ rideI f nn L zone ws := by
  have hp : RideOk f nn L zone (ws.take m) := ⟨h.F, h.N, h.Z, walk_take h.W m, by rw [List.length_take]; have := h.p; omega⟩
  rw [ride_val h, ride_val hp, zonesW_take h0]
  have hs := fare_sorted h.F
  have hb := dist_bounds (zs := zonesW L zone ws) (by rw [zonesW_length]; omega) (zonesW_in h.Z)
  have := dist_take (zonesW L zone ws) (m + 1)
  exact sorted_le hs.2 _ _ (by omega) (by omega)
theorem ride_zero {f : Fare} {n : Nat} {L : List Arc} {zone ws : List Int} (h : RideOk f (n : Int) L zone ws) : rideI f n L (List.replicate n 0) ws = f.single.getD 0 0 := by
  have hp : RideOk f n L (List.replicate n 0) ws := ⟨h.F, h.N, zeros_ok n, h.W, h.p⟩
  rw [ride_val hp, dist_all_zero (by rw [zonesW_length]; omega) (zones_zero L n ws)]
theorem ride_least {f : Fare} {nn : Int} {L : List Arc} {zone ws : List Int} (h : RideOk f nn L zone ws) : f.single.getD 0 0 ≤ rideI f nn L zone ws := by
  rw [ride_val h]
  have hs := fare_sorted h.F
  have hb := dist_bounds (zs := zonesW L zone ws) (by rw [zonesW_length]; omega) (zonesW_in h.Z)
  exact sorted_le hs.2 _ _ (by omega) (by omega)
/-! ### steps -/
section
variable {ops : Array Oper} {o : Oper} {a : Act} {K : Act → World → Prop} {Q : Exit → Act → World → Prop} {E : Prop} {w : World}
theorem step_mk_ints (hw : Region.wanted o (yielded ops a.tmps) = true) (base : Nat) (l c : Operand) (hop : o.op = .makeSlice 23 l c) (n : Nat) (hl : a.eval l = .int .i64 n) (hc : a.eval c = .int .i64 n) (hn : n ≤ 1000000000) (hb : base ≤ w.heap.size)
    (hk : ∀ w1, OI w1 base (.slice (some ⟨w.heap.size, 0, none⟩) n n) (List.replicate n 0) → w.grownBy w1 none → K (a.put o.dst (.slice (some ⟨w.heap.size, 0, none⟩) n n)) w1) :
    if Region.wanted o (yielded ops a.tmps) = true then Oper.wp Try.prog o a w K Q else E := by
  rw [if_pos hw]
  obtain ⟨i0, hi, hz⟩ := Option.map_eq_some_iff.1 info3
  simp only [Prod.mk.injEq] at hz
  obtain ⟨hz0, hz1, hz2⟩ := hz
  obtain ⟨w', hrun, r1, r2⟩ := run_make_full (P := Try.prog) w base 23 3 i0 (.int .i64 0) 1 Try.underlying23 hi hz0 hz1 .i64 .i64 n (by rw [hz2]; omega) (by simp only [maxLen]; omega) hb
  unfold Oper.wp
  simp [execOp, hop, hl, hc, hrun, Result.andThen]
  refine hk w' ?_ r2
  rw [madeCells_int] at r1
  unfold OI
  rw [List.length_replicate]
  exact r1
end
end Go.Proofs.Ythglnmhcgagkdaa
