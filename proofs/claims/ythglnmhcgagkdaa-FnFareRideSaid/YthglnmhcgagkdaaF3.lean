/- Plain: flows that are allowed; no flow is more than a cut; the flow that is left when no way is found is as much as a cut. -/
import Derived.Test.YthglnmhcgagkdaaF2
namespace Go.Proofs.Ythglnmhcgagkdaa
def pushF (nn : Nat) (L : List Arc) (F : List Int) (fr tt : Int) : List Int × Bool :=
  if foundHas (reach nn L F fr) tt then ((wayN L (reach nn L F fr) fr nn tt).foldl app1 F, true) else (F, false)
structure FlowOk (L : List Arc) (F : List Int) (fr tt : Int) : Prop where
  len : F.length = L.length
  bnd : ∀ k, k < L.length → 0 ≤ F.getD k 0 ∧ F.getD k 0 ≤ (L.getD k arcD).ld
  con : ∀ v, v ≠ fr → v ≠ tt → bal L F v = 0
theorem has_at {S : Reach} {v : Int} (h : foundHas S v = true) : ∃ p, p < S.length ∧ (S.getD p (0, 0)).1 = v := by
  obtain ⟨x, hx, e⟩ := (foundHas_iff S v).1 h
  obtain ⟨p, hp, e'⟩ := mem_getD hx
  exact ⟨p, hp, by rw [e']; exact e⟩
theorem at_has {S : Reach} {p : Nat} (hp : p < S.length) : foundHas S (S.getD p (0, 0)).1 = true := (foundHas_iff S _).2 ⟨_, getD_mem hp, rfl⟩
theorem push_ok {nn : Nat} {L : List Arc} {F : List Int} {fr tt : Int} (hE : EndsOk nn L) (hfr : 0 ≤ fr ∧ fr < nn) (hne : fr ≠ tt) (h : FlowOk L F fr tt) (hp : (pushF nn L F fr tt).2 = true) :
    FlowOk L (pushF nn L F fr tt).1 fr tt ∧ bal L (pushF nn L F fr tt).1 fr = bal L F fr + 1 := by
  unfold pushF at hp ⊢
  by_cases hh : foundHas (reach nn L F fr) tt = true
  · rw [if_pos hh]
    obtain ⟨p, hp, e⟩ := has_at hh
    have hS := reach_ok hE F hfr
    have hl := hS.len
    have := way_all hS h.bnd p nn F hp (by omega) h.len h.bnd (fun _ _ _ => rfl)
    rw [e] at this
    refine ⟨⟨by rw [way_length]; exact h.len, this.2, fun v h1 h2 => ?_⟩, ?_⟩
    · show bal L (List.foldl app1 F _) v = 0
      rw [this.1 v, h.con v h1 h2]
      unfold one
      rw [if_neg (fun e => h1 e.symm), if_neg (fun e => h2 e.symm)]; rfl
    · show bal L (List.foldl app1 F _) fr = _
      rw [this.1 fr]
      unfold one
      rw [if_pos rfl, if_neg (fun e => hne e.symm)]; omega
  · rw [if_neg hh] at hp; cases hp
theorem balN_le {L : List Arc} {F : List Int} {C : Int} (hb : ∀ k, k < L.length → 0 ≤ F.getD k 0 ∧ F.getD k 0 ≤ C) (hC : 0 ≤ C) (v : Int) : ∀ k, k ≤ L.length → -(C * k) ≤ balN L F v k ∧ balN L F v k ≤ C * k
  | 0, _ => by simp [balN]
  | k + 1, hk => by
    have ih := balN_le hb hC v k (by omega)
    have := hb k (by omega)
    simp only [balN]
    rw [show C * ((k + 1 : Nat) : Int) = C * k + C by rw [Int.natCast_add, Int.mul_add]; simp]
    split <;> split <;> omega
/-! ### cuts -/
def cutN (L : List Arc) (mem : Int → Bool) : Nat → Int
  | 0 => 0
  | k + 1 => cutN L mem k + if mem (L.getD k arcD).fr && !mem (L.getD k arcD).to then (L.getD k arcD).ld else 0
def sumB (f : Int → Int) (mem : Int → Bool) : Nat → Int
  | 0 => 0
  | n + 1 => sumB f mem n + if mem n then f n else 0
theorem sumB_add (f g : Int → Int) (mem : Int → Bool) : ∀ n, sumB (fun v => f v + g v) mem n = sumB f mem n + sumB g mem n
  | 0 => rfl
  | n + 1 => by simp only [sumB, sumB_add f g mem n]; split <;> omega
theorem sumB_one (mem : Int → Bool) (x c : Int) (hx : 0 ≤ x) : ∀ n : Nat, sumB (fun v => if x = v then c else 0) mem n = if x < n ∧ mem x = true then c else 0
  | 0 => by simp only [sumB]; rw [if_neg]; omega
  | n + 1 => by
    simp only [sumB, sumB_one mem x c hx n]
    by_cases e : x = n
    · subst e
      rw [if_neg (show ¬ ((n : Int) < n ∧ mem n = true) from fun h => absurd h.1 (by omega))]
      by_cases hm : mem n = true
      · rw [if_pos hm, if_pos rfl, if_pos (show (n : Int) < (n + 1 : Nat) ∧ mem n = true from ⟨by omega, hm⟩)]; omega
      · rw [if_neg hm, if_neg (show ¬ ((n : Int) < (n + 1 : Nat) ∧ mem n = true) from fun h => hm h.2)]; rfl
    · rw [if_neg e]
      rw [show (if mem n = true then (0 : Int) else 0) = 0 by split <;> rfl, Int.add_zero]
      by_cases hm : x < n ∧ mem x = true
      · rw [if_pos hm, if_pos (show x < (n + 1 : Nat) ∧ mem x = true from ⟨by omega, hm.2⟩)]
      · rw [if_neg hm, if_neg (show ¬ (x < (n + 1 : Nat) ∧ mem x = true) from fun h => hm ⟨by omega, h.2⟩)]
theorem sumB_congr {f g : Int → Int} {mem : Int → Bool} (h : ∀ v, f v = g v) (n : Nat) : sumB f mem n = sumB g mem n := by rw [funext h]
theorem sumB_zero (mem : Int → Bool) : ∀ n, sumB (fun _ => 0) mem n = 0
  | 0 => rfl
  | n + 1 => by simp only [sumB, sumB_zero mem n]; split <;> rfl
/-- What leaves a set, less what comes to it. -/
def netN (L : List Arc) (F : List Int) (mem : Int → Bool) : Nat → Int
  | 0 => 0
  | k + 1 => netN L F mem k + (if mem (L.getD k arcD).fr then F.getD k 0 else 0) - (if mem (L.getD k arcD).to then F.getD k 0 else 0)
theorem sum_bal {nn : Nat} {L : List Arc} (hE : EndsOk nn L) (F : List Int) (mem : Int → Bool) : ∀ k, k ≤ L.length → sumB (fun v => balN L F v k) mem nn = netN L F mem k
  | 0, _ => sumB_zero mem nn
  | k + 1, hk => by
    have ih := sum_bal hE F mem k (by omega)
    have he := hE k (by omega)
    have : sumB (fun v => balN L F v (k + 1)) mem nn = sumB (fun v => balN L F v k) mem nn + sumB (fun v => if (L.getD k arcD).fr = v then F.getD k 0 else 0) mem nn + sumB (fun v => if (L.getD k arcD).to = v then - F.getD k 0 else 0) mem nn := by
      rw [← sumB_add, ← sumB_add]
      refine sumB_congr (fun v => ?_) nn
      simp only [balN]
      split <;> split <;> omega
    rw [this, ih, sumB_one mem _ _ he.1.1, sumB_one mem _ _ he.2.1]
    simp only [netN]
    by_cases h1 : mem (L.getD k arcD).fr = true <;> by_cases h2 : mem (L.getD k arcD).to = true
    · rw [if_pos ⟨he.1.2, h1⟩, if_pos ⟨he.2.2, h2⟩, if_pos h1, if_pos h2]; omega
    · rw [if_pos ⟨he.1.2, h1⟩, if_neg (fun h => h2 h.2), if_pos h1, if_neg h2]; omega
    · rw [if_neg (fun h => h1 h.2), if_pos ⟨he.2.2, h2⟩, if_neg h1, if_pos h2]; omega
    · rw [if_neg (fun h => h1 h.2), if_neg (fun h => h2 h.2), if_neg h1, if_neg h2]; omega
theorem sumB_only {f : Int → Int} {mem : Int → Bool} {fr : Int} (h : ∀ v, v ≠ fr → mem v = true → f v = 0) (h0 : 0 ≤ fr) (hm : mem fr = true) : ∀ n : Nat, sumB f mem n = if fr < n then f fr else 0
  | 0 => by simp only [sumB]; rw [if_neg]; omega
  | n + 1 => by
    simp only [sumB, sumB_only h h0 hm n]
    by_cases e : fr = n
    · subst e
      rw [if_neg (by omega), if_pos hm, if_pos (by omega)]; omega
    · by_cases hv : mem n = true
      · rw [if_pos hv, h n (fun e' => e e'.symm) hv]
        by_cases hlt : fr < n
        · rw [if_pos hlt, if_pos (by omega)]; omega
        · rw [if_neg hlt, if_neg (by omega)]; rfl
      · rw [if_neg hv]
        by_cases hlt : fr < n
        · rw [if_pos hlt, if_pos (by omega)]; omega
        · rw [if_neg hlt, if_neg (by omega)]; rfl
theorem net_le_cut {L : List Arc} {F : List Int} (hb : ∀ k, k < L.length → 0 ≤ F.getD k 0 ∧ F.getD k 0 ≤ (L.getD k arcD).ld) (mem : Int → Bool) : ∀ k, k ≤ L.length → netN L F mem k ≤ cutN L mem k
  | 0, _ => Int.le_refl _
  | k + 1, hk => by
    have ih := net_le_cut hb mem k (by omega)
    have := hb k (by omega)
    simp only [netN, cutN]
    generalize F.getD k 0 = f at *
    generalize (L.getD k arcD).ld = l at *
    cases mem (L.getD k arcD).fr <;> cases mem (L.getD k arcD).to <;> simp <;> omega
/-- No flow is more than a cut. -/
theorem flow_le_cut {nn : Nat} {L : List Arc} {F : List Int} {fr tt : Int} (hE : EndsOk nn L) (hfr : 0 ≤ fr ∧ fr < nn) (h : FlowOk L F fr tt) (mem : Int → Bool) (hm : mem fr = true) (hn : mem tt = false) : bal L F fr ≤ cutN L mem L.length := by
  have h1 := sum_bal hE F mem L.length (Nat.le_refl _)
  have h2 := sumB_only (f := fun v => balN L F v L.length) (mem := mem) (fr := fr) (fun v hv hmv => h.con v hv (fun e => by rw [e, hn] at hmv; cases hmv)) hfr.1 hm nn
  rw [if_pos hfr.2] at h2
  have h3 := net_le_cut h.bnd mem L.length (Nat.le_refl _)
  unfold bal
  rw [← h2, h1]; exact h3
theorem net_eq_cut {nn : Nat} {L : List Arc} (hE : EndsOk nn L) {F : List Int} {fr : Int} (hfr : 0 ≤ fr ∧ fr < nn) (hb : ∀ k, k < L.length → 0 ≤ F.getD k 0 ∧ F.getD k 0 ≤ (L.getD k arcD).ld) : ∀ k, k ≤ L.length → netN L F (foundHas (reach nn L F fr)) k = cutN L (foundHas (reach nn L F fr)) k
  | 0, _ => rfl
  | k + 1, hk => by
    have ih := net_eq_cut hE hfr hb k (by omega)
    have hbk := hb k (by omega)
    have hc := reach_closed hE F hfr
    simp only [netN, cutN, ih]
    cases h1 : foundHas (reach nn L F fr) (L.getD k arcD).fr with
    | false =>
      cases h2 : foundHas (reach nn L F fr) (L.getD k arcD).to with
      | false => simp
      | true =>
        obtain ⟨p, hp, e⟩ := has_at h2
        have : ¬ 0 < F.getD k 0 := fun h0 => by
          have := (hc p hp k (by omega)).2 e.symm h0
          rw [h1] at this; cases this
        generalize F.getD k 0 = f at *
        simp; omega
    | true =>
      cases h2 : foundHas (reach nn L F fr) (L.getD k arcD).to with
      | false =>
        obtain ⟨p, hp, e⟩ := has_at h1
        have : ¬ F.getD k 0 < (L.getD k arcD).ld := fun h0 => by
          have := (hc p hp k (by omega)).1 e.symm h0
          rw [h2] at this; cases this
        generalize F.getD k 0 = f at *
        generalize (L.getD k arcD).ld = l at *
        simp; omega
      | true => simp
/-- When no way is found, as much goes as a cut lets through. -/
theorem flow_is_cut {nn : Nat} {L : List Arc} {F : List Int} {fr tt : Int} (hE : EndsOk nn L) (hfr : 0 ≤ fr ∧ fr < nn) (h : FlowOk L F fr tt) (hp : (pushF nn L F fr tt).2 = false) :
    foundHas (reach nn L F fr) fr = true ∧ foundHas (reach nn L F fr) tt = false ∧ bal L F fr = cutN L (foundHas (reach nn L F fr)) L.length := by
  have hn : foundHas (reach nn L F fr) tt = false := by
    unfold pushF at hp
    cases hh : foundHas (reach nn L F fr) tt with
    | false => rfl
    | true => rw [if_pos hh] at hp; cases hp
  have hS := reach_ok hE F hfr
  have hm : foundHas (reach nn L F fr) fr = true := by have := at_has hS.pos; rw [hS.head] at this; exact this
  refine ⟨hm, hn, ?_⟩
  have h1 := sum_bal hE F (foundHas (reach nn L F fr)) L.length (Nat.le_refl _)
  have h2 := sumB_only (f := fun v => balN L F v L.length) (mem := foundHas (reach nn L F fr)) (fr := fr) (fun v hv hmv => h.con v hv (fun e => by rw [e, hn] at hmv; cases hmv)) hfr.1 hm nn
  rw [if_pos hfr.2] at h2
  unfold bal
  rw [← h2, h1]; exact net_eq_cut hE hfr h.bnd L.length (Nat.le_refl _)
/-! ### the flow, one by one -/
def flowN (nn : Nat) (L : List Arc) (fr tt : Int) : Nat → List Int → List Int
  | 0, F => F
  | n + 1, F => if (pushF nn L F fr tt).2 then flowN nn L fr tt n (pushF nn L F fr tt).1 else F
def flowF (nn : Nat) (L : List Arc) (fr tt : Int) : List Int := flowN nn L fr tt 145 (List.replicate L.length 0)
theorem zero_ok (L : List Arc) (fr tt : Int) (hl : ∀ k, k < L.length → 0 ≤ (L.getD k arcD).ld) : FlowOk L (List.replicate L.length 0) fr tt ∧ bal L (List.replicate L.length 0) fr = 0 := by
  have hg : ∀ k, (List.replicate L.length (0 : Int)).getD k 0 = 0 := fun k => by
    rw [List.getD_eq_getElem?_getD, List.getElem?_replicate]; split <;> rfl
  have hz : ∀ v k, balN L (List.replicate L.length 0) v k = 0 := fun v k => by
    induction k with
    | zero => rfl
    | succ k ih => simp only [balN, ih, hg]; split <;> split <;> rfl
  exact ⟨⟨by simp, fun k hk => by rw [hg]; exact ⟨Int.le_refl _, hl k hk⟩, fun v _ _ => hz v _⟩, hz fr _⟩
theorem flowN_ok {nn : Nat} {L : List Arc} {fr tt : Int} (hE : EndsOk nn L) (hfr : 0 ≤ fr ∧ fr < nn) (hne : fr ≠ tt) (hl : ∀ k, k < L.length → (L.getD k arcD).ld ≤ 9) (hL : L.length ≤ 16) :
    ∀ (n : Nat) (F : List Int), FlowOk L F fr tt → 145 ≤ bal L F fr + n → FlowOk L (flowN nn L fr tt n F) fr tt ∧ (pushF nn L (flowN nn L fr tt n F) fr tt).2 = false
  | 0, F, h, hn => by
    have := (balN_le (C := 9) (fun k hk => ⟨(h.bnd k hk).1, Int.le_trans (h.bnd k hk).2 (hl k hk)⟩) (by omega) fr L.length (Nat.le_refl _)).2
    unfold bal at hn
    omega
  | n + 1, F, h, hn => by
    unfold flowN
    cases hp : (pushF nn L F fr tt).2 with
    | false => simp only [Bool.false_eq_true, if_false]; exact ⟨h, hp⟩
    | true =>
      have := push_ok hE hfr hne h hp
      simp only [if_true]
      exact flowN_ok hE hfr hne hl hL n _ this.1 (by omega)
end Go.Proofs.Ythglnmhcgagkdaa
