/- Plain: what a push does to what comes and goes. -/
import Derived.Test.YthglnmhcgagkdaaF1
namespace Go.Proofs.Ythglnmhcgagkdaa
def balN (L : List Arc) (F : List Int) (v : Int) : Nat → Int
  | 0 => 0
  | k + 1 => balN L F v k + (if (L.getD k arcD).fr = v then F.getD k 0 else 0) - (if (L.getD k arcD).to = v then F.getD k 0 else 0)
def bal (L : List Arc) (F : List Int) (v : Int) : Int := balN L F v L.length
def one (b : Prop) [Decidable b] : Int := if b then 1 else 0
theorem getD_set_int (F : List Int) (i j : Nat) (x : Int) (h : i < F.length) : (F.set i x).getD j 0 = if i = j then x else F.getD j 0 := by
  rw [List.getD_eq_getElem?_getD, List.getD_eq_getElem?_getD, List.getElem?_set]
  split
  · first | rfl | simp [h]
  · rfl
theorem balN_set (L : List Arc) (F : List Int) (v : Int) (i : Nat) (d : Int) (hi : i < F.length) : ∀ k, balN L (F.set i (F.getD i 0 + d)) v k = balN L F v k + if i < k then (if (L.getD i arcD).fr = v then d else 0) - (if (L.getD i arcD).to = v then d else 0) else 0
  | 0 => by simp [balN]
  | k + 1 => by
    have ih := balN_set L F v i d hi k
    simp only [balN]
    rw [ih, getD_set_int F i k _ hi]
    by_cases e : i = k
    · subst e
      rw [if_neg (Nat.lt_irrefl _), if_pos rfl, if_pos (Nat.lt_succ_self _)]
      split <;> split <;> omega
    · rw [if_neg e]
      by_cases h : i < k
      · rw [if_pos h, if_pos (show i < k + 1 by omega)]
        generalize (if (L.getD k arcD).fr = v then F.getD k 0 else 0) = X
        generalize (if (L.getD k arcD).to = v then F.getD k 0 else 0) = Y
        omega
      · rw [if_neg h, if_neg (show ¬ i < k + 1 by omega)]
        generalize (if (L.getD k arcD).fr = v then F.getD k 0 else 0) = X
        generalize (if (L.getD k arcD).to = v then F.getD k 0 else 0) = Y
        omega
theorem bal_app (L : List Arc) (F : List Int) (v c : Int) (hF : F.length = L.length) (hc : arcNo c < L.length) (at_ : Int)
    (ha : if 0 < c then (L.getD (arcNo c) arcD).to = at_ else (L.getD (arcNo c) arcD).fr = at_) : bal L (app1 F c) v = bal L F v + one (stepBack L c = v) - one (at_ = v) := by
  unfold bal app1 stepBack one
  by_cases h : 0 < c
  · rw [if_pos h] at ha ⊢
    rw [balN_set L F v _ 1 (by omega), if_pos hc, if_pos h, ha]; omega
  · rw [if_neg h] at ha ⊢
    rw [show F.getD (arcNo c) 0 - 1 = F.getD (arcNo c) 0 + (-1) by omega, balN_set L F v _ (-1) (by omega), if_pos hc, if_neg h, ha]
    split <;> split <;> omega
theorem app1_length (F : List Int) (c : Int) : (app1 F c).length = F.length := by unfold app1; split <;> simp
theorem way_length (cs : List Int) : ∀ F : List Int, (cs.foldl app1 F).length = F.length := by
  induction cs with
  | nil => intro F; rfl
  | cons c cs ih => intro F; rw [List.foldl_cons, ih, app1_length]
theorem nd_inj {S : Reach} (hn : (S.map (·.1)).Nodup) {p q : Nat} (hp : p < S.length) (hq : q < S.length) (e : (S.getD p (0, 0)).1 = (S.getD q (0, 0)).1) : p = q := by
  have hp' : p < (S.map (·.1)).length := by simpa using hp
  have hq' : q < (S.map (·.1)).length := by simpa using hq
  have e' : (S.map (·.1))[p] = (S.map (·.1))[q] := by
    rw [List.getElem_map, List.getElem_map]
    simpa [List.getD_eq_getElem?_getD, List.getElem?_eq_getElem hp, List.getElem?_eq_getElem hq] using e
  rcases Nat.lt_trichotomy p q with h | h | h
  · exact absurd e' (List.pairwise_iff_getElem.1 hn p q hp' hq' h)
  · exact h
  · exact absurd e'.symm (List.pairwise_iff_getElem.1 hn q p hq' hp' h)
/-- An arc with an end found behind p. -/
def Behind (L : List Arc) (S : Reach) (p k : Nat) : Prop := ∃ p', p < p' ∧ p' < S.length ∧ ((L.getD k arcD).fr = (S.getD p' (0, 0)).1 ∨ (L.getD k arcD).to = (S.getD p' (0, 0)).1)
/-- The whole way from the entry at p: it ends; one more goes from the first, one less from the entry; each arc stays within its bounds; no arc with an end behind p is touched. -/
theorem way_all {nn : Int} {L : List Arc} {F : List Int} {fr : Int} {S : Reach} (h : SOk nn L F fr S) (hb : ∀ k, k < L.length → 0 ≤ F.getD k 0 ∧ F.getD k 0 ≤ (L.getD k arcD).ld) :
    ∀ (p n : Nat) (G : List Int), p < S.length → p < n → G.length = L.length → (∀ k, k < L.length → 0 ≤ G.getD k 0 ∧ G.getD k 0 ≤ (L.getD k arcD).ld) → (∀ k, k < L.length → ¬ Behind L S p k → G.getD k 0 = F.getD k 0) →
      (∀ v, bal L ((wayN L S fr n (S.getD p (0, 0)).1).foldl app1 G) v = bal L G v + one (fr = v) - one ((S.getD p (0, 0)).1 = v)) ∧
      (∀ k, k < L.length → 0 ≤ ((wayN L S fr n (S.getD p (0, 0)).1).foldl app1 G).getD k 0 ∧ ((wayN L S fr n (S.getD p (0, 0)).1).foldl app1 G).getD k 0 ≤ (L.getD k arcD).ld) := by
  intro p
  induction p using Nat.strongRecOn with
  | ind p ih =>
    intro n G hp hpn hG hGb hGF
    obtain ⟨m, rfl⟩ : ∃ m, n = m + 1 := ⟨n - 1, by omega⟩
    by_cases hp0 : p = 0
    · subst hp0
      have e : (S.getD 0 (0, 0)).1 = fr := by rw [h.head]
      simp only [wayN, e, if_true, List.foldl_nil]
      exact ⟨fun v => by omega, hGb⟩
    · have hne : (S.getD p (0, 0)).1 ≠ fr := fun e => hp0 (nd_inj h.nd hp h.pos (by rw [h.head]; exact e))
      obtain ⟨q, hq, hstep, ha, hc, hc0⟩ := h.back p (by omega) hp
      simp only [wayN, if_neg hne, List.foldl_cons]
      generalize hcc : codeOf S (S.getD p (0, 0)).1 = c at *
      rw [hstep]
      -- the arc that is used
      have hends : ((L.getD (arcNo c) arcD).fr = (S.getD p (0, 0)).1 ∧ (L.getD (arcNo c) arcD).to = (S.getD q (0, 0)).1) ∨ ((L.getD (arcNo c) arcD).to = (S.getD p (0, 0)).1 ∧ (L.getD (arcNo c) arcD).fr = (S.getD q (0, 0)).1) := by
        unfold stepBack at hstep
        by_cases h0 : 0 < c
        · rw [if_pos h0] at hstep hc; exact .inr ⟨hc.1, hstep⟩
        · rw [if_neg h0] at hstep hc; exact .inl ⟨hc.1, hstep⟩
      have hnb : ¬ Behind L S p (arcNo c) := by
        rintro ⟨p', h1, h2, h3⟩
        rcases hends with ⟨e1, e2⟩ | ⟨e1, e2⟩ <;> rcases h3 with h3 | h3
        · have := nd_inj h.nd hp h2 (e1 ▸ h3); omega
        · have := nd_inj h.nd (by omega) h2 (e2 ▸ h3); omega
        · have := nd_inj h.nd (by omega) h2 (e2 ▸ h3); omega
        · have := nd_inj h.nd hp h2 (e1 ▸ h3); omega
      have hGc := hGF _ ha hnb
      have hbc := hb _ ha
      have hset : ∀ k, (app1 G c).getD k 0 = if arcNo c = k then (if 0 < c then G.getD (arcNo c) 0 + 1 else G.getD (arcNo c) 0 - 1) else G.getD k 0 := fun k => by
        unfold app1
        by_cases h0 : 0 < c
        · rw [if_pos h0, getD_set_int _ _ _ _ (by omega), if_pos h0]
        · rw [if_neg h0, getD_set_int _ _ _ _ (by omega), if_neg h0]
      have IH := ih q hq m (app1 G c) (by omega) (by omega) (by rw [app1_length]; exact hG) (fun k hk => by
        rw [hset k]
        by_cases e : arcNo c = k
        · subst e
          rw [if_pos rfl, hGc]
          by_cases h0 : 0 < c
          · rw [if_pos h0] at hc ⊢; omega
          · rw [if_neg h0] at hc ⊢; omega
        · rw [if_neg e]; exact hGb k hk) (fun k hk hn => by
        rw [hset k, if_neg]
        · refine hGF k hk fun ⟨p', h1, h2, h3⟩ => hn ⟨p', by omega, h2, h3⟩
        · rintro rfl
          exact hn ⟨p, hq, hp, by rcases hends with ⟨e1, _⟩ | ⟨e1, _⟩; exact .inl e1; exact .inr e1⟩)
      refine ⟨fun v => ?_, IH.2⟩
      rw [IH.1 v, bal_app L G v c hG ha (S.getD p (0, 0)).1 (by by_cases h0 : 0 < c; rw [if_pos h0] at hc ⊢; exact hc.1; rw [if_neg h0] at hc ⊢; exact hc.1), hstep]
      omega
end Go.Proofs.Ythglnmhcgagkdaa
