/- Plain: the search for a way that augments a flow; what it finds; what one push does. No program. -/
import Derived.Test.YthglnmhcgagkdaaN0
namespace Go.Proofs.Ythglnmhcgagkdaa
abbrev Reach := List (Int × Int)
def foundHas (S : Reach) (v : Int) : Bool := S.any fun p => p.1 == v
def codeOf : Reach → Int → Int
  | [], _ => 0
  | p :: S, v => if p.1 = v then p.2 else codeOf S v
def put (S : Reach) (v c : Int) : Reach := if foundHas S v then S else S ++ [(v, c)]
def scan1 (F : List Int) (x : Int) (i : Nat) (a : Arc) (S : Reach) : Reach :=
  let S1 := if a.fr = x ∧ F.getD i 0 < a.ld then put S a.to (i + 1) else S
  if a.to = x ∧ 0 < F.getD i 0 then put S1 a.fr (-(i : Int) - 1) else S1
def scanK (L : List Arc) (F : List Int) (x : Int) : Nat → Reach → Reach
  | 0, S => S
  | k + 1, S => scan1 F x k (L.getD k arcD) (scanK L F x k S)
def bfsN (L : List Arc) (F : List Int) : Nat → Nat → Reach → Reach
  | 0, _, S => S
  | n + 1, h, S => if h < S.length then bfsN L F n (h + 1) (scanK L F (S.getD h (0, 0)).1 L.length S) else S

theorem foundHas_iff (S : Reach) (v : Int) : foundHas S v = true ↔ ∃ p ∈ S, p.1 = v := by
  unfold foundHas
  rw [List.any_eq_true]
  simp only [beq_iff_eq]
theorem put_has (S : Reach) (v c : Int) : foundHas (put S v c) v = true := by
  unfold put
  split
  · assumption
  · rw [foundHas_iff]; exact ⟨(v, c), by simp, rfl⟩
theorem put_mono (S : Reach) (v c u : Int) (h : foundHas S u = true) : foundHas (put S v c) u = true := by
  unfold put
  split
  · exact h
  · rw [foundHas_iff] at h ⊢
    obtain ⟨p, hp, e⟩ := h
    exact ⟨p, List.mem_append_left _ hp, e⟩
theorem put_pre (S : Reach) (v c : Int) : S <+: put S v c := by
  unfold put
  split
  · exact List.prefix_refl S
  · exact List.prefix_append S _
theorem scan1_pre (F : List Int) (x : Int) (i : Nat) (a : Arc) (S : Reach) : S <+: scan1 F x i a S := by
  unfold scan1
  simp only
  have h1 : S <+: (if a.fr = x ∧ F.getD i 0 < a.ld then put S a.to (i + 1) else S) := by
    split
    · exact put_pre ..
    · exact List.prefix_refl S
  split
  · exact h1.trans (put_pre ..)
  · exact h1
theorem scanK_pre (L : List Arc) (F : List Int) (x : Int) : ∀ (k : Nat) (S : Reach), S <+: scanK L F x k S
  | 0, S => List.prefix_refl S
  | k + 1, S => (scanK_pre L F x k S).trans (scan1_pre ..)
theorem bfsN_pre (L : List Arc) (F : List Int) : ∀ (n h : Nat) (S : Reach), S <+: bfsN L F n h S
  | 0, _, S => List.prefix_refl S
  | n + 1, h, S => by
    unfold bfsN
    split
    · exact (scanK_pre ..).trans (bfsN_pre L F n _ _)
    · exact List.prefix_refl S
theorem pre_at {S T : Reach} (h : S <+: T) (p : Nat) (hp : p < S.length) : T.getD p (0, 0) = S.getD p (0, 0) := by
  obtain ⟨R, rfl⟩ := h
  rw [List.getD_eq_getElem?_getD, List.getD_eq_getElem?_getD, List.getElem?_append_left hp]
theorem pre_has {S T : Reach} (h : S <+: T) (v : Int) (hv : foundHas S v = true) : foundHas T v = true := by
  obtain ⟨R, rfl⟩ := h
  rw [foundHas_iff] at hv ⊢
  obtain ⟨p, hp, e⟩ := hv
  exact ⟨p, List.mem_append_left _ hp, e⟩
/-- How an entry came to be. -/
def EntryOk (L : List Arc) (F : List Int) (S : Reach) (v c : Int) (q : Nat) : Prop := ∃ k : Nat, k < L.length ∧
  ((c = (k : Int) + 1 ∧ (L.getD k arcD).to = v ∧ (L.getD k arcD).fr = (S.getD q (0, 0)).1 ∧ F.getD k 0 < (L.getD k arcD).ld) ∨
   (c = -(k : Int) - 1 ∧ (L.getD k arcD).fr = v ∧ (L.getD k arcD).to = (S.getD q (0, 0)).1 ∧ 0 < F.getD k 0))
structure SOk (nn : Int) (L : List Arc) (F : List Int) (fr : Int) (S : Reach) : Prop where
  pos : 0 < S.length
  head : S.getD 0 (0, 0) = (fr, 0)
  nd : (S.map (·.1)).Nodup
  node : ∀ p, p < S.length → 0 ≤ (S.getD p (0, 0)).1 ∧ (S.getD p (0, 0)).1 < nn
  ent : ∀ p, 0 < p → p < S.length → ∃ q, q < p ∧ EntryOk L F S (S.getD p (0, 0)).1 (S.getD p (0, 0)).2 q
theorem SOk.put {nn : Int} {L : List Arc} {F : List Int} {fr : Int} {S : Reach} (h : SOk nn L F fr S) (v c : Int) (hv : 0 ≤ v ∧ v < nn) (q : Nat) (hq : q < S.length) (he : EntryOk L F S v c q) : SOk nn L F fr (put S v c) := by
  unfold Ythglnmhcgagkdaa.put
  split
  · exact h
  · rename_i hn
    have hat : ∀ p, p < S.length → (S ++ [(v, c)]).getD p (0, 0) = S.getD p (0, 0) := fun p hp => pre_at (List.prefix_append S _) p hp
    have hlast : (S ++ [(v, c)]).getD S.length (0, 0) = (v, c) := by simp [List.getD_eq_getElem?_getD]
    have hmove : ∀ u d q, q < S.length → EntryOk L F S u d q → EntryOk L F (S ++ [(v, c)]) u d q := fun u d q hq hh => by
      unfold EntryOk at hh ⊢
      rw [hat q hq]; exact hh
    refine ⟨by simp, by rw [hat 0 h.pos]; exact h.head, ?_, fun p hp => ?_, fun p hp0 hp => ?_⟩
    · rw [List.map_append, List.nodup_append]
      refine ⟨h.nd, by simp, fun a ha b hb e => hn ?_⟩
      simp at hb
      subst hb
      subst e
      rw [foundHas_iff]
      obtain ⟨p, hp, e⟩ := List.mem_map.1 ha
      exact ⟨p, hp, e⟩
    · rcases Nat.lt_or_ge p S.length with h' | h'
      · rw [hat p h']; exact h.node p h'
      · have : p = S.length := by simp at hp; omega
        subst this
        rw [hlast]; exact hv
    · rcases Nat.lt_or_ge p S.length with h' | h'
      · rw [hat p h']
        obtain ⟨q, hq, he⟩ := h.ent p hp0 h'
        exact ⟨q, hq, hmove _ _ q (by omega) he⟩
      · have : p = S.length := by simp at hp; omega
        subst this
        rw [hlast]
        exact ⟨q, hq, hmove _ _ q hq he⟩
/-- Each arc's ends are nodes. -/
def EndsOk (nn : Int) (L : List Arc) : Prop := ∀ k, k < L.length → (0 ≤ (L.getD k arcD).fr ∧ (L.getD k arcD).fr < nn) ∧ (0 ≤ (L.getD k arcD).to ∧ (L.getD k arcD).to < nn)
theorem SOk.scan1 {nn : Int} {L : List Arc} {F : List Int} {fr : Int} {S : Reach} (h : SOk nn L F fr S) (hE : EndsOk nn L) (q : Nat) (hq : q < S.length) (k : Nat) (hk : k < L.length) : SOk nn L F fr (scan1 F (S.getD q (0, 0)).1 k (L.getD k arcD) S) := by
  unfold Ythglnmhcgagkdaa.scan1
  simp only
  have h1 : SOk nn L F fr (if (L.getD k arcD).fr = (S.getD q (0, 0)).1 ∧ F.getD k 0 < (L.getD k arcD).ld then Ythglnmhcgagkdaa.put S (L.getD k arcD).to (k + 1) else S) ∧ S <+: (if (L.getD k arcD).fr = (S.getD q (0, 0)).1 ∧ F.getD k 0 < (L.getD k arcD).ld then Ythglnmhcgagkdaa.put S (L.getD k arcD).to (k + 1) else S) := by
    split
    · rename_i hc
      exact ⟨h.put _ _ (hE k hk).2 q hq ⟨k, hk, .inl ⟨rfl, rfl, hc.1, hc.2⟩⟩, put_pre ..⟩
    · exact ⟨h, List.prefix_refl S⟩
  generalize (if (L.getD k arcD).fr = (S.getD q (0, 0)).1 ∧ F.getD k 0 < (L.getD k arcD).ld then Ythglnmhcgagkdaa.put S (L.getD k arcD).to (k + 1) else S) = S1 at h1 ⊢
  split
  · rename_i hc
    refine h1.1.put _ _ (hE k hk).1 q (Nat.lt_of_lt_of_le hq h1.2.length_le) ⟨k, hk, .inr ⟨rfl, rfl, ?_, hc.2⟩⟩
    rw [pre_at h1.2 q hq]; exact hc.1
  · exact h1.1
theorem SOk.scanK {nn : Int} {L : List Arc} {F : List Int} {fr : Int} {S : Reach} (h : SOk nn L F fr S) (hE : EndsOk nn L) (q : Nat) (hq : q < S.length) : ∀ k, k ≤ L.length → SOk nn L F fr (scanK L F (S.getD q (0, 0)).1 k S)
  | 0, _ => h
  | k + 1, hk => by
    have h1 := SOk.scanK h hE q hq k (by omega)
    have hp := scanK_pre L F (S.getD q (0, 0)).1 k S
    have := h1.scan1 hE q (Nat.lt_of_lt_of_le hq hp.length_le) k (by omega)
    rw [pre_at hp q hq] at this
    exact this
theorem SOk.bfsN {nn : Int} {L : List Arc} {F : List Int} {fr : Int} (hE : EndsOk nn L) : ∀ (n h : Nat) (S : Reach), SOk nn L F fr S → SOk nn L F fr (bfsN L F n h S)
  | 0, _, _, hS => hS
  | n + 1, h, S, hS => by
    unfold Ythglnmhcgagkdaa.bfsN
    split
    · rename_i hh
      exact SOk.bfsN hE n _ _ (hS.scanK hE h hh _ (Nat.le_refl _))
    · exact hS
theorem SOk.start (nn : Int) (L : List Arc) (F : List Int) (fr : Int) (h : 0 ≤ fr ∧ fr < nn) : SOk nn L F fr [(fr, 0)] :=
  ⟨by simp, rfl, by simp, fun p hp => by have : p = 0 := by simpa using hp
                                         subst this; exact h, fun p hp0 hp => by simp at hp; omega⟩
end Go.Proofs.Ythglnmhcgagkdaa
