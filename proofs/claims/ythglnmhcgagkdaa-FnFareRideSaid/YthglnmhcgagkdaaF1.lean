/- Plain: what is found is closed; the way back; one push. -/
import Derived.Test.YthglnmhcgagkdaaF0
namespace Go.Proofs.Ythglnmhcgagkdaa
theorem nodup_len : ∀ (n : Nat) (xs : List Int), xs.Nodup → (∀ x ∈ xs, 0 ≤ x ∧ x < n) → xs.length ≤ n
  | 0, xs, _, h => by
    cases xs with
    | nil => simp
    | cons x xs => have := h x (by simp); omega
  | n + 1, xs, hn, h => by
    have h1 := nodup_len n (xs.erase (n : Int)) (hn.erase _) (fun x hx => by
      have hm := (List.Nodup.mem_erase_iff hn).1 hx
      have := h x hm.2
      have h3 := hm.1
      omega)
    have := List.length_erase_le (a := (n : Int)) (l := xs)
    have h2 : xs.length ≤ (xs.erase (n : Int)).length + 1 := by
      rw [List.length_erase]
      split <;> omega
    omega
theorem getD_mem {S : Reach} {p : Nat} (hp : p < S.length) : S.getD p (0, 0) ∈ S := by
  rw [List.getD_eq_getElem?_getD, List.getElem?_eq_getElem hp]; exact List.getElem_mem hp
theorem mem_getD {S : Reach} {x : Int × Int} (h : x ∈ S) : ∃ p, p < S.length ∧ S.getD p (0, 0) = x := by
  obtain ⟨p, hp, e⟩ := List.getElem_of_mem h
  exact ⟨p, hp, by rw [List.getD_eq_getElem?_getD, List.getElem?_eq_getElem hp]; exact e⟩
theorem SOk.len {nn : Nat} {L : List Arc} {F : List Int} {fr : Int} {S : Reach} (h : SOk nn L F fr S) : S.length ≤ nn := by
  have := nodup_len nn (S.map (·.1)) h.nd (fun x hx => by
    obtain ⟨p, hp, rfl⟩ := List.mem_map.1 hx
    obtain ⟨i, hi, e⟩ := mem_getD hp
    have := h.node i hi
    rw [e] at this; exact this)
  simpa using this
/-- All that may be reached from the first h of those found is found. -/
def ClosedTo (L : List Arc) (F : List Int) (S : Reach) (T : Reach) (h : Nat) : Prop := ∀ p, p < h → ∀ k, k < L.length →
  ((L.getD k arcD).fr = (S.getD p (0, 0)).1 → F.getD k 0 < (L.getD k arcD).ld → foundHas T (L.getD k arcD).to = true) ∧
  ((L.getD k arcD).to = (S.getD p (0, 0)).1 → 0 < F.getD k 0 → foundHas T (L.getD k arcD).fr = true)
theorem scan1_has (F : List Int) (x : Int) (i : Nat) (a : Arc) (S : Reach) : (a.fr = x → F.getD i 0 < a.ld → foundHas (scan1 F x i a S) a.to = true) ∧ (a.to = x → 0 < F.getD i 0 → foundHas (scan1 F x i a S) a.fr = true) := by
  unfold scan1
  simp only
  constructor
  · intro h1 h2
    rw [if_pos (⟨h1, h2⟩ : a.fr = x ∧ F.getD i 0 < a.ld)]
    split
    · exact put_mono _ _ _ _ (put_has ..)
    · exact put_has ..
  · intro h1 h2
    rw [if_pos (⟨h1, h2⟩ : a.to = x ∧ 0 < F.getD i 0)]
    exact put_has ..
theorem scanK_has (L : List Arc) (F : List Int) (x : Int) (S : Reach) : ∀ (k j : Nat), j < k → ((L.getD j arcD).fr = x → F.getD j 0 < (L.getD j arcD).ld → foundHas (scanK L F x k S) (L.getD j arcD).to = true) ∧ ((L.getD j arcD).to = x → 0 < F.getD j 0 → foundHas (scanK L F x k S) (L.getD j arcD).fr = true)
  | 0, j, h => absurd h (by omega)
  | k + 1, j, h => by
    rcases Nat.lt_succ_iff_lt_or_eq.1 h with h' | rfl
    · have := scanK_has L F x S k j h'
      exact ⟨fun a b => pre_has (scan1_pre ..) _ (this.1 a b), fun a b => pre_has (scan1_pre ..) _ (this.2 a b)⟩
    · exact scan1_has ..
theorem bfsN_closed {nn : Nat} {L : List Arc} {F : List Int} {fr : Int} (hE : EndsOk nn L) : ∀ (n h : Nat) (S : Reach), SOk nn L F fr S → ClosedTo L F S S h → h ≤ S.length → nn ≤ h + n → ClosedTo L F (bfsN L F n h S) (bfsN L F n h S) (bfsN L F n h S).length
  | 0, h, S, hS, hc, hh, hn => by
    have := hS.len
    unfold bfsN
    rw [show S.length = h by omega]; exact hc
  | n + 1, h, S, hS, hc, hh, hn => by
    unfold bfsN
    split
    · rename_i hlt
      have hp := scanK_pre L F (S.getD h (0, 0)).1 L.length S
      refine bfsN_closed hE n (h + 1) _ (hS.scanK hE h hlt _ (Nat.le_refl _)) (fun p hp1 k hk => ?_) (Nat.le_trans hlt hp.length_le) (by omega)
      rcases Nat.lt_succ_iff_lt_or_eq.1 hp1 with h' | rfl
      · rw [pre_at hp p (by omega)]
        have := hc p h' k hk
        exact ⟨fun a b => pre_has hp _ (this.1 a b), fun a b => pre_has hp _ (this.2 a b)⟩
      · rw [pre_at hp p hlt]
        exact scanK_has L F _ S L.length k hk
    · rw [show S.length = h by omega]; exact hc
def reach (nn : Nat) (L : List Arc) (F : List Int) (fr : Int) : Reach := bfsN L F nn 0 [(fr, 0)]
theorem reach_ok {nn : Nat} {L : List Arc} (hE : EndsOk nn L) (F : List Int) {fr : Int} (h : 0 ≤ fr ∧ fr < nn) : SOk nn L F fr (reach nn L F fr) := SOk.bfsN hE _ _ _ (SOk.start _ L F fr h)
theorem reach_closed {nn : Nat} {L : List Arc} (hE : EndsOk nn L) (F : List Int) {fr : Int} (h : 0 ≤ fr ∧ fr < nn) : ClosedTo L F (reach nn L F fr) (reach nn L F fr) (reach nn L F fr).length :=
  bfsN_closed hE nn 0 _ (SOk.start _ L F fr h) (fun p hp => absurd hp (by omega)) (by simp) (by omega)
/-! ### the way back -/
def isFwd (c : Int) : Bool := decide (0 < c)
def arcNo (c : Int) : Nat := if 0 < c then (c - 1).toNat else (-c - 1).toNat
def stepBack (L : List Arc) (c : Int) : Int := if 0 < c then (L.getD (arcNo c) arcD).fr else (L.getD (arcNo c) arcD).to
def wayN (L : List Arc) (S : Reach) (fr : Int) : Nat → Int → List Int
  | 0, _ => []
  | n + 1, at_ => if at_ = fr then [] else codeOf S at_ :: wayN L S fr n (stepBack L (codeOf S at_))
def app1 (F : List Int) (c : Int) : List Int := if 0 < c then F.set (arcNo c) (F.getD (arcNo c) 0 + 1) else F.set (arcNo c) (F.getD (arcNo c) 0 - 1)
theorem codeOf_at : ∀ {S : Reach} (_ : (S.map (·.1)).Nodup) (p : Nat) (_ : p < S.length), codeOf S (S.getD p (0, 0)).1 = (S.getD p (0, 0)).2
  | [], _, p, h => absurd h (by simp)
  | x :: S, hn, 0, _ => by simp [codeOf]
  | x :: S, hn, p + 1, h => by
    have h' : p < S.length := by simpa using h
    rw [List.map_cons, List.nodup_cons] at hn
    have ih := codeOf_at hn.2 p h'
    show (if x.1 = (S.getD p (0, 0)).1 then x.2 else codeOf S (S.getD p (0, 0)).1) = (S.getD p (0, 0)).2
    rw [if_neg, ih]
    intro e
    exact hn.1 (e ▸ List.mem_map_of_mem (getD_mem h'))
/-- From the entry at p: one step back leads to an entry before it. -/
theorem SOk.back {nn : Int} {L : List Arc} {F : List Int} {fr : Int} {S : Reach} (h : SOk nn L F fr S) (p : Nat) (hp0 : 0 < p) (hp : p < S.length) :
    ∃ q, q < p ∧ stepBack L (codeOf S (S.getD p (0, 0)).1) = (S.getD q (0, 0)).1 ∧ arcNo (codeOf S (S.getD p (0, 0)).1) < L.length ∧
      (if 0 < codeOf S (S.getD p (0, 0)).1 then (L.getD (arcNo (codeOf S (S.getD p (0, 0)).1)) arcD).to = (S.getD p (0, 0)).1 ∧ F.getD (arcNo (codeOf S (S.getD p (0, 0)).1)) 0 < (L.getD (arcNo (codeOf S (S.getD p (0, 0)).1)) arcD).ld
       else (L.getD (arcNo (codeOf S (S.getD p (0, 0)).1)) arcD).fr = (S.getD p (0, 0)).1 ∧ 0 < F.getD (arcNo (codeOf S (S.getD p (0, 0)).1)) 0) ∧ codeOf S (S.getD p (0, 0)).1 ≠ 0 := by
  obtain ⟨q, hq, k, hk, hc⟩ := h.ent p hp0 hp
  have hco := codeOf_at h.nd p hp
  rw [hco]
  rcases hc with ⟨hc, h1, h2, h3⟩ | ⟨hc, h1, h2, h3⟩
  · have ha : arcNo (S.getD p (0, 0)).2 = k := by unfold arcNo; rw [hc, if_pos (by omega)]; omega
    refine ⟨q, hq, ?_, by rw [ha]; exact hk, ?_, by omega⟩
    · unfold stepBack; rw [ha, hc, if_pos (by omega)]; exact h2
    · rw [ha, if_pos (by omega)]; exact ⟨h1, h3⟩
  · have ha : arcNo (S.getD p (0, 0)).2 = k := by unfold arcNo; rw [hc, if_neg (by omega)]; omega
    refine ⟨q, hq, ?_, by rw [ha]; exact hk, ?_, by omega⟩
    · unfold stepBack; rw [ha, hc, if_neg (by omega)]; exact h2
    · rw [ha, if_neg (by omega)]; exact ⟨h1, h3⟩
end Go.Proofs.Ythglnmhcgagkdaa
