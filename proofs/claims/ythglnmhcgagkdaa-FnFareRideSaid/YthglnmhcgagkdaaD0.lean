/- Walks: the reader of a code, and what is drawn of it. -/
import Derived.Test.YthglnmhcgagkdaaRows
import Derived.Test.YthglnmhcgagkdaaB0
import Derived.Deep.DeepCutAuto
import Derived.Deep.CutBlock
namespace Go.Proofs.Ythglnmhcgagkdaa
open Go.RowKit
/-- The reader at block g, so many bytes read: its bytes lie below it. -/
def RdAt (w : World) (g : Nat) (p : Int) : Prop := ∃ A n c, Blk w g #[.slice A n c, .int .i64 p] 107 ∧ n ≤ 2000 ∧
  (0 < n → ∃ g0 o, A = some ⟨g0, o, none⟩ ∧ g0 < g ∧ ∀ i, i < n → ∃ b : Int, 0 ≤ b ∧ b ≤ 255 ∧ w.cell? ⟨g0, o + i, none⟩ = some (.int .u8 b))
theorem RdAt.lt {w : World} {g : Nat} {p : Int} (h : RdAt w g p) : g < w.heap.size := by obtain ⟨A, n, c, hB, _⟩ := h; exact hB.lt
theorem RdAt.keep {w w' : World} {g : Nat} {p : Int} (h : RdAt w g p) (hk : ∀ k, k ≤ g → w'.heap[k]? = w.heap[k]?) : RdAt w' g p := by
  obtain ⟨A, n, c, hB, hn, hc⟩ := h
  refine ⟨A, n, c, (hk g (Nat.le_refl _)).trans hB, hn, fun hp => ?_⟩
  obtain ⟨g0, o, e, hg, hcell⟩ := hc hp
  refine ⟨g0, o, e, hg, fun i hi => ?_⟩
  obtain ⟨b, h1, h2, h3⟩ := hcell i hi
  exact ⟨b, h1, h2, (cell_keep (hk g0 (by omega)) _).trans h3⟩
theorem RdAt.below {w w' : World} {g : Nat} {p : Int} (h : RdAt w g p) (hb : Below w.heap.size w w') : RdAt w' g p := h.keep fun k hk => hb.block k (by have := h.lt; omega)
theorem RdAt.gb {w w' : World} {g : Nat} {p : Int} {row : Option Nat} (h : RdAt w g p) (hg : w.grownBy w' row) (hr : ∀ k, row = some k → g < k) : RdAt w' g p :=
  h.keep fun k hk => hg.block k (by have := h.lt; omega) (fun e => by have := hr k e.symm; omega)
/-- What a draw leaves: the reader has gone on by m at most; nothing else that was there has turned. -/
def Took (g : Nat) (p : Int) (m : Nat) (w w' : World) : Prop := ∃ q : Int, p ≤ q ∧ q ≤ p + m ∧ RdAt w' g q ∧ w.grownBy w' (some g)
theorem Took.refl {g : Nat} {p : Int} {w : World} (h : RdAt w g p) : Took g p 0 w w := ⟨p, by omega, by omega, h, gb_refl w _⟩
theorem Took.trans {g : Nat} {p : Int} {m m' : Nat} {w w1 w2 : World} (h : Took g p m w w1) (h2 : ∀ q, p ≤ q → q ≤ p + m → RdAt w1 g q → Took g q m' w1 w2) : Took g p (m + m') w w2 := by
  obtain ⟨q, h0, h1, hr, hg⟩ := h
  obtain ⟨q', h3, h4, hr', hg'⟩ := h2 q h0 h1 hr
  exact ⟨q', by omega, by omega, hr', gb_trans hg hg' (.inl rfl)⟩
theorem Took.mono {g : Nat} {p : Int} {m m' : Nat} {w w' : World} (h : Took g p m w w') (hm : m ≤ m') : Took g p m' w w' := by
  obtain ⟨q, h0, h1, hr, hg⟩ := h
  exact ⟨q, h0, by omega, hr, hg⟩
def Picked (g : Nat) (p n : Int) (w : World) (e : Ending) (w' : World) : Prop := ∃ k : Int, e = .returned (.int .i64 k) ∧ 0 ≤ k ∧ (1 ≤ n → k < n) ∧ RdAt w' g (p + 1) ∧ w.grownBy w' (some g)
theorem grown_set (w : World) (g j : Nat) (u : Value) : w.grownBy (w.setCell ⟨g, j, none⟩ u) (some g) :=
  ⟨rfl, rfl, rfl, by simp, fun k _ hk => Below.heap_setCell w ⟨g, j, none⟩ u k (fun e => hk (by simp [e]))⟩
theorem RdAt.set {w : World} {g : Nat} {p : Int} (h : RdAt w g p) (q : Int) : RdAt (w.setCell ⟨g, 1, none⟩ (.int .i64 q)) g q := by
  obtain ⟨A, n, c, hB, hn, hc⟩ := h
  refine ⟨A, n, c, hB.set 1 _, hn, fun hp => ?_⟩
  obtain ⟨g0, o, e, hg, hcell⟩ := hc hp
  refine ⟨g0, o, e, hg, fun i hi => ?_⟩
  obtain ⟨b, h1, h2, h3⟩ := hcell i hi
  exact ⟨b, h1, h2, (cell_keep (Below.heap_setCell w ⟨g, 1, none⟩ _ g0 (by simp; omega)) _).trans h3⟩
theorem grown_drewN {w w1 : World} {r : Option Nat} (h : w.grownBy w1 r) (n : Nat) : w.grownBy (w1.drewN n) r := ⟨h.os, h.tape, h.output, h.size, h.block⟩
theorem RdAt.drewN {w : World} {g : Nat} {p : Int} (h : RdAt w g p) (n : Nat) : RdAt (w.drewN n) g p := h.keep fun _ _ => rfl
theorem xor_nonneg (a b : Int) (ha : 0 ≤ a) (ha1 : a < 4611686018427387904) (hb : 0 ≤ b) (hb1 : b < 4611686018427387904) : 0 ≤ bits .xor .i64 a b := by
  obtain ⟨x, rfl⟩ := Int.eq_ofNat_of_zero_le ha
  obtain ⟨y, rfl⟩ := Int.eq_ofNat_of_zero_le hb
  have hx : x ^^^ y < 2 ^ 62 := Nat.xor_lt_two_pow (by omega) (by omega)
  have h1 : (BitVec.ofInt 64 (x : Int)).toNat = x := by
    rw [BitVec.ofInt_natCast, BitVec.toNat_ofNat]; exact Nat.mod_eq_of_lt (by omega)
  have h2 : (BitVec.ofInt 64 (y : Int)).toNat = y := by
    rw [BitVec.ofInt_natCast, BitVec.toNat_ofNat]; exact Nat.mod_eq_of_lt (by omega)
  show 0 ≤ IntKind.i64.wrap ((BitVec.ofInt 64 (x : Int) ^^^ BitVec.ofInt 64 (y : Int)).toNat : Int)
  rw [BitVec.toNat_xor, h1, h2, wrap_in (by omega)]
  omega
set_option maxHeartbeats 800000 in
set_option maxRecDepth 100000 in
theorem c_pick (g : Nat) (p n : Int) (w : World) (h : RdAt w g p) (hp0 : 0 ≤ p) (hp1 : p ≤ 1000000) (hn0 : -1000000 ≤ n) (hn1 : n ≤ 1000000) :
    Calls Try.prog 54 #[.pointer (some ⟨g, 0, none⟩), .int .i64 n] w (Picked g p n w) := by
  have H1 := Lib.hid (h.set (p + 1))
  have HG := Lib.hid (grown_set w g 1 (.int .i64 (p + 1)))
  obtain ⟨A, m, c, hB, hm, hzz⟩ := h
  obtain ⟨c0, c1⟩ := hB.cells2
  have f1 := hB.frozen 1
  go_enter Try.func54, Try.ntmps54
  go_upto_region 2 with (fail)
  generalize w.setCell ⟨g, 1, none⟩ (.int .i64 (p + 1)) = W1 at *
  clear c0 c1 f1 hB hzz A m c hm
  have H := H1.out
  obtain ⟨A, m, c, hB, hm, hc⟩ := H
  obtain ⟨c0, c1⟩ := hB.cells2
  by_cases hn : n < 1
  · go_wp2
    go_ret
    exact ⟨0, rfl, by omega, by omega, H1.out, HG.out⟩
  · by_cases hm0 : m = 0
    · subst hm0
      go_wp2
      go_ret
      exact ⟨0, rfl, by omega, by omega, H1.out, HG.out⟩
    · obtain ⟨g0, o, rfl, hg0, hcell⟩ := hc (by omega)
      have hme : ((m : Int) == 0) = false := by rw [beq_eq_false_iff_ne]; omega
      obtain ⟨q, rfl⟩ : ∃ q : Nat, p = q := ⟨p.toNat, by omega⟩
      by_cases hq : q < m
      · obtain ⟨b, hb0, hb1, hb⟩ := hcell q hq
        clear hcell hc
        go_wp2
        go_ret
        exact ⟨_, rfl, Int.emod_nonneg _ (by omega), fun _ => Int.emod_lt_of_pos _ (by omega), H1.out, HG.out⟩
      · clear hc
        have Hc := Lib.hid hcell
        clear hcell
        have hmp : 0 < m := by omega
        clear hm0
        obtain ⟨b, hb0, hb1, hb⟩ := Hc.out (q % m) (Nat.mod_lt _ (by omega))
        obtain ⟨b2, hb20, hb21, hb2⟩ := Hc.out ((q * 7 + 3) % m) (Nat.mod_lt _ (by omega))
        have hz : ¬ ((m : Int) = 0) := by omega
        have i1 : q % m < m := Nat.mod_lt _ (by omega)
        have i2 : (q * 7 + 3) % m < m := Nat.mod_lt _ (by omega)
        have i3 : q / m ≤ q := Nat.div_le_self _ _
        have e1 : (q : Int).tmod (m : Int) = ((q % m : Nat) : Int) := by rw [Int.ofNat_tmod]
        have e2 : ((q : Int) * 7 + 3).tmod (m : Int) = (((q * 7 + 3) % m : Nat) : Int) := by rw [show ((q : Int) * 7 + 3) = ((q * 7 + 3 : Nat) : Int) by omega, Int.ofNat_tmod]
        have e3 : (q : Int).tdiv (m : Int) = ((q / m : Nat) : Int) := by rw [Int.ofNat_tdiv]
        obtain ⟨u, hu⟩ : ∃ u, u = q % m := ⟨_, rfl⟩
        obtain ⟨v, hv⟩ : ∃ v, v = (q * 7 + 3) % m := ⟨_, rfl⟩
        obtain ⟨d, hd⟩ : ∃ d, d = q / m := ⟨_, rfl⟩
        rw [← hu] at e1 i1 hb
        rw [← hv] at e2 i2 hb2
        rw [← hd] at e3 i3
        clear hu hv hd
        have w1 : IntKind.i64.wrap b = b := wrap_in (by omega)
        have w2 : IntKind.i64.wrap (b * 131) = b * 131 := wrap_in (by omega)
        have w3 : IntKind.i64.wrap ((q : Int) * 7) = (q : Int) * 7 := wrap_in (by omega)
        have w4 : IntKind.i64.wrap ((q : Int) * 7 + 3) = (q : Int) * 7 + 3 := wrap_in (by omega)
        have w5 : IntKind.i64.wrap b2 = b2 := wrap_in (by omega)
        have w6 : IntKind.i64.wrap (b2 * 1117) = b2 * 1117 := wrap_in (by omega)
        have w7 : IntKind.i64.wrap (b * 131 + b2 * 1117) = b * 131 + b2 * 1117 := wrap_in (by omega)
        have w8 : IntKind.i64.wrap ((q : Int) * 29) = (q : Int) * 29 := wrap_in (by omega)
        have w9 : IntKind.i64.wrap (b * 131 + b2 * 1117 + (q : Int) * 29) = b * 131 + b2 * 1117 + (q : Int) * 29 := wrap_in (by omega)
        have w10 : IntKind.i64.wrap ((d : Int) * 53) = (d : Int) * 53 := wrap_in (by omega)
        have w11 : IntKind.i64.wrap (b * 131 + b2 * 1117 + (q : Int) * 29 + (d : Int) * 53) = b * 131 + b2 * 1117 + (q : Int) * 29 + (d : Int) * 53 := wrap_in (by omega)
        have w12 : IntKind.i64.wrap ((u : Nat) : Int) = (u : Int) := wrap_in (by omega)
        have w13 : IntKind.i64.wrap ((v : Nat) : Int) = (v : Int) := wrap_in (by omega)
        have w14 : IntKind.i64.wrap ((d : Nat) : Int) = (d : Int) := wrap_in (by omega)
        go_wp2
        go_quiet (fail)
        clear w1 w2 w3 w4 w5 w6 w7 w8 w9 w10 w11 w12 w13 w14 e1 e2 e3
        obtain ⟨x, hx⟩ : ∃ x : Int, x = b * 131 + b2 * 1117 + (q : Int) * 29 + (d : Int) * 53 := ⟨_, rfl⟩
        have hx0 : 0 ≤ x := by omega
        have hx1 : x ≤ 100000000 := by omega
        rw [← hx]
        clear hx
        go_wp2
        go_ret
        have hx2 := xor_nonneg x (x / 64) hx0 (by omega) (by omega) (by omega)
        exact ⟨_, rfl, Int.tmod_nonneg _ hx2, fun _ => Int.tmod_lt_of_pos _ (by omega), H1.out.drewN _, grown_drewN HG.out _⟩
end Go.Proofs.Ythglnmhcgagkdaa
