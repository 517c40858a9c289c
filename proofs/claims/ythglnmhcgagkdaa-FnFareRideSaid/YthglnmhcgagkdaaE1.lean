/- Walk: a net is drawn. -/
import Derived.Test.YthglnmhcgagkdaaE0
import Derived.Test.YthglnmhcgagkdaaD2
import Derived.Test.YthglnmhcgagkdaaN0
namespace Go.Proofs.Ythglnmhcgagkdaa
open Go.RowKit
/-- What a draw of a net leaves. -/
def DrawnNet (g : Nat) (p : Int) (m : Nat) (w : World) (e : Ending) (w' : World) : Prop := ∃ (nn : Int) (v : Value) (L : List Arc), e = .returned (.agg #[.int .i64 nn, v]) ∧ 0 ≤ nn ∧ nn ≤ 9 ∧ OA w' w.heap.size v L ∧ L.length ≤ 14 ∧ Took g p m w w'
structure NSt (g : Nat) (w : World) (nb : Nat) (nn : Int) (W : World) (v : Value) (L : List Arc) (q : Int) : Prop where
  Z : Blk W w.heap.size #[.int .i64 0, .slice none 0 0] 34
  B : Blk W nb #[.int .i64 nn, v] 34
  O : OA W w.heap.size v L
  R : RdAt W g q
  G : w.grownBy W (some g)
theorem Blk.ints {W : World} {B : Nat} (xs : List Int) (h : Blk W B (nums xs).toArray 3) : IntsAt W (some ⟨B, 0, none⟩) xs := fun _ =>
  ⟨B, 0, rfl, h.lt, fun i hi => by rw [Nat.zero_add, h.cell i, List.getElem?_toArray]; exact nums_at xs i hi⟩
/-! ### the region that draws an arc -/
def cntN (l : Array Bool) : Int := (l.getD 3 false).toInt + (l.getD 7 false).toInt + (l.getD 10 false).toInt + (l.getD 12 false).toInt + (l.getD 15 false).toInt + (l.getD 17 false).toInt
theorem toInt_le (b : Bool) : 0 ≤ b.toInt ∧ b.toInt ≤ 1 := by cases b <;> decide
theorem cntN_le (l : Array Bool) : 0 ≤ cntN l ∧ cntN l ≤ 6 := by
  have h3 := toInt_le (l.getD 3 false); have h7 := toInt_le (l.getD 7 false); have h10 := toInt_le (l.getD 10 false); have h12 := toInt_le (l.getD 12 false); have h15 := toInt_le (l.getD 15 false); have h17 := toInt_le (l.getD 17 false)
  unfold cntN
  omega
def GoodN (g nb : Nat) (nn : Int) (base : Nat) (i : Nat) (v : Value) (W : World) : Prop := match i with
  | 0 | 4 | 8 | 9 | 13 | 16 => v = .pointer (some ⟨g, 0, none⟩)
  | 1 | 5 => v = .pointer (some ⟨nb, 0, none⟩)
  | 2 | 6 => v = .int .i64 nn
  | 3 | 7 | 10 | 12 | 15 | 17 => ∃ x, v = .int .i64 x
  | 11 => ∃ B x, v = .slice (some ⟨B, 0, none⟩) 6 6 ∧ g < B ∧ Blk W B #[.int .i64 0, .int .i64 1, .int .i64 2, .int .i64 5, .int .i64 9, .int .i64 x] 3
  | 14 => ∃ B, v = .slice (some ⟨B, 0, none⟩) 4 4 ∧ g < B ∧ Blk W B #[.int .i64 0, .int .i64 0, .int .i64 3, .int .i64 8] 3
  | 18 => ∃ c : Arc, v = c.val
  | 19 => ∃ B c, v = .pointer (some ⟨B, 0, none⟩) ∧ base ≤ B ∧ Blk W B (Arc.cells c).toArray 40
  | _ => True
theorem GoodN.grown {g nb : Nat} {nn : Int} {base i : Nat} {v : Value} {W W' : World} (h : GoodN g nb nn base i v W) (hb : g < base) (hg : W.grownBy W' (some g)) : GoodN g nb nn base i v W' := by
  unfold GoodN at h ⊢
  split at h <;> first | exact h | skip
  · obtain ⟨B, x, e, h1, h2⟩ := h; exact ⟨B, x, e, h1, h2.grown hg (fun e => by injection e with e; omega)⟩
  · obtain ⟨B, e, h1, h2⟩ := h; exact ⟨B, e, h1, h2.grown hg (fun e => by injection e with e; omega)⟩
  · obtain ⟨B, c, e, h1, h2⟩ := h; exact ⟨B, c, e, h1, h2.grown hg (fun e => by injection e with e; omega)⟩
structure RunN (g nb : Nat) (nn q : Int) (w0 : World) (l : Array Bool) (F : Nat → Value) (W : World) : Prop where
  U : l.getD 20 false = false
  good : ∀ i, i < 20 → l.getD i false = true → GoodN g nb nn w0.heap.size i (F i) W
  R : RdAt W g (q + cntN l)
  G : w0.grownBy W (some g)
def FinN (g : Nat) (q : Int) (w0 : World) (v : Value) (W : World) : Prop := ∃ B c, v = .pointer (some ⟨B, 0, none⟩) ∧ w0.heap.size ≤ B ∧ Blk W B (Arc.cells c).toArray 40 ∧ RdAt W g (q + 6) ∧ w0.grownBy W (some g)
theorem RunN.step {g nb : Nat} {nn q : Int} {w0 : World} {l : Array Bool} {F : Nat → Value} {W W' : World} (h : RunN g nb nn q w0 l F W) (hb : g < w0.heap.size) (hs : l.size = 21) (i : Nat) (hi : i < 20) (v : Value)
    (hg : W.grownBy W' (some g)) (hv : GoodN g nb nn w0.heap.size i v W') (hr : RdAt W' g (q + cntN (l.setIfInBounds i true))) : RunN g nb nn q w0 (l.setIfInBounds i true) (upd F i v) W' where
  U := by rw [getD_set _ (by omega), if_neg (by omega)]; exact h.U
  good := fun k hk hl => by
    unfold upd
    by_cases e : k = i
    · rw [if_pos e, e]; exact hv
    · rw [if_neg e]
      rw [getD_set _ (by omega), if_neg (fun e' => e e'.symm)] at hl
      exact (h.good k hk hl).grown hb hg
  R := hr
  G := gb_trans h.G hg (.inl rfl)
theorem cntN_same {l : Array Bool} (hs : l.size = 21) (i : Nat) (hi : i < 20) (hn : i ≠ 3 ∧ i ≠ 7 ∧ i ≠ 10 ∧ i ≠ 12 ∧ i ≠ 15 ∧ i ≠ 17) : cntN (l.setIfInBounds i true) = cntN l := by
  unfold cntN
  simp only [getD_set false (show i < l.size by omega), if_neg hn.1, if_neg hn.2.1, if_neg hn.2.2.1, if_neg hn.2.2.2.1, if_neg hn.2.2.2.2.1, if_neg hn.2.2.2.2.2]
theorem cntN_more {l : Array Bool} (hs : l.size = 21) (i : Nat) (hi : i < 20) (hu : l.getD i false = false) (hn : i = 3 ∨ i = 7 ∨ i = 10 ∨ i = 12 ∨ i = 15 ∨ i = 17) : cntN (l.setIfInBounds i true) = cntN l + 1 := by
  unfold cntN
  simp only [getD_set false (show i < l.size by omega)]
  rcases hn with rfl | rfl | rfl | rfl | rfl | rfl <;> rw [hu] <;> simp <;> omega
theorem NSt.drew {g : Nat} {w : World} {nb : Nat} {nn : Int} {W : World} {v : Value} {L : List Arc} {q : Int} (h : NSt g w nb nn W v L q) : NSt g w nb nn W.drew v L q :=
  ⟨h.Z.drewN 1, h.B.drewN 1, own_move h.O (fun _ _ _ _ => rfl), h.R.drewN 1, ⟨h.G.os, h.G.tape, h.G.output, h.G.size, h.G.block⟩⟩
theorem NSt.move {g : Nat} {w : World} {nb : Nat} {nn : Int} {W W' : World} {v : Value} {L : List Arc} {q q' : Int} (h : NSt g w nb nn W v L q) (hlt : g < w.heap.size) (hs : w.heap.size < nb) (hr : RdAt W' g q') (hg : W.grownBy W' (some g)) : NSt g w nb nn W' v L q' :=
  ⟨h.Z.grown hg (fun e => by injection e with e; omega), h.B.grown hg (fun e => by injection e with e; omega), h.O.grown hg hlt, hr, gb_trans h.G hg (.inl rfl)⟩
theorem NSt.alloc {g : Nat} {w : World} {nb : Nat} {nn : Int} {W : World} {v : Value} {L : List Arc} {q : Int} (h : NSt g w nb nn W v L q) (o : Obj) : NSt g w nb nn (W.alloc o) v L q :=
  ⟨h.Z.alloc o, h.B.alloc o, h.O.below (below_new _ _), h.R.below (below_new _ _), gb_alloc h.G o⟩
theorem NSt.far {g : Nat} {w : World} {nb : Nat} {nn : Int} {W : World} {v : Value} {L : List Arc} {q : Int} (h : NSt g w nb nn W v L q) (hlt : g < w.heap.size) (B j : Nat) (u : Value) (hB : w.heap.size < B) (hne : nb ≠ B) (hv : v.ownBlock ≠ some B) : NSt g w nb nn (W.setCell ⟨B, j, none⟩ u) v L q :=
  ⟨h.Z.far (p := ⟨B, j, none⟩) (Nat.ne_of_lt hB) u, h.B.far (p := ⟨B, j, none⟩) hne u, own_far h.O (p := ⟨B, j, none⟩) hv _, h.R.gb (grown_set W B j _) (fun k hk => by injection hk with hk; omega), gb_set_new h.G (p := ⟨B, j, none⟩) (Nat.le_of_lt hB) u⟩
theorem NSt.append {g : Nat} {w : World} {nb : Nat} {nn : Int} {W W2 : World} {v v2 : Value} {L L2 : List Arc} {q : Int} (h : NSt g w nb nn W v L q) (hlt : g < w.heap.size) (hs : w.heap.size < nb) (hO : OA W2 w.heap.size v2 L2) (hg : W.grownBy W2 v.ownBlock) : NSt g w nb nn (W2.setCell ⟨nb, 1, none⟩ v2) v2 L2 q := by
  have n1 := own_ne_blk h.O h.B (by decide)
  have n2 := own_ne_blk h.O h.Z (by decide)
  have hk : ∀ k, v.ownBlock = some k → w.heap.size ≤ k := fun k hk => (own_ge h.O k hk).1
  have B2 := h.B.grown hg (fun e => n1 e.symm)
  have Z2 := h.Z.grown hg (fun e => n2 e.symm)
  have R2 := h.R.gb hg (fun k e => Nat.lt_of_lt_of_le hlt (hk k e))
  have G2 := gb_trans h.G hg (.inr hk)
  have n3 := own_ne_blk hO B2 (by decide)
  exact ⟨Z2.far (p := ⟨nb, 1, none⟩) (Nat.ne_of_lt hs) v2, by simpa using B2.set 1 v2, own_far hO n3 _, R2.gb (grown_set W2 nb 1 v2) (fun k hk => by injection hk with hk; omega), gb_set_new G2 (p := ⟨nb, 1, none⟩) (Nat.le_of_lt hs) v2⟩
theorem ArcsAt.lit1 (w : World) (fr tt co tl ld : Int) : ArcsAt (w.alloc (.cells #[.int .i64 fr, .int .i64 tt, .int .i64 co, .int .i64 tl, .int .i64 ld] 40)) (some ⟨w.heap.size, 0, none⟩) [⟨fr, tt, co, tl, ld⟩] := fun _ => by
  obtain ⟨c0, c1, c2, c3, c4⟩ := (Blk.new w #[.int .i64 fr, .int .i64 tt, .int .i64 co, .int .i64 tl, .int .i64 ld] 40).cells5
  refine ⟨w.heap.size, 0, rfl, by simp, fun i hi => ?_⟩
  have : i = 0 := by simpa using hi
  subst this
  exact ⟨c0, c1, c2, c3, c4⟩
set_option maxHeartbeats 1000000 in
set_option maxRecDepth 100000 in
theorem c_Net (g : Nat) (p : Int) (w : World) (h : RdAt w g p) (hp0 : 0 ≤ p) (hp1 : p ≤ 900000) :
    Calls Try.prog 99 #[.pointer (some ⟨g, 0, none⟩)] w (DrawnNet g p 100 w) := by
  have hlt := h.lt
  have h1 := h.below (below_new w (.cells #[.int .i64 0, .slice none 0 0] 34))
  have B0 := Blk.new w #[.int .i64 0, .slice none 0 0] 34
  have G0 := World.grownBy_alloc w (.cells #[.int .i64 0, .slice none 0 0] 34) (some g)
  go_enter Try.func99, Try.ntmps99
  go_wp2_with fail
  refine (c_pick g p 5 _ h1 hp0 (by omega) (by omega) (by omega)).mono ?_
  rintro e w1 ⟨d, rfl, hd0, hd1, hr1, hg1⟩
  have G1 := gb_trans G0 hg1 (.inl rfl)
  have B1 := B0.grown hg1 (fun e => by injection e with e; omega)
  have hd1 := hd1 (by omega)
  have hs1 := B1.lt
  clear hg1 G0 B0 h1
  have S2 : NSt g w w1.heap.size (2 + d) (w1.alloc (.cells #[.int .i64 (2 + d), .slice none 0 0] 34)) (.slice none 0 0) [] (p + 1) :=
    ⟨B1.alloc _, Blk.new _ _ _, OA.nil _ _, hr1.below (below_new _ _), gb_alloc G1 _⟩
  clear hr1 G1 B1
  go_wp2_with fail
  obtain ⟨nb, hnb⟩ : ∃ nb, nb = w1.heap.size := ⟨_, rfl⟩
  obtain ⟨nn, hnn⟩ : ∃ x, x = 2 + d := ⟨_, rfl⟩
  rw [← hnb, ← hnn] at S2
  rw [← hnb] at hs1
  rw [← hnb, ← hnn]
  have hn2 : 2 ≤ nn := by omega
  have hn6 : nn ≤ 6 := by omega
  generalize w1.alloc (.cells #[.int .i64 nn, .slice none 0 0] 34) = W2 at *
  clear hnb hnn hd0 hd1
  refine (c_pick g (p + 1) 14 _ S2.R (by omega) (by omega) (by omega) (by omega)).mono ?_
  rintro e w3 ⟨k0, rfl, hk0, hk1, hr3, hg3⟩
  have hk1 := hk1 (by omega)
  have S3 : NSt g w nb nn w3 (.slice none 0 0) [] (p + 1 + 1) := ⟨S2.Z.grown hg3 (fun e => by injection e with e; omega), S2.B.grown hg3 (fun e => by injection e with e; omega), S2.O.grown hg3 hlt, hr3, gb_trans S2.G hg3 (.inl rfl)⟩
  clear S2 hr3 hg3
  go_wp2_with fail
  go_loopw [4] (fun v4 wr => ∃ (j : Nat) (v : Value) (L : List Arc), j ≤ 13 ∧ v4 = .int .i64 j ∧ L.length + j ≤ 13 ∧ NSt g w nb nn wr v L (p + 2 + 6 * L.length)) (fun v4 _ => (intOf v4).toNat)
  case atStart => exact ⟨k0.toNat, _, [], by omega, by rw [Int.toNat_of_nonneg hk0], by simp; omega, by rw [show p + 2 + 6 * ((([] : List Arc).length : Nat) : Int) = p + 1 + 1 by simp; omega]; exact S3⟩
  case round =>
    clear S3 hk0 hk1 h
    obtain ⟨j, v, L, hj, rfl, hl, hS⟩ := hrel
    obtain ⟨b0, b1⟩ := hS.B.cells2
    obtain ⟨z0, z1⟩ := hS.Z.cells2
    have y0 := hS.Z.frozen 0
    have HS := Lib.hid hS
    clear hS
    obtain ⟨A, cA, rfl, hcA, _⟩ := HS.out.O.shape
    by_cases hj0 : 0 < j
    · have hjI : (0 : Int) < (j : Int) := by omega
      go_wp2_with fail
      have hlw : g < wr.drew.heap.size := Nat.lt_of_lt_of_le hlt HS.out.G.size
      refine wp_region_inv (by rfl) (fun l a W => ∃ F : Nat → Value, a = ⟨#[.pointer (some ⟨g, 0, none⟩), undef, .pointer (some ⟨w.heap.size, 0, none⟩), .pointer (some ⟨nb, 0, none⟩), .int .i64 j, F 19, .pointer (some ⟨g, 0, none⟩), .int .i64 d, .int .i64 nn, .agg #[.int .i64 nn, .slice none 0 0], .pointer (some ⟨g, 0, none⟩), .int .i64 k0, .int .i64 j, .bool true, u14, u15, F 0, F 1, F 2, F 3, F 4, F 5, F 6, F 7, F 8, F 9, F 10, F 11, F 12, F 13, F 14, F 15, F 16, F 17, F 18, u35, u36, u37, u38, u39, u40, u41, u42, u43, u44, u45, u46, u47, u48, u49, u50, u51, u52, undef], []⟩ ∧ (RunN g nb nn (p + 2 + 6 * L.length) wr.drew l F W ∨ (∀ i, i < 21 → l.getD i false = true) ∧ FinN g (p + 2 + 6 * L.length) wr.drew (F 19) W)) ?step ?done ?init
      case init => exact ⟨fun k => if k = 19 then u5 else [u16, u17, u18, u19, u20, u21, u22, u23, u24, u25, u26, u27, u28, u29, u30, u31, u32, u33, u34].getD k undef, rfl, .inl ⟨rfl, fun i hi h => absurd h (by rw [Array.getD_eq_getD_getElem?, Array.getElem?_replicate]; split <;> simp), (by rw [show cntN _ = 0 from rfl, Int.add_zero]; exact HS.out.R.drewN 1), gb_refl _ _⟩⟩
      case done =>
        rintro l a W hs ⟨F, rfl, h | ⟨h, hF⟩⟩ hr
        · have := ready_nil_all (md := .any) (acycB_spec (by kernel_rfl)) hs hr 20 (by decide)
          rw [h.U] at this
          cases this
        · clear hs hr h
          obtain ⟨B, ⟨fr, tt, co, tl, ld⟩, d19, hgB, hB, hR, hG⟩ := hF
          unfold Arc.cells at hB
          simp only at hB
          have HS5 := Lib.hid (HS.out.drew.move hlt hs1 hR hG)
          have hne : nb ≠ B := by
            have := HS.out.B.lt
            simp at hgB
            omega
          have HS0 := HS
          clear HS b0 b1 z0 z1 y0 hR hG hlw
          simp only [d19]
          have HNR : Hid ((Value.slice A L.length cA).ownBlock ≠ some B) := fun e => by
            have := (own_ge HS0.out.O B e).2
            simp at hgB
            omega
          have hLl : L.length ≤ 13 := by omega
          have hjm : (0 : Int) ≤ (j : Int) - 1 := by omega
          have hwB : w.heap.size < B := by have := HS0.out.B.lt; simp at hgB; omega
          obtain ⟨b0, b1⟩ := HS5.out.B.cells2
          obtain ⟨c0, c1, c2, c3, c4⟩ := hB.cells5
          have f1 := hB.frozen 1
          have HB := Lib.hid hB
          have hnn0 : ¬ nn = 0 := by omega
          clear hB hgB
          by_cases hft : fr = tt
          · have hft' : (fr == tt) = true := by simpa using hft
            have HS6 := Lib.hid (HS5.out.far hlt B 1 (.int .i64 ((wrap64 (tt + 1)).tmod nn)) hwB hne HNR.out)
            have HLIT := Lib.hid (ArcsAt.lit1 (W.setCell ⟨B, 1, none⟩ (.int .i64 ((wrap64 (tt + 1)).tmod nn))) fr ((wrap64 (tt + 1)).tmod nn) co tl ld)
            rw [show (W.setCell ⟨B, 1, none⟩ (.int .i64 ((wrap64 (tt + 1)).tmod nn))).heap.size = W.heap.size by simp] at HLIT
            clear hft
            go_wp2_with (at_builtin; go_must (refine app_arcs w.heap.size rfl _ _ rfl (.slice A L.length cA) L [⟨fr, ((wrap64 (tt + 1)).tmod nn), co, tl, ld⟩] (some ⟨W.heap.size, 0, none⟩) 1 rfl rfl (HLIT.out) (HS6.out.alloc _).O (HS6.out.alloc _).G.size (by simp only [List.length_cons, List.length_nil]; omega) ?_); intro v2 w2 hO2 hg2 _; have HS7 := Lib.hid ((HS6.out.alloc (.cells #[.int .i64 fr, .int .i64 ((wrap64 (tt + 1)).tmod nn), .int .i64 co, .int .i64 tl, .int .i64 ld] 40)).append hlt hs1 hO2 hg2); have B2 := (HS6.out.B.alloc (.cells #[.int .i64 fr, .int .i64 ((wrap64 (tt + 1)).tmod nn), .int .i64 co, .int .i64 tl, .int .i64 ld] 40)).grown hg2 (fun e => own_ne_blk HS6.out.O HS6.out.B (by decide) e.symm); obtain ⟨b0', b1'⟩ := B2.cells2; have fz := B2.frozen 1; obtain ⟨A2, k2, e2, _⟩ := hO2.shape; subst e2; clear hO2 hg2 b0 b1 c0 c1 c2 c3 c4 f1 B2)
            go_roundw
            case rel =>
              refine ⟨j - 1, .slice A2 (L.length + 1) k2, L ++ [⟨fr, ((wrap64 (tt + 1)).tmod nn), co, tl, ld⟩], by omega, by go_num, by simp only [List.length_append, List.length_cons, List.length_nil]; omega, ?_⟩
              rw [(fun cc => by simp only [List.length_append, List.length_cons, List.length_nil]; omega : ∀ cc : Arc, p + 2 + 6 * (((L ++ [cc]).length : Nat) : Int) = p + 2 + 6 * L.length + 6)]
              simpa only [List.length_append, List.length_cons, List.length_nil, Nat.zero_add] using HS7.out
            case measure => simp [intOf]; omega
          · have hft' : (fr == tt) = false := by simpa using hft
            clear hft
            go_wp2_with (at_builtin; go_must (refine app_arcs w.heap.size rfl _ _ rfl (.slice A L.length cA) L [⟨fr, tt, co, tl, ld⟩] (some ⟨W.heap.size, 0, none⟩) 1 rfl rfl (ArcsAt.lit1 W fr tt co tl ld) (HS5.out.alloc _).O (HS5.out.alloc _).G.size (by simp only [List.length_cons, List.length_nil]; omega) ?_); intro v2 w2 hO2 hg2 _; have HS7 := Lib.hid ((HS5.out.alloc (.cells #[.int .i64 fr, .int .i64 tt, .int .i64 co, .int .i64 tl, .int .i64 ld] 40)).append hlt hs1 hO2 hg2); have B2 := (HS5.out.B.alloc (.cells #[.int .i64 fr, .int .i64 tt, .int .i64 co, .int .i64 tl, .int .i64 ld] 40)).grown hg2 (fun e => own_ne_blk HS5.out.O HS5.out.B (by decide) e.symm); obtain ⟨b0', b1'⟩ := B2.cells2; have fz := B2.frozen 1; obtain ⟨A2, k2, e2, _⟩ := hO2.shape; subst e2; clear hO2 hg2 b0 b1 c0 c1 c2 c3 c4 f1 B2)
            go_roundw
            case rel =>
              refine ⟨j - 1, .slice A2 (L.length + 1) k2, L ++ [⟨fr, tt, co, tl, ld⟩], by omega, by go_num, by simp only [List.length_append, List.length_cons, List.length_nil]; omega, ?_⟩
              rw [(fun cc => by simp only [List.length_append, List.length_cons, List.length_nil]; omega : ∀ cc : Arc, p + 2 + 6 * (((L ++ [cc]).length : Nat) : Int) = p + 2 + 6 * L.length + 6)]
              simpa only [List.length_append, List.length_cons, List.length_nil, Nat.zero_add] using HS7.out
            case measure => simp [intOf]; omega
      case step =>
        rintro l a W i K hs ⟨F, rfl, hI⟩ hi hK
        obtain ⟨hu, o, ho, hdep⟩ := mem_ready.1 hi
        have hi21 : i < 21 := (Array.getElem?_eq_some_iff.1 ho).1
        have hs21 : l.size = 21 := hs
        have hu0 : l.getD i false = false := unlisted hs21 hi21 hu
        rcases hI with hI | ⟨hI, _⟩
        · have hcases : i = 0 ∨ i = 1 ∨ i = 2 ∨ i = 3 ∨ i = 4 ∨ i = 5 ∨ i = 6 ∨ i = 7 ∨ i = 8 ∨ i = 9 ∨ i = 10 ∨ i = 11 ∨ i = 12 ∨ i = 13 ∨ i = 14 ∨ i = 15 ∨ i = 16 ∨ i = 17 ∨ i = 18 ∨ i = 19 ∨ i = 20 := by omega
          clear hi hs hi21 hu
          rcases hcases with rfl | rfl | rfl | rfl | rfl | rfl | rfl | rfl | rfl | rfl | rfl | rfl | rfl | rfl | rfl | rfl | rfl | rfl | rfl | rfl | rfl
          · -- 0
            have e := Option.some.inj ho; subst e; clear ho
            clear hdep
            refine wpOp_of rfl (by rfl) ?_
            have hcn := cntN_le l
            have hlI : (L.length : Int) ≤ 13 := by omega
            go_simp
            exact hK _ _ ⟨upd F 0 _, by simp [upd], .inl (hI.step hlw hs21 0 (by decide) _ (gb_refl _ _) rfl (by rw [cntN_same hs21 0 (by decide) (by decide)]; exact hI.R))⟩
          · -- 1
            have e := Option.some.inj ho; subst e; clear ho
            clear hdep
            refine wpOp_of rfl (by rfl) ?_
            have hcn := cntN_le l
            have hlI : (L.length : Int) ≤ 13 := by omega
            go_simp
            exact hK _ _ ⟨upd F 1 _, by simp [upd], .inl (hI.step hlw hs21 1 (by decide) _ (gb_refl _ _) rfl (by rw [cntN_same hs21 1 (by decide) (by decide)]; exact hI.R))⟩
          · -- 2
            have e := Option.some.inj ho; subst e; clear ho
            have d1 := hI.good 1 (by decide) (hdep ⟨1, .data⟩ (by simp) rfl)
            change F 1 = _ at d1
            clear hdep
            refine wpOp_of rfl (by rfl) ?_
            have hcn := cntN_le l
            have hlI : (L.length : Int) ≤ 13 := by omega
            simp only [d1]
            have hc := (HS.out.B.drewN 1).grown hI.G (fun e => by injection e with e; omega)
            obtain ⟨hc0, hc1⟩ := hc.cells2
            go_simp
            exact hK _ _ ⟨upd F 2 _, by simp [upd, d1], .inl (hI.step hlw hs21 2 (by decide) _ (gb_refl _ _) rfl (by rw [cntN_same hs21 2 (by decide) (by decide)]; exact hI.R))⟩
          · -- 3
            have e := Option.some.inj ho; subst e; clear ho
            have d0 := hI.good 0 (by decide) (hdep ⟨0, .data⟩ (by simp) rfl)
            change F 0 = _ at d0
            have d2 := hI.good 2 (by decide) (hdep ⟨2, .data⟩ (by simp) rfl)
            change F 2 = _ at d2
            clear hdep
            refine wpOp_of rfl (by rfl) ?_
            have hcn := cntN_le l
            have hlI : (L.length : Int) ≤ 13 := by omega
            simp only [d0, d2]
            go_simp
            refine (c_pick g _ nn W hI.R (by omega) (by omega) (by omega) (by omega)).mono ?_
            rintro e w' ⟨x, rfl, _, _, hr, hg⟩
            exact hK _ _ ⟨upd F 3 _, by simp [upd, d0, d2], .inl (hI.step hlw hs21 3 (by decide) _ hg ⟨x, rfl⟩ (by rw [cntN_more hs21 3 (by decide) hu0 (by decide), ← Int.add_assoc]; exact hr))⟩
          · -- 4
            have e := Option.some.inj ho; subst e; clear ho
            clear hdep
            refine wpOp_of rfl (by rfl) ?_
            have hcn := cntN_le l
            have hlI : (L.length : Int) ≤ 13 := by omega
            go_simp
            exact hK _ _ ⟨upd F 4 _, by simp [upd], .inl (hI.step hlw hs21 4 (by decide) _ (gb_refl _ _) rfl (by rw [cntN_same hs21 4 (by decide) (by decide)]; exact hI.R))⟩
          · -- 5
            have e := Option.some.inj ho; subst e; clear ho
            clear hdep
            refine wpOp_of rfl (by rfl) ?_
            have hcn := cntN_le l
            have hlI : (L.length : Int) ≤ 13 := by omega
            go_simp
            exact hK _ _ ⟨upd F 5 _, by simp [upd], .inl (hI.step hlw hs21 5 (by decide) _ (gb_refl _ _) rfl (by rw [cntN_same hs21 5 (by decide) (by decide)]; exact hI.R))⟩
          · -- 6
            have e := Option.some.inj ho; subst e; clear ho
            have d5 := hI.good 5 (by decide) (hdep ⟨5, .data⟩ (by simp) rfl)
            change F 5 = _ at d5
            clear hdep
            refine wpOp_of rfl (by rfl) ?_
            have hcn := cntN_le l
            have hlI : (L.length : Int) ≤ 13 := by omega
            simp only [d5]
            have hc := (HS.out.B.drewN 1).grown hI.G (fun e => by injection e with e; omega)
            obtain ⟨hc0, hc1⟩ := hc.cells2
            go_simp
            exact hK _ _ ⟨upd F 6 _, by simp [upd, d5], .inl (hI.step hlw hs21 6 (by decide) _ (gb_refl _ _) rfl (by rw [cntN_same hs21 6 (by decide) (by decide)]; exact hI.R))⟩
          · -- 7
            have e := Option.some.inj ho; subst e; clear ho
            have d4 := hI.good 4 (by decide) (hdep ⟨4, .data⟩ (by simp) rfl)
            change F 4 = _ at d4
            have d6 := hI.good 6 (by decide) (hdep ⟨6, .data⟩ (by simp) rfl)
            change F 6 = _ at d6
            clear hdep
            refine wpOp_of rfl (by rfl) ?_
            have hcn := cntN_le l
            have hlI : (L.length : Int) ≤ 13 := by omega
            simp only [d4, d6]
            go_simp
            refine (c_pick g _ nn W hI.R (by omega) (by omega) (by omega) (by omega)).mono ?_
            rintro e w' ⟨x, rfl, _, _, hr, hg⟩
            exact hK _ _ ⟨upd F 7 _, by simp [upd, d4, d6], .inl (hI.step hlw hs21 7 (by decide) _ hg ⟨x, rfl⟩ (by rw [cntN_more hs21 7 (by decide) hu0 (by decide), ← Int.add_assoc]; exact hr))⟩
          · -- 8
            have e := Option.some.inj ho; subst e; clear ho
            clear hdep
            refine wpOp_of rfl (by rfl) ?_
            have hcn := cntN_le l
            have hlI : (L.length : Int) ≤ 13 := by omega
            go_simp
            exact hK _ _ ⟨upd F 8 _, by simp [upd], .inl (hI.step hlw hs21 8 (by decide) _ (gb_refl _ _) rfl (by rw [cntN_same hs21 8 (by decide) (by decide)]; exact hI.R))⟩
          · -- 9
            have e := Option.some.inj ho; subst e; clear ho
            clear hdep
            refine wpOp_of rfl (by rfl) ?_
            have hcn := cntN_le l
            have hlI : (L.length : Int) ≤ 13 := by omega
            go_simp
            exact hK _ _ ⟨upd F 9 _, by simp [upd], .inl (hI.step hlw hs21 9 (by decide) _ (gb_refl _ _) rfl (by rw [cntN_same hs21 9 (by decide) (by decide)]; exact hI.R))⟩
          · -- 10
            have e := Option.some.inj ho; subst e; clear ho
            have d9 := hI.good 9 (by decide) (hdep ⟨9, .data⟩ (by simp) rfl)
            change F 9 = _ at d9
            clear hdep
            refine wpOp_of rfl (by rfl) ?_
            have hcn := cntN_le l
            have hlI : (L.length : Int) ≤ 13 := by omega
            simp only [d9]
            go_simp
            refine (c_pick g _ 100 W hI.R (by omega) (by omega) (by omega) (by omega)).mono ?_
            rintro e w' ⟨x, rfl, _, _, hr, hg⟩
            exact hK _ _ ⟨upd F 10 _, by simp [upd, d9], .inl (hI.step hlw hs21 10 (by decide) _ hg ⟨x, rfl⟩ (by rw [cntN_more hs21 10 (by decide) hu0 (by decide), ← Int.add_assoc]; exact hr))⟩
          · -- 11
            have e := Option.some.inj ho; subst e; clear ho
            obtain ⟨x10, d10⟩ := hI.good 10 (by decide) (hdep ⟨10, .data⟩ (by simp) rfl)
            clear hdep
            refine wpOp_of rfl (by rfl) ?_
            have hcn := cntN_le l
            have hlI : (L.length : Int) ≤ 13 := by omega
            simp only [d10]
            have hgW : g < W.heap.size := hI.R.lt
            go_simp
            exact hK _ _ ⟨upd F 11 _, by simp [upd, d10], .inl (hI.step hlw hs21 11 (by decide) _ (World.grownBy_alloc W (.cells #[.int .i64 0, .int .i64 1, .int .i64 2, .int .i64 5, .int .i64 9, .int .i64 x10] 3) (some g)) ⟨_, _, rfl, hgW, Blk.new _ _ _⟩ (by rw [cntN_same hs21 11 (by decide) (by decide)]; exact hI.R.below (below_new W (.cells #[.int .i64 0, .int .i64 1, .int .i64 2, .int .i64 5, .int .i64 9, .int .i64 x10] 3))))⟩
          · -- 12
            have e := Option.some.inj ho; subst e; clear ho
            have d8 := hI.good 8 (by decide) (hdep ⟨8, .data⟩ (by simp) rfl)
            change F 8 = _ at d8
            obtain ⟨B, x, d11, hgB, hB⟩ := hI.good 11 (by decide) (hdep ⟨11, .data⟩ (by simp) rfl)
            clear hdep
            refine wpOp_of rfl (by rfl) ?_
            have hcn := cntN_le l
            have hlI : (L.length : Int) ≤ 13 := by omega
            simp only [d8, d11]
            have hX : IntsAt W (some ⟨B, 0, none⟩) [0, 1, 2, 5, 9, x] := hB.ints [0, 1, 2, 5, 9, x]
            go_simp
            refine (c_one g _ (some ⟨B, 0, none⟩) 6 [0, 1, 2, 5, 9, x] W hI.R (by omega) (by omega) hX (by simp) (by simp) (fun a ha => by injection ha with ha; subst ha; show B ≠ g; omega)).mono ?_
            rintro e w' ⟨y, rfl, _, hr, hg⟩
            exact hK _ _ ⟨upd F 12 _, by simp [upd, d8, d11], .inl (hI.step hlw hs21 12 (by decide) _ hg ⟨y, rfl⟩ (by rw [cntN_more hs21 12 (by decide) hu0 (by decide), ← Int.add_assoc]; exact hr))⟩
          · -- 13
            have e := Option.some.inj ho; subst e; clear ho
            clear hdep
            refine wpOp_of rfl (by rfl) ?_
            have hcn := cntN_le l
            have hlI : (L.length : Int) ≤ 13 := by omega
            go_simp
            exact hK _ _ ⟨upd F 13 _, by simp [upd], .inl (hI.step hlw hs21 13 (by decide) _ (gb_refl _ _) rfl (by rw [cntN_same hs21 13 (by decide) (by decide)]; exact hI.R))⟩
          · -- 14
            have e := Option.some.inj ho; subst e; clear ho
            clear hdep
            refine wpOp_of rfl (by rfl) ?_
            have hcn := cntN_le l
            have hlI : (L.length : Int) ≤ 13 := by omega
            have hgW : g < W.heap.size := hI.R.lt
            go_simp
            exact hK _ _ ⟨upd F 14 _, by simp [upd], .inl (hI.step hlw hs21 14 (by decide) _ (World.grownBy_alloc W (.cells #[.int .i64 0, .int .i64 0, .int .i64 3, .int .i64 8] 3) (some g)) ⟨_, rfl, hgW, Blk.new _ _ _⟩ (by rw [cntN_same hs21 14 (by decide) (by decide)]; exact hI.R.below (below_new W (.cells #[.int .i64 0, .int .i64 0, .int .i64 3, .int .i64 8] 3))))⟩
          · -- 15
            have e := Option.some.inj ho; subst e; clear ho
            have d13 := hI.good 13 (by decide) (hdep ⟨13, .data⟩ (by simp) rfl)
            change F 13 = _ at d13
            obtain ⟨B, d14, hgB, hB⟩ := hI.good 14 (by decide) (hdep ⟨14, .data⟩ (by simp) rfl)
            clear hdep
            refine wpOp_of rfl (by rfl) ?_
            have hcn := cntN_le l
            have hlI : (L.length : Int) ≤ 13 := by omega
            simp only [d13, d14]
            have hX : IntsAt W (some ⟨B, 0, none⟩) [0, 0, 3, 8] := hB.ints [0, 0, 3, 8]
            go_simp
            refine (c_one g _ (some ⟨B, 0, none⟩) 4 [0, 0, 3, 8] W hI.R (by omega) (by omega) hX (by simp) (by simp) (fun a ha => by injection ha with ha; subst ha; show B ≠ g; omega)).mono ?_
            rintro e w' ⟨y, rfl, _, hr, hg⟩
            exact hK _ _ ⟨upd F 15 _, by simp [upd, d13, d14], .inl (hI.step hlw hs21 15 (by decide) _ hg ⟨y, rfl⟩ (by rw [cntN_more hs21 15 (by decide) hu0 (by decide), ← Int.add_assoc]; exact hr))⟩
          · -- 16
            have e := Option.some.inj ho; subst e; clear ho
            clear hdep
            refine wpOp_of rfl (by rfl) ?_
            have hcn := cntN_le l
            have hlI : (L.length : Int) ≤ 13 := by omega
            go_simp
            exact hK _ _ ⟨upd F 16 _, by simp [upd], .inl (hI.step hlw hs21 16 (by decide) _ (gb_refl _ _) rfl (by rw [cntN_same hs21 16 (by decide) (by decide)]; exact hI.R))⟩
          · -- 17
            have e := Option.some.inj ho; subst e; clear ho
            have d16 := hI.good 16 (by decide) (hdep ⟨16, .data⟩ (by simp) rfl)
            change F 16 = _ at d16
            clear hdep
            refine wpOp_of rfl (by rfl) ?_
            have hcn := cntN_le l
            have hlI : (L.length : Int) ≤ 13 := by omega
            simp only [d16]
            go_simp
            refine (c_pick g _ 10 W hI.R (by omega) (by omega) (by omega) (by omega)).mono ?_
            rintro e w' ⟨x, rfl, _, _, hr, hg⟩
            exact hK _ _ ⟨upd F 17 _, by simp [upd, d16], .inl (hI.step hlw hs21 17 (by decide) _ hg ⟨x, rfl⟩ (by rw [cntN_more hs21 17 (by decide) hu0 (by decide), ← Int.add_assoc]; exact hr))⟩
          · -- 18
            have e := Option.some.inj ho; subst e; clear ho
            obtain ⟨x3, d3⟩ := hI.good 3 (by decide) (hdep ⟨3, .data⟩ (by simp) rfl)
            obtain ⟨x7, d7⟩ := hI.good 7 (by decide) (hdep ⟨7, .data⟩ (by simp) rfl)
            obtain ⟨x12, d12⟩ := hI.good 12 (by decide) (hdep ⟨12, .data⟩ (by simp) rfl)
            obtain ⟨x15, d15⟩ := hI.good 15 (by decide) (hdep ⟨15, .data⟩ (by simp) rfl)
            obtain ⟨x17, d17⟩ := hI.good 17 (by decide) (hdep ⟨17, .data⟩ (by simp) rfl)
            clear hdep
            refine wpOp_of rfl (by rfl) ?_
            have hcn := cntN_le l
            have hlI : (L.length : Int) ≤ 13 := by omega
            simp only [d3, d7, d12, d15, d17]
            go_simp
            exact hK _ _ ⟨upd F 18 (Arc.val ⟨x3, x7, x12, x15, x17⟩), by simp [upd, Arc.val, d3, d7, d12, d15, d17], .inl (hI.step hlw hs21 18 (by decide) _ (gb_refl _ _) ⟨⟨x3, x7, x12, x15, x17⟩, rfl⟩ (by rw [cntN_same hs21 18 (by decide) (by decide)]; exact hI.R))⟩
          · -- 19
            have e := Option.some.inj ho; subst e; clear ho
            clear hdep
            refine wpOp_of rfl (by rfl) ?_
            have hcn := cntN_le l
            have hlI : (L.length : Int) ≤ 13 := by omega
            have hsz := hI.G.size
            go_simp
            exact hK _ _ ⟨upd F 19 _, by simp [upd], .inl (hI.step hlw hs21 19 (by decide) _ (World.grownBy_alloc W (.cells #[.int .i64 0, .int .i64 0, .int .i64 0, .int .i64 0, .int .i64 0] 40) (some g)) ⟨_, ⟨0, 0, 0, 0, 0⟩, rfl, hsz, Blk.new _ _ _⟩ (by rw [cntN_same hs21 19 (by decide) (by decide)]; exact hI.R.below (below_new W (.cells #[.int .i64 0, .int .i64 0, .int .i64 0, .int .i64 0, .int .i64 0] 40))))⟩
          · -- 20
            have e := Option.some.inj ho; subst e; clear ho
            obtain ⟨B, c, d19, hgB, hB⟩ := hI.good 19 (by decide) (hdep ⟨19, .data⟩ (by simp) rfl)
            obtain ⟨⟨a1, a2, a3, a4, a5⟩, d18⟩ := hI.good 18 (by decide) (hdep ⟨18, .data⟩ (by simp) rfl)
            unfold Arc.val at d18
            skip
            refine wpOp_of rfl (by rfl) ?_
            have hcn := cntN_le l
            have hlI : (L.length : Int) ≤ 13 := by omega
            simp only [d19, d18]
            obtain ⟨f0, f1, f2, f3, f4⟩ : W.frozen? ⟨B, 0, none⟩ = false ∧ W.frozen? ⟨B, 1, none⟩ = false ∧ W.frozen? ⟨B, 2, none⟩ = false ∧ W.frozen? ⟨B, 3, none⟩ = false ∧ W.frozen? ⟨B, 4, none⟩ = false := ⟨hB.frozen 0, hB.frozen 1, hB.frozen 2, hB.frozen 3, hB.frozen 4⟩
            obtain ⟨c0, c1, c2, c3, c4⟩ := hB.cells5
            go_simp
            refine hK _ _ ⟨F, by simp [d18, d19], .inr ⟨fun i hi => ?_, B, ⟨a1, a2, a3, a4, a5⟩, d19, hgB, ?_, ?_, ?_⟩⟩
            · rw [getD_set _ (by omega)]
              by_cases e : 20 = i
              · rw [if_pos e]
              · rw [if_neg e]
                have hc : i = 0 ∨ i = 1 ∨ i = 2 ∨ i = 3 ∨ i = 4 ∨ i = 5 ∨ i = 6 ∨ i = 7 ∨ i = 8 ∨ i = 9 ∨ i = 10 ∨ i = 11 ∨ i = 12 ∨ i = 13 ∨ i = 14 ∨ i = 15 ∨ i = 16 ∨ i = 17 ∨ i = 18 ∨ i = 19 := by omega
                clear hi e
                rcases hc with rfl | rfl | rfl | rfl | rfl | rfl | rfl | rfl | rfl | rfl | rfl | rfl | rfl | rfl | rfl | rfl | rfl | rfl | rfl | rfl
                · exact hdep ⟨0, .phase⟩ (by simp) rfl
                · exact hdep ⟨1, .phase⟩ (by simp) rfl
                · exact hdep ⟨2, .phase⟩ (by simp) rfl
                · exact hdep ⟨3, .phase⟩ (by simp) rfl
                · exact hdep ⟨4, .phase⟩ (by simp) rfl
                · exact hdep ⟨5, .phase⟩ (by simp) rfl
                · exact hdep ⟨6, .phase⟩ (by simp) rfl
                · exact hdep ⟨7, .phase⟩ (by simp) rfl
                · exact hdep ⟨8, .phase⟩ (by simp) rfl
                · exact hdep ⟨9, .phase⟩ (by simp) rfl
                · exact hdep ⟨10, .phase⟩ (by simp) rfl
                · exact hdep ⟨11, .phase⟩ (by simp) rfl
                · exact hdep ⟨12, .phase⟩ (by simp) rfl
                · exact hdep ⟨13, .phase⟩ (by simp) rfl
                · exact hdep ⟨14, .phase⟩ (by simp) rfl
                · exact hdep ⟨15, .phase⟩ (by simp) rfl
                · exact hdep ⟨16, .phase⟩ (by simp) rfl
                · exact hdep ⟨17, .phase⟩ (by simp) rfl
                · exact hdep ⟨18, .phase⟩ (by simp) rfl
                · exact hdep ⟨19, .phase⟩ (by simp) rfl
            · exact ((((hB.set 0 (.int .i64 a1)).set 1 (.int .i64 a2)).set 2 (.int .i64 a3)).set 3 (.int .i64 a4)).set 4 (.int .i64 a5)
            · have hc6 : cntN l = 6 := by unfold cntN; rw [hdep ⟨3, .phase⟩ (by simp) rfl, hdep ⟨7, .phase⟩ (by simp) rfl, hdep ⟨10, .phase⟩ (by simp) rfl, hdep ⟨12, .phase⟩ (by simp) rfl, hdep ⟨15, .phase⟩ (by simp) rfl, hdep ⟨17, .phase⟩ (by simp) rfl]; rfl
              have hR := hI.R
              rw [hc6] at hR
              have hk : ∀ k, some B = some k → g < k := fun k hk => by injection hk with hk; omega
              exact ((((hR.gb (grown_set _ B 0 _) hk).gb (grown_set _ B 1 _) hk).gb (grown_set _ B 2 _) hk).gb (grown_set _ B 3 _) hk).gb (grown_set _ B 4 _) hk
            · exact gb_set_new (p := ⟨B, 4, none⟩) (gb_set_new (p := ⟨B, 3, none⟩) (gb_set_new (p := ⟨B, 2, none⟩) (gb_set_new (p := ⟨B, 1, none⟩) (gb_set_new (p := ⟨B, 0, none⟩) hI.G hgB _) hgB _) hgB _) hgB _) hgB _
        · have hcases : i < 21 := by omega
          exact absurd (hI i hcases) (by rw [hu0]; simp)
    · have hjI : ¬ (0 : Int) < (j : Int) := by omega
      have y1 := HS.out.Z.frozen 1
      have HF := Lib.hid HS.out
      go_wp2_with fail
      have hB2 := (HF.out.Z.set 0 (.int .i64 nn)).set 1 (.slice A L.length cA)
      have hO2 := own_far (own_far HF.out.O (p := ⟨w.heap.size, 0, none⟩) (own_ne_blk HF.out.O HF.out.Z (by decide)) (.int .i64 nn)) (p := ⟨w.heap.size, 1, none⟩) (own_ne_blk HF.out.O HF.out.Z (by decide)) (.slice A L.length cA)
      have hR2 := (HF.out.R.gb (grown_set wr w.heap.size 0 (.int .i64 nn)) (fun k hk => by injection hk with hk; omega)).gb (grown_set _ w.heap.size 1 (.slice A L.length cA)) (fun k hk => by injection hk with hk; omega)
      have hG2 := gb_set_new (p := ⟨w.heap.size, 1, none⟩) (gb_set_new (p := ⟨w.heap.size, 0, none⟩) HF.out.G (Nat.le_refl _) (.int .i64 nn)) (Nat.le_refl _) (.slice A L.length cA)
      generalize (wr.setCell ⟨w.heap.size, 0, none⟩ (.int .i64 nn)).setCell ⟨w.heap.size, 1, none⟩ (.slice A L.length cA) = WF at *
      obtain ⟨r0, r1⟩ : WF.cell? ⟨w.heap.size, 0, none⟩ = some (.int .i64 nn) ∧ WF.cell? ⟨w.heap.size, 1, none⟩ = some (.slice A L.length cA) := by
        have := hB2.cells2
        simpa using this
      refine bodyPost_ret (v := .agg #[.int .i64 nn, .slice A L.length cA]) (by simp [results, Try.results99, go_sem, r0, r1]) rfl ⟨nn, _, L, rfl, by omega, by omega, hO2, by omega, p + 2 + 6 * L.length, by omega, by omega, hR2, hG2⟩
end Go.Proofs.Ythglnmhcgagkdaa
