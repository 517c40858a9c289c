/- Walks: a walk is drawn. -/
import Derived.Test.YthglnmhcgagkdaaU0
import Derived.Test.YthglnmhcgagkdaaB1
namespace Go.Proofs.Ythglnmhcgagkdaa
open Go.RowKit
theorem OA.arcs' {w : World} {base n c : Nat} {A : Option Addr} {xs : List Arc} (h : OA w base (.slice A n c) xs) : ArcsAt w A xs := by
  obtain ⟨A', c', e, _, h'⟩ := h.shape
  injection e with e1 _ _
  rw [e1]; exact h'
structure WkSt (g : Nat) (w : World) (cb : Array Value) (L : List Arc) (va : Value) (xs : List Int) (v : Value) (q : Int) (W : World) : Prop extends DSt g w cb xs v q W where
  L : OA W (g + 1) va L
theorem WkSt.tk {g : Nat} {w : World} {cb : Array Value} {L : List Arc} {va : Value} {xs : List Int} {v : Value} {q q' : Int} {W W1 : World} (h : WkSt g w cb L va xs v q W) (hlt : g < w.heap.size) (hg : W.grownBy W1 (some g)) (hr : RdAt W1 g q') : WkSt g w cb L va xs v q' W1 :=
  ⟨h.toDSt.took hlt hg hr, h.L.grown hg (Nat.lt_succ_self g)⟩
theorem WkSt.ap {g : Nat} {w : World} {cb : Array Value} {L : List Arc} {va : Value} {xs ys : List Int} {v v1 : Value} {q : Int} {W W1 : World} (h : WkSt g w cb L va xs v q W) (hlt : g < w.heap.size) (hO : OI W1 w.heap.size v1 ys) (hg : W.grownBy W1 v.ownBlock) : WkSt g w cb L va ys v1 q W1 :=
  ⟨h.toDSt.app hlt hO hg, own_move h.L (fun k hk _ hl => hg.block k hl (fun e => own_apart h.L h.O (by decide) k hk e.symm))⟩
theorem WkSt.below {g : Nat} {w : World} {cb : Array Value} {L : List Arc} {va : Value} {xs : List Int} {v : Value} {q : Int} {W W1 : World} (h : WkSt g w cb L va xs v q W) (hb : Below W.heap.size W W1) : WkSt g w cb L va xs v q W1 :=
  ⟨⟨h.B.below hb, h.O.below hb, h.R.below hb, gb_below h.G hb⟩, h.L.below hb⟩
set_option maxHeartbeats 2000000 in
set_option maxRecDepth 100000 in
theorem c_l30Walk (g : Nat) (p : Int) (w : World) (nn : Int) (A : Option Addr) (cA : Nat) (L : List Arc) (a0 s0 : Int) (h : RdAt w g p) (hL : OA w (g + 1) (.slice A L.length cA) L) (hl : L.length ≤ 16) (hp0 : 0 ≤ p) (hp1 : p ≤ 900000) (hs0 : 0 ≤ s0) (hs1 : s0 ≤ 21) :
    Calls Try.prog 100 #[.pointer (some ⟨g, 0, none⟩), .agg #[.int .i64 nn, .slice A L.length cA], .int .i64 a0, .int .i64 s0] w (DrawnI g p 24 21 w) := by
  have hlt := h.lt
  have s1 : (w.alloc (.cells #[.int .i64 nn, .slice A L.length cA] 34)).heap.size = w.heap.size + 1 := by simp
  have D0 : WkSt g w #[.int .i64 nn, .slice A L.length cA] L (.slice A L.length cA) [] (.slice (some ⟨w.heap.size + 1, 0, none⟩) 0 0) p ((w.alloc (.cells #[.int .i64 nn, .slice A L.length cA] 34)).alloc (.cells #[] 3)) := by
    have hO := OI.lit (w.alloc (.cells #[.int .i64 nn, .slice A L.length cA] 34)) w.heap.size [] (by simp) (by simp)
    rw [s1] at hO
    exact ⟨⟨(Blk.new w _ _).alloc _, hO, (h.below (below_new w _)).below (below_new _ _), gb_alloc (World.grownBy_alloc w _ (some g)) _⟩, (hL.below (below_new w _)).below (below_new _ _)⟩
  clear s1 h hL
  have ew : IntKind.i64.wrap (s0 + 1) = s0 + 1 := wrap_in (by omega)
  go_enter Try.func100, Try.ntmps100
  go_wp2_with fail
  generalize (w.alloc (.cells #[.int .i64 nn, .slice A L.length cA] 34)).alloc (.cells #[] 3) = W0 at *
  refine (c_pick g p (s0 + 1) W0 D0.R hp0 (by omega) (by omega) (by omega)).mono ?_
  rintro e W1 ⟨k, rfl, hk0, hk1, hr, hg⟩
  have HD1 := Lib.hid (D0.tk hlt hg hr)
  have hk4 := hk1 (by omega)
  clear D0 hr hg hk1 ew
  go_wp2_with fail
  go_loopw [9, 10, 11] (fun v9 v10 v11 wr => ∃ (s : Int) (a : Int) (xs : List Int) (q : Int), 0 ≤ s ∧ s ≤ 21 ∧ v10 = .int .i64 a ∧ v11 = .int .i64 s ∧ Hid (WkSt g w #[.int .i64 nn, .slice A L.length cA] L (.slice A L.length cA) xs v9 q wr) ∧ xs.length + s ≤ 21 ∧ p ≤ q ∧ q ≤ p + 1 + xs.length) (fun _ _ v11 _ => (intOf v11).toNat)
  case atStart => exact ⟨k, a0, [], p + 1, hk0, by omega, rfl, rfl, HD1, by simp; omega, by omega, by simp⟩
  case round =>
    clear HD1 hk0 hk4
    obtain ⟨s, a, xs, q, hs0', hs1', rfl, rfl, HD, hxl, hq0, hq1⟩ := hrel
    obtain ⟨wo, rfl⟩ : ∃ x, x = wr := ⟨_, rfl⟩
    by_cases hsp : 0 < s
    · have hO0 := OI.lit wo wo.heap.size [] (Nat.le_refl _) (by simp)
      have HO1 : Hid (OI (wo.alloc (.cells #[] 3)) wo.heap.size (.slice (some ⟨wo.heap.size, 0, none⟩) 0 0) []) := hO0
      have HB1 := Lib.hid (below_new wo (.cells #[] 3))
      clear hO0
      go_wp2_with fail
      generalize wo.alloc (.cells #[] 3) = V0 at *
      go_loopw [12, 13] (fun v12 v13 wr => ∃ (i : Nat) (out : List Int), i ≤ L.length ∧ v13 = .int .i64 i ∧ Hid (OI wr wo.heap.size v12 out) ∧ out.length ≤ i ∧ Hid (Below wo.heap.size wo wr) ∧ Hid (∀ x ∈ out, 0 ≤ x ∧ x < L.length)) (fun _ v13 _ => L.length - (intOf v13).toNat)
      case atStart => exact ⟨0, [], Nat.zero_le _, rfl, HO1, Nat.le_refl _, HB1, fun x hx => by simp at hx⟩
      case round =>
        clear HO1 HB1
        obtain ⟨i, out, hi, rfl, HO, hol, HB, HX⟩ := hrel
        have HD2 := Lib.hid (HD.out.below HB.out)
        obtain ⟨b0, b1⟩ := HD2.out.B.cells2
        by_cases hlt2 : i < L.length
        · have hltI : (i : Int) < (L.length : Int) := by omega
          have hi0 : (0 : Int) ≤ (i : Int) := by omega
          obtain ⟨ga, oa, e, hga, hac⟩ := HD2.out.L.arcs'.at (by omega)
          subst e
          obtain ⟨a0', _, _, _, _⟩ := hac i hlt2
          clear hac
          obtain ⟨u, hu⟩ : ∃ u, u = (L.getD i arcD).fr := ⟨_, rfl⟩
          rw [← hu] at a0'
          clear hu
          have hwv : wo.heap.size ≤ wr.heap.size := HB.out.size
          by_cases hua : u = a
          · have hua' : (u == a) = true := by simpa using hua
            clear hua
            go_wp2_with (at_builtin; go_must (refine app_int wo.heap.size rfl _ _ rfl u12 out (i : Int) rfl rfl HO.out hwv (by omega) ?_); intro v2 w2 hO2 hg2)
            go_roundw
            case rel =>
              refine ⟨i + 1, out ++ [(i : Int)], by omega, by go_num, hO2, by simp; omega, below_gb HB.out hg2 (own_row_new HO.out), fun x hx => ?_⟩
              rcases List.mem_append.1 hx with h1 | h1
              · exact HX.out x h1
              · simp at h1; subst h1; exact ⟨by omega, by omega⟩
            case measure => simp [intOf]; omega
          · have hua' : (u == a) = false := by simpa using hua
            clear hua
            go_wp2_with fail
            go_roundw
            case rel => exact ⟨i + 1, out, by omega, by go_num, HO, by omega, HB, HX⟩
            case measure => simp [intOf]; omega
        · have hltI : ¬ (i : Int) < (L.length : Int) := by omega
          by_cases h0 : 0 < out.length
          · obtain ⟨go', co, e, hgo, hlo, hco, hfo⟩ := HO.out.at h0
            subst e
            have h0' : ((out.length : Int) == 0) = false := by simp; intro e; subst e; simp at h0
            have HO2 := Lib.hid HO.out
            clear hco hfo hlo
            go_wp2_with fail
            refine (c_pick g q out.length wr HD2.out.R (by omega) (by omega) (by omega) (by omega)).mono ?_
            rintro e W3 ⟨y, rfl, hy0, hy1, hr3, hg3⟩
            have hglt : g < wo.heap.size := Nat.lt_of_lt_of_le hlt HD.out.G.size
            have HD3 := Lib.hid (HD2.out.tk hlt hg3 hr3)
            have hO3 := HO2.out.grown hg3 hglt
            have hy2 := hy1 (by omega)
            obtain ⟨yn, rfl⟩ := Int.eq_ofNat_of_zero_le hy0
            obtain ⟨_, _, e, _, _, hc3, _⟩ := hO3.at h0
            injection e with e1 _ e3
            injection e1 with e1
            injection e1 with e1
            subst e1 e3
            have xk := hc3 yn (by omega)
            have hxin := HX.out (out.getD yn 0) (by simp [List.getD_eq_getElem?_getD, show yn < out.length by omega])
            obtain ⟨x, hx⟩ : ∃ x, x = out.getD yn 0 := ⟨_, rfl⟩
            rw [← hx] at xk hxin
            clear hx hc3 hO3 HD2 hr3 hg3 b0 b1 hy1
            obtain ⟨xn, rfl⟩ := Int.eq_ofNat_of_zero_le hxin.1
            have hxn1 := hxin.2
            have hxn0 := hxin.1
            have hs3 : w.heap.size ≤ W3.heap.size := HD3.out.G.size
            clear hxin
            go_wp2_with (at_builtin; go_must (refine app_int w.heap.size rfl _ _ rfl u9 xs (xn : Int) rfl rfl HD3.out.O hs3 (by omega) ?_); intro v4 W4 hO4 hg4; have HD4 := Lib.hid (HD3.out.ap hlt hO4 hg4); obtain ⟨b0, b1⟩ := HD4.out.B.cells2; obtain ⟨ga, oa, e, hga, hac⟩ := HD4.out.L.arcs'.at (Nat.lt_of_le_of_lt (Nat.zero_le xn) (Int.ofNat_lt.1 hxn1)); subst e; obtain ⟨_, a1', _, _, _⟩ := hac xn (Int.ofNat_lt.1 hxn1); clear hac)
            go_roundw
            case rel => exact ⟨s - 1, _, xs ++ [(xn : Int)], q + 1, by omega, by omega, rfl, rfl, HD4, by simp; omega, by omega, by simp; omega⟩
            case measure => simp [intOf]; omega
          · have h0' : ((out.length : Int) == 0) = true := by rw [show out.length = 0 by omega]; rfl
            obtain ⟨Ao, co, e, _, _⟩ := HO.out.shape
            subst e
            go_wp2_with fail
            go_ret
            exact ⟨u9, xs, rfl, HD2.out.O, by omega, HD2.out.toDSt.took' (by omega) (by omega)⟩
    · go_wp2_with fail
      go_ret
      exact ⟨u9, xs, rfl, HD.out.O, by omega, HD.out.toDSt.took' (by omega) (by omega)⟩
end Go.Proofs.Ythglnmhcgagkdaa
