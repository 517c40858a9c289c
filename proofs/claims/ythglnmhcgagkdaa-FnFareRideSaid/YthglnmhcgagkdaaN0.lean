/- Walks: which net is ok, on both sides; nodes of a net. -/
import Derived.Test.YthglnmhcgagkdaaA2
import Derived.Test.YthglnmhcgagkdaaB0
namespace Go.Proofs.Ythglnmhcgagkdaa
open Go.RowKit
structure Net where (nodes : Int) (arcs : List Arc)
def Arc.val (a : Arc) : Value := .agg #[.int .i64 a.fr, .int .i64 a.to, .int .i64 a.co, .int .i64 a.tl, .int .i64 a.ld]
def arcOkB (nn : Int) (a : Arc) : Bool := inR a.fr 0 (nn - 1) && inR a.to 0 (nn - 1) && !(a.fr == a.to) && inR a.co 0 99 && inR a.tl 0 99 && inR a.ld 0 9
def netOkB (N : Net) : Bool := inR N.nodes 1 8 && decide (N.arcs.length ≤ 16) && N.arcs.all (arcOkB N.nodes)
structure CloA (f : FuncId) (caps : Array Value) (p : Arc → Bool) (w0 : World) : Prop where
  run : ∀ (xa : Array Value) (w : World), Sem.run Try.prog (callFunc f xa) w = .ok (.enter f xa) w
  calls : ∀ x w, Below w0.heap.size w0 w → Calls Try.prog f (#[x.val] ++ caps) w fun e w' => e = .returned (.bool (p x)) ∧ Below w.heap.size w w'
theorem ArcsAt.at {w : World} {A : Option Addr} {L : List Arc} (h : ArcsAt w A L) (hp : 0 < L.length) : ∃ g o, A = some ⟨g, o, none⟩ ∧ g < w.heap.size ∧ ∀ i, i < L.length →
    w.cell? ⟨g, o + i * 5, none⟩ = some (.int .i64 (L.getD i arcD).fr) ∧ w.cell? ⟨g, o + i * 5 + 1, none⟩ = some (.int .i64 (L.getD i arcD).to) ∧
    w.cell? ⟨g, o + i * 5 + 2, none⟩ = some (.int .i64 (L.getD i arcD).co) ∧ w.cell? ⟨g, o + i * 5 + 3, none⟩ = some (.int .i64 (L.getD i arcD).tl) ∧
    w.cell? ⟨g, o + i * 5 + 4, none⟩ = some (.int .i64 (L.getD i arcD).ld) := h hp

set_option maxHeartbeats 400000 in
set_option maxRecDepth 100000 in
theorem c_IndexFuncA (A : Option Addr) (c : Nat) (L : List Arc) (f : FuncId) (caps : Array Value) (p : Arc → Bool) (w : World) (hA : ArcsAt w A L) (hl : L.length ≤ 140737488351232) (hf : CloA f caps p w) :
    Calls Try.prog 131 #[.slice A L.length c, .func (.func f) #[] caps] w (Found p L arcD w) := by
  obtain ⟨hrun, hcall⟩ := hf
  have HF := Lib.hid hcall
  clear hcall
  go_enter Try.func131, Try.ntmps131
  go_wp2
  go_loopw [8] (fun v8 wr => ∃ k : Nat, k ≤ L.length ∧ v8 = .int .i64 k ∧ Below w.heap.size w wr ∧ Hid (∀ j, j < k → p (L.getD j arcD) = false)) (fun v8 _ => L.length - (intOf v8).toNat)
  case atStart => exact ⟨0, Nat.zero_le _, rfl, Below.refl _ _, fun j hj => absurd hj (by omega)⟩
  case round =>
    obtain ⟨k, hk, rfl, hb, hn⟩ := hrel
    by_cases hlt : k < L.length
    · obtain ⟨g, o, rfl, hg, hc⟩ := (hA.below hb).at (by omega)
      obtain ⟨h0, h1, h2, h3, h4⟩ := hc k hlt
      clear hc hA
      obtain ⟨x, hxx⟩ : ∃ x, x = L.getD k arcD := ⟨_, rfl⟩
      rw [← hxx] at h0 h1 h2 h3 h4
      have HX := Lib.hid hxx
      clear hxx
      go_wp2_with fail
      refine (HF.out x wr hb).mono ?_
      rintro e w' ⟨rfl, hb'⟩
      have HB := below_of hb hb'
      clear hb h0 h1 h2 h3 h4 hg
      obtain ⟨b, hpb⟩ : ∃ b, b = p x := ⟨_, rfl⟩
      rw [← hpb]
      have HP := Lib.hid hpb
      clear hpb hb'
      cases b
      · go_wp2
        go_roundw
        case rel =>
          refine ⟨k + 1, by omega, by go_num, HB, fun j hj => ?_⟩
          rcases Nat.lt_succ_iff_lt_or_eq.1 hj with h | rfl
          · exact hn.out j h
          · rw [← HX.out]; exact HP.out.symm
        case measure => simp [intOf]; omega
      · go_wp2
        go_ret
        exact ⟨k, rfl, .inr ⟨k, hlt, rfl, by rw [← HX.out]; exact HP.out.symm, hn.out⟩, HB⟩
    · go_wp2
      go_ret
      exact ⟨-1, rfl, .inl ⟨rfl, fun i hi => hn.out i (by omega)⟩, hb⟩
theorem c_ContainsFuncA (A : Option Addr) (c : Nat) (L : List Arc) (f : FuncId) (caps : Array Value) (p : Arc → Bool) (w : World) (hA : ArcsAt w A L) (hl : L.length ≤ 140737488351232) (hf : CloA f caps p w) :
    Calls Try.prog 119 #[.slice A L.length c, .func (.func f) #[] caps] w fun e w' => e = .returned (.bool (L.any p)) ∧ Below w.heap.size w w' := by
  have HF := Lib.hid hf
  clear hf
  go_enter Try.func119, Try.ntmps119
  go_wp2_with fail
  refine (c_IndexFuncA A c L f caps p w hA hl HF.out).mono ?_
  rintro e w' ⟨r, rfl, hr, hb⟩
  have HR := Lib.hid (any_of_first hr)
  clear hr
  go_wp2
  go_ret
  exact ⟨by rw [← HR.out]; rfl, hb⟩
/-! ### nodes of a net -/
def topOf (nn : Int) : Int := wrap64 (nn - 1)
def hasB (nn : Int) (xs : List Int) : Bool := xs.all fun v => inR v 0 (topOf nn)
theorem c_has1 (gb : Nat) (nn x : Int) (v : Value) (w : World) (hB : Blk w gb #[.int .i64 nn, v] 34) :
    Calls Try.prog 129 #[.int .i64 x, .pointer (some ⟨gb, 0, none⟩)] w fun e w' => e = .returned (.bool (!inR x 0 (topOf nn))) ∧ w = w' := by
  obtain ⟨c0, c1⟩ := hB.cells2
  go_enter Try.func129, Try.ntmps129
  go_wp2_with fail
  refine (c_within _ _ _ _).mono ?_
  rintro e w' ⟨rfl, rfl⟩
  go_wp2
  go_ret
  exact ⟨rfl, rfl⟩
theorem clo_has1 (gb : Nat) (nn : Int) (v : Value) (w : World) (hB : Blk w gb #[.int .i64 nn, v] 34) : CloI 129 #[.pointer (some ⟨gb, 0, none⟩)] (fun x => !inR x 0 (topOf nn)) w := by
  refine ⟨fun xa w => by go_simp, fun x w1 hb => ?_⟩
  refine (c_has1 gb nn x v w1 (hB.below hb)).mono ?_
  rintro e w' ⟨rfl, rfl⟩
  exact ⟨rfl, Below.refl _ _⟩
theorem c_has (nn : Int) (v : Value) (hv : ∃ A n c, v = .slice A n c) (A : Option Addr) (c : Nat) (xs : List Int) (w : World) (hA : IntsAt w A xs) (hl : xs.length ≤ 140737488351232) :
    Calls Try.prog 114 #[.agg #[.int .i64 nn, v], .slice A xs.length c] w fun e w' => e = .returned (.bool (hasB nn xs)) ∧ Below w.heap.size w w' := by
  obtain ⟨A', n', c', rfl⟩ := hv
  go_enter Try.func114, Try.ntmps114
  go_wp2_with fail
  refine (c_ContainsFuncI A c xs 129 #[.pointer (some ⟨w.heap.size, 0, none⟩)] _ _ (hA.below (below_new _ _)) hl (clo_has1 w.heap.size nn _ _ (Blk.new _ _ _))).mono ?_
  rintro e w' ⟨rfl, hb⟩
  have HB := below_of (below_new w _) hb
  clear hb
  obtain ⟨b, hpb⟩ : ∃ b, b = xs.any fun x => !inR x 0 (topOf nn) := ⟨_, rfl⟩
  rw [← hpb]
  have HP : Hid ((!b) = hasB nn xs) := by show _ = _; rw [hpb]; unfold hasB; rw [List.all_eq_not_any_not]
  clear hpb
  go_wp2
  go_ret
  exact ⟨by rw [← HP.out]; rfl, HB⟩
theorem top_in {nn : Int} (h0 : 1 ≤ nn) (h1 : nn ≤ 8) : topOf nn = nn - 1 := by unfold topOf; exact IntWalk.wrap64_in _ ⟨by omega, by omega⟩
theorem c_has_b (b : Bool) (nn : Int) (v : Value) (hv : ∃ A n c, v = .slice A n c) (A : Option Addr) (c : Nat) (xs : List Int) (w : World) (hA : IntsAt w A xs) (hl : xs.length ≤ 140737488351232) (hb : Hid (b = hasB nn xs)) :
    Calls Try.prog 114 #[.agg #[.int .i64 nn, v], .slice A xs.length c] w fun e w' => e = .returned (.bool b) ∧ Below w.heap.size w w' := by rw [hb.out]; exact c_has nn v hv A c xs w hA hl
theorem c_costOk_b (b : Bool) (n : Int) (w : World) (hb : Hid (b = inR n 0 99)) :
    Calls Try.prog 78 #[.int .i64 n] w fun e w' => e = .returned (.bool b) ∧ w = w' := by rw [hb.out]; exact c_costOk n w
theorem c_within_b (b : Bool) (n lo hi : Int) (w : World) (hb : Hid (b = inR n lo hi)) :
    Calls Try.prog 64 #[.int .i64 n, .int .i64 lo, .int .i64 hi] w fun e w' => e = .returned (.bool b) ∧ w = w' := by rw [hb.out]; exact c_within n lo hi w
def badB (nn : Int) (a : Arc) : Bool := !hasB nn [a.fr, a.to] || (a.fr == a.to) || !inR a.co 0 99 || !inR a.tl 0 99 || !inR a.ld 0 9
end Go.Proofs.Ythglnmhcgagkdaa
