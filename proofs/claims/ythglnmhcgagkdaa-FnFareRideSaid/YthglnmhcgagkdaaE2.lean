/- Walks: any net, any node. -/
import Derived.Test.YthglnmhcgagkdaaE1
namespace Go.Proofs.Ythglnmhcgagkdaa
open Go.RowKit
def DrawnInt (g : Nat) (p : Int) (m : Nat) (w : World) (e : Ending) (w' : World) : Prop := ∃ x : Int, e = .returned (.int .i64 x) ∧ Took g p m w w'
set_option maxHeartbeats 1000000 in
set_option maxRecDepth 100000 in
theorem c_Node (g : Nat) (p : Int) (w : World) (nn : Int) (v : Value) (hv : ∃ A n c, v = .slice A n c) (h : RdAt w g p) (hp0 : 0 ≤ p) (hp1 : p ≤ 900000) (hn0 : 0 ≤ nn) (hn1 : nn ≤ 9) :
    Calls Try.prog 61 #[.pointer (some ⟨g, 0, none⟩), .agg #[.int .i64 nn, v]] w (DrawnInt g p 2 w) := by
  obtain ⟨A, n, c, rfl⟩ := hv
  have hlt := h.lt
  have h1 := h.below (below_new w (.cells #[.int .i64 nn, .slice A n c] 34))
  have B0 := Blk.new w #[.int .i64 nn, .slice A n c] 34
  have G0 := World.grownBy_alloc w (.cells #[.int .i64 nn, .slice A n c] 34) (some g)
  go_enter Try.func61, Try.ntmps61
  go_wp2_with fail
  refine (c_pick g p 16 _ h1 hp0 (by omega) (by omega) (by omega)).mono ?_
  rintro e w1 ⟨k, rfl, hk0, _, hr1, hg1⟩
  have G1 := gb_trans G0 hg1 (.inl rfl)
  have B1 := B0.grown hg1 (fun e => by injection e with e; omega)
  obtain ⟨b0, b1⟩ := B1.cells2
  have hs1 := B1.lt
  clear G0 hg1 B0 h1
  by_cases hz : k = 0
  · subst hz
    have R2 := hr1.below (below_new w1 (.cells #[.int .i64 (-1), .int .i64 nn] 3))
    have G2 := gb_alloc G1 (.cells #[.int .i64 (-1), .int .i64 nn] 3)
    go_wp2_with fail
    refine (c_one g (p + 1) (some ⟨w1.heap.size, 0, none⟩) 2 [-1, nn] _ R2 (by omega) (by omega) (IntsAt.lit w1 [-1, nn]) (by simp) (by simp) (fun a ha => by injection ha with ha; subst ha; show w1.heap.size ≠ g; omega)).mono ?_
    rintro e w2 ⟨x, rfl, _, hr2, hg2⟩
    have G3 := gb_trans G2 hg2 (.inl rfl)
    go_wp2
    go_ret
    exact ⟨x, rfl, p + 1 + 1, by omega, by omega, hr2, G3⟩
  · have hz' : (k == 0) = false := by simpa using hz
    go_wp2_with fail
    refine (c_pick g (p + 1) nn _ hr1 (by omega) (by omega) (by omega) (by omega)).mono ?_
    rintro e w2 ⟨x, rfl, _, _, hr2, hg2⟩
    have G3 := gb_trans G1 hg2 (.inl rfl)
    go_wp2
    go_ret
    exact ⟨x, rfl, p + 1 + 1, by omega, by omega, hr2, G3⟩
end Go.Proofs.Ythglnmhcgagkdaa
