/- The words of this seat's walks: what a slice of ints, of arcs, of rows reads as; what a call owns. Nothing of the program stands in it. -/
import Derived.WalkKit
import Derived.WalkSpells
import Derived.WalkLawsBesides
import Derived.Lib.Hide
import Derived.Deep.QuietTactic
import Derived.BigQuiet
import Derived.IntWalk
namespace Go.Proofs.Ythglnmhcgagkdaa
open Go.RowKit

structure Arc where (fr to co tl ld : Int)
  deriving DecidableEq
def arcD : Arc := ⟨0, 0, 0, 0, 0⟩
def nums (xs : List Int) : List Value := xs.map fun x => .int .i64 x
def Arc.cells (a : Arc) : List Value := [.int .i64 a.fr, .int .i64 a.to, .int .i64 a.co, .int .i64 a.tl, .int .i64 a.ld]
def arcCells (L : List Arc) : List Value := L.flatMap Arc.cells

theorem nums_length (xs : List Int) : (nums xs).length = xs.length := by simp [nums]
theorem nums_append (xs ys : List Int) : nums (xs ++ ys) = nums xs ++ nums ys := by simp [nums]
theorem nums_set (xs : List Int) (i : Nat) (x : Int) : (nums xs).set i (.int .i64 x) = nums (xs.set i x) := by simp [nums, List.map_set]
theorem nums_at (xs : List Int) (i : Nat) (h : i < xs.length) : (nums xs)[i]? = some (.int .i64 (xs.getD i 0)) := by
  simp [nums, h, List.getD_eq_getElem?_getD]
theorem nums_replicate (n : Nat) (x : Int) : nums (List.replicate n x) = List.replicate n (.int .i64 x) := by simp [nums]
theorem nums_one (xs : List Int) : ∀ u ∈ nums xs, u.oneCell' = true := by
  intro u hu
  obtain ⟨x, _, rfl⟩ := List.mem_map.1 hu
  rfl
theorem arcCells_length (L : List Arc) : (arcCells L).length = L.length * 5 := by
  induction L with
  | nil => rfl
  | cons a L ih =>
    simp only [arcCells, List.flatMap_cons, List.length_append, List.length_cons] at ih ⊢
    simp only [Arc.cells, List.length_cons, List.length_nil]
    omega
theorem arcCells_append (L M : List Arc) : arcCells (L ++ M) = arcCells L ++ arcCells M := by simp [arcCells]
theorem arcCells_at (L : List Arc) (i j : Nat) (h : i < L.length) (hj : j < 5) : (arcCells L)[i * 5 + j]? = (L.getD i arcD).cells[j]? := by
  induction L generalizing i with
  | nil => simp at h
  | cons a L ih =>
    cases i with
    | zero =>
      simp only [arcCells, List.flatMap_cons, Nat.zero_mul, Nat.zero_add, List.getD_cons_zero]
      rw [List.getElem?_append_left (by simp [Arc.cells]; omega)]
    | succ i =>
      simp only [arcCells, List.flatMap_cons, List.getD_cons_succ]
      rw [List.getElem?_append_right (by simp [Arc.cells]; omega)]
      have : (i + 1) * 5 + j - a.cells.length = i * 5 + j := by simp [Arc.cells]; omega
      rw [this]
      exact ih i (by simpa using h)

/-! ### What is read -/
def IntsAt (w : World) (A : Option Addr) (xs : List Int) : Prop :=
  0 < xs.length → ∃ g o, A = some ⟨g, o, none⟩ ∧ g < w.heap.size ∧ ∀ i, i < xs.length → w.cell? ⟨g, o + i, none⟩ = some (.int .i64 (xs.getD i 0))
def ArcsAt (w : World) (A : Option Addr) (L : List Arc) : Prop :=
  0 < L.length → ∃ g o, A = some ⟨g, o, none⟩ ∧ g < w.heap.size ∧ ∀ i, i < L.length →
    w.cell? ⟨g, o + i * 5, none⟩ = some (.int .i64 (L.getD i arcD).fr) ∧ w.cell? ⟨g, o + i * 5 + 1, none⟩ = some (.int .i64 (L.getD i arcD).to) ∧
    w.cell? ⟨g, o + i * 5 + 2, none⟩ = some (.int .i64 (L.getD i arcD).co) ∧ w.cell? ⟨g, o + i * 5 + 3, none⟩ = some (.int .i64 (L.getD i arcD).tl) ∧
    w.cell? ⟨g, o + i * 5 + 4, none⟩ = some (.int .i64 (L.getD i arcD).ld)
theorem cell_keep {w w' : World} {g : Nat} (h : w'.heap[g]? = w.heap[g]?) (j : Nat) : w'.cell? ⟨g, j, none⟩ = w.cell? ⟨g, j, none⟩ := World.cell?_of_block (w := w) h
theorem IntsAt.keep {w w' : World} {A : Option Addr} {xs : List Int} (h : IntsAt w A xs) (hk : ∀ a, A = some a → a.block < w.heap.size → w'.heap[a.block]? = w.heap[a.block]?) (hs : w.heap.size ≤ w'.heap.size) : IntsAt w' A xs := fun hp => by
  obtain ⟨g, o, e, hg, hc⟩ := h hp
  exact ⟨g, o, e, Nat.lt_of_lt_of_le hg hs, fun i hi => by rw [cell_keep (hk _ e hg)]; exact hc i hi⟩
theorem ArcsAt.keep {w w' : World} {A : Option Addr} {L : List Arc} (h : ArcsAt w A L) (hk : ∀ a, A = some a → a.block < w.heap.size → w'.heap[a.block]? = w.heap[a.block]?) (hs : w.heap.size ≤ w'.heap.size) : ArcsAt w' A L := fun hp => by
  obtain ⟨g, o, e, hg, hc⟩ := h hp
  have hkk := fun j => cell_keep (hk _ e hg) j
  exact ⟨g, o, e, Nat.lt_of_lt_of_le hg hs, fun i hi => by
    obtain ⟨h0, h1, h2, h3, h4⟩ := hc i hi
    exact ⟨(hkk _).trans h0, (hkk _).trans h1, (hkk _).trans h2, (hkk _).trans h3, (hkk _).trans h4⟩⟩
theorem IntsAt.below {w w' : World} {A : Option Addr} {xs : List Int} (h : IntsAt w A xs) (hb : Below w.heap.size w w') : IntsAt w' A xs := h.keep (fun _ _ hl => hb.block _ hl) hb.size
theorem ArcsAt.below {w w' : World} {A : Option Addr} {L : List Arc} (h : ArcsAt w A L) (hb : Below w.heap.size w w') : ArcsAt w' A L := h.keep (fun _ _ hl => hb.block _ hl) hb.size
theorem IntsAt.nil (w : World) (A : Option Addr) : IntsAt w A [] := fun h => absurd h (by simp)
theorem ArcsAt.nil (w : World) (A : Option Addr) : ArcsAt w A [] := fun h => absurd h (by simp)

/-! ### What a call owns -/
def OI (w : World) (base : Nat) (v : Value) (xs : List Int) : Prop := w.ownsRow base 3 1 v xs.length (nums xs)
def OA (w : World) (base : Nat) (v : Value) (L : List Arc) : Prop := w.ownsRow base 40 5 v L.length (arcCells L)

theorem own_at {w : World} {base : Nat} {e : TypeId} {size n : Nat} {v : Value} {xs : List Value} (h : w.ownsRow base e size v n xs) (hn : 0 < n) :
    ∃ g cap, v = .slice (some ⟨g, 0, none⟩) n cap ∧ n ≤ cap ∧ base ≤ g ∧ g < w.heap.size ∧ (∀ j u, xs[j]? = some u → w.cell? ⟨g, j, none⟩ = some u) ∧ ∀ j, w.frozen? ⟨g, j, none⟩ = false := by
  rcases h.2 with ⟨_, rfl⟩ | ⟨g, cap, cur, rfl, hb, hg, hc, hm, hs, ht⟩
  · omega
  · refine ⟨g, cap, rfl, hc, hb, (Array.getElem?_eq_some_iff.1 hg).1, fun j u hu => ?_, fun j => frozen_of_row w g j cur e hg⟩
    have h2 := h.cellAt j (by rw [← h.1]; exact (List.getElem?_eq_some_iff.1 hu).1)
    rw [h2]; exact hu
theorem own_shape {w : World} {base : Nat} {e : TypeId} {size n : Nat} {v : Value} {xs : List Value} (h : w.ownsRow base e size v n xs) : ∃ A c, v = .slice A n c ∧ n ≤ c := by
  rcases h.2 with ⟨rfl, rfl⟩ | ⟨g, cap, cur, rfl, hb, hg, hc, _⟩
  · exact ⟨none, 0, rfl, Nat.le_refl _⟩
  · exact ⟨_, cap, rfl, hc⟩
theorem own_move {w w1 : World} {base : Nat} {e : TypeId} {size n : Nat} {v : Value} {xs : List Value} (h : w.ownsRow base e size v n xs) (hm : ∀ k, v.ownBlock = some k → base ≤ k → k < w.heap.size → w1.heap[k]? = w.heap[k]?) : w1.ownsRow base e size v n xs := by
  obtain ⟨h1, h2⟩ := h
  refine ⟨h1, ?_⟩
  rcases h2 with h2 | ⟨g, cap, cur, rfl, hg, hh, r⟩
  · exact .inl h2
  · exact .inr ⟨g, cap, cur, rfl, hg, (hm g (by simp [Value.ownBlock]) hg (Array.getElem?_eq_some_iff.1 hh).1).trans hh, r⟩
theorem own_lower {w : World} {base base' : Nat} {e : TypeId} {size n : Nat} {v : Value} {xs : List Value} (h : w.ownsRow base e size v n xs) (hb : base' ≤ base) : w.ownsRow base' e size v n xs := by
  obtain ⟨h1, h2⟩ := h
  refine ⟨h1, ?_⟩
  rcases h2 with h2 | ⟨g, cap, cur, rfl, hg, r⟩
  · exact .inl h2
  · exact .inr ⟨g, cap, cur, rfl, Nat.le_trans hb hg, r⟩
theorem own_below {w w1 : World} {base : Nat} {e : TypeId} {size n : Nat} {v : Value} {xs : List Value} (h : w.ownsRow base e size v n xs) (hb : Below w.heap.size w w1) : w1.ownsRow base e size v n xs := own_move h (fun k _ _ hk => hb.block k hk)
theorem own_ge {w : World} {base : Nat} {e : TypeId} {size n : Nat} {v : Value} {xs : List Value} (h : w.ownsRow base e size v n xs) (k : Nat) (hk : v.ownBlock = some k) : base ≤ k ∧ k < w.heap.size := h.lt k hk

theorem OI.nil (w : World) (base : Nat) : OI w base (.slice none 0 0) [] := World.ownsRow_nil w base 3 1
theorem OA.nil (w : World) (base : Nat) : OA w base (.slice none 0 0) [] := World.ownsRow_nil w base 40 5
theorem OI.shape {w : World} {base : Nat} {v : Value} {xs : List Int} (h : OI w base v xs) : ∃ A c, v = .slice A xs.length c ∧ xs.length ≤ c ∧ IntsAt w A xs := by
  obtain ⟨A, c, rfl, hc⟩ := own_shape h
  refine ⟨A, c, rfl, hc, fun hp => ?_⟩
  obtain ⟨g, cap, e, _, _, hg, hcell, _⟩ := own_at h hp
  injection e with e1 _ e2
  exact ⟨g, 0, e1, hg, fun i hi => by rw [Nat.zero_add]; exact hcell i _ (nums_at xs i hi)⟩
theorem OA.shape {w : World} {base : Nat} {v : Value} {L : List Arc} (h : OA w base v L) : ∃ A c, v = .slice A L.length c ∧ L.length ≤ c ∧ ArcsAt w A L := by
  obtain ⟨A, c, rfl, hc⟩ := own_shape h
  refine ⟨A, c, rfl, hc, fun hp => ?_⟩
  obtain ⟨g, cap, e, _, _, hg, hcell, _⟩ := own_at h hp
  injection e with e1 _ e2
  refine ⟨g, 0, e1, hg, fun i hi => ?_⟩
  have k := fun j hj => hcell (i * 5 + j) _ ((arcCells_at L i j hi hj).trans (List.getElem?_eq_getElem (by simpa [Arc.cells] using hj)))
  simp only [Nat.zero_add]
  exact ⟨k 0 (by omega), k 1 (by omega), k 2 (by omega), k 3 (by omega), k 4 (by omega)⟩
theorem OI.at {w : World} {base : Nat} {v : Value} {xs : List Int} (h : OI w base v xs) (hn : 0 < xs.length) :
    ∃ g cap, v = .slice (some ⟨g, 0, none⟩) xs.length cap ∧ base ≤ g ∧ g < w.heap.size ∧ (∀ i, i < xs.length → w.cell? ⟨g, i, none⟩ = some (.int .i64 (xs.getD i 0))) ∧ ∀ j, w.frozen? ⟨g, j, none⟩ = false := by
  obtain ⟨g, cap, rfl, _, hb, hg, hc, hf⟩ := own_at h hn
  exact ⟨g, cap, rfl, hb, hg, fun i hi => hc i _ (nums_at xs i hi), hf⟩
theorem OI.set {w : World} {base g cap : Nat} {xs : List Int} (h : OI w base (.slice (some ⟨g, 0, none⟩) xs.length cap) xs) (i : Nat) (x : Int) :
    OI (w.setCell ⟨g, i, none⟩ (.int .i64 x)) base (.slice (some ⟨g, 0, none⟩) xs.length cap) (xs.set i x) := by
  have := (h.stored i (.int .i64 x)).1
  rw [nums_set] at this
  unfold OI
  rw [List.length_set]
  exact this
theorem madeCells_int (n : Nat) : (madeCells (Value.int .i64 0).cells (n * 1)).toList = nums (List.replicate n 0) := by
  rw [nums_replicate, Nat.mul_one]
  simp only [madeCells, Value.cells]
  apply List.ext_getElem
  · simp
  · intro i h1 h2
    simp [Nat.mod_one]
/-- A callee that leaves the world alone, met in a region that draws. -/
theorem q_same {P : Program} {f : FuncId} {args : Array Value} {w : World} {n : Nat} {v : Value}
    (h : Calls P f args (w.drewN n) fun e w' => e = .returned v ∧ w.drewN n = w') : Calls P f args (w.drewN n) fun e w'' => e = .returned v ∧ ∃ m, w'' = w.drewN m :=
  h.mono fun _ _ ⟨he, hm⟩ => ⟨he, n, hm.symm⟩
theorem below_drewN {B : Nat} {w w1 : World} (h : Below B w w1) (n : Nat) : Below B w (w1.drewN n) := ⟨h.os, h.tape, h.output, h.size, h.block⟩
theorem wrap_in {n : Int} (h : -9223372036854775808 ≤ n ∧ n ≤ 9223372036854775807) : IntKind.i64.wrap n = n := IntWalk.i64_in _ h

/-! ### A block that is known whole -/
def Blk (w : World) (g : Nat) (cs : Array Value) (t : TypeId) : Prop := w.heap[g]? = some (.cells cs t (0, 0))
theorem Blk.lt {w : World} {g : Nat} {cs : Array Value} {t : TypeId} (h : Blk w g cs t) : g < w.heap.size := (Array.getElem?_eq_some_iff.1 h).1
theorem Blk.new (w : World) (cs : Array Value) (t : TypeId) : Blk (w.alloc (.cells cs t)) w.heap.size cs t := heap_alloc_new w _
theorem Blk.below {w w1 : World} {g : Nat} {cs : Array Value} {t : TypeId} (h : Blk w g cs t) (hb : Below w.heap.size w w1) : Blk w1 g cs t := (hb.block g h.lt).trans h
theorem Blk.grown {w w1 : World} {g : Nat} {cs : Array Value} {t : TypeId} {row : Option Nat} (h : Blk w g cs t) (hg : w.grownBy w1 row) (hr : some g ≠ row) : Blk w1 g cs t := (hg.block g h.lt hr).trans h
theorem Blk.alloc {w : World} {g : Nat} {cs : Array Value} {t : TypeId} (h : Blk w g cs t) (o : Obj) : Blk (w.alloc o) g cs t := (Below.heap_alloc w o g h.lt).trans h
theorem Blk.drewN {w : World} {g : Nat} {cs : Array Value} {t : TypeId} (h : Blk w g cs t) (n : Nat) : Blk (w.drewN n) g cs t := h
theorem Blk.far {w : World} {g : Nat} {cs : Array Value} {t : TypeId} (h : Blk w g cs t) {p : Addr} (hp : g ≠ p.block) (u : Value) : Blk (w.setCell p u) g cs t := (Below.heap_setCell w p u g hp).trans h
theorem Blk.set {w : World} {g : Nat} {cs : Array Value} {t : TypeId} (h : Blk w g cs t) (i : Nat) (u : Value) : Blk (w.setCell ⟨g, i, none⟩ u) g (cs.setIfInBounds i u) t := by
  unfold Blk at h ⊢
  simp [World.setCell, Array.getElem?_modify, h]
theorem Blk.cell {w : World} {g : Nat} {cs : Array Value} {t : TypeId} (h : Blk w g cs t) (i : Nat) : w.cell? ⟨g, i, none⟩ = cs[i]? := cell_of_row w g i cs t (0, 0) h
theorem Blk.frozen {w : World} {g : Nat} {cs : Array Value} {t : TypeId} (h : Blk w g cs t) (i : Nat) : w.frozen? ⟨g, i, none⟩ = false := frozen_of_row w g i cs t h
theorem Blk.cells1 {w : World} {g : Nat} {a : Value} {t : TypeId} (h : Blk w g #[a] t) : w.cell? ⟨g, 0, none⟩ = some a := h.cell 0
theorem Blk.cells2 {w : World} {g : Nat} {a b : Value} {t : TypeId} (h : Blk w g #[a, b] t) : w.cell? ⟨g, 0, none⟩ = some a ∧ w.cell? ⟨g, 1, none⟩ = some b := ⟨h.cell 0, h.cell 1⟩
theorem Blk.cells3 {w : World} {g : Nat} {a b c : Value} {t : TypeId} (h : Blk w g #[a, b, c] t) : w.cell? ⟨g, 0, none⟩ = some a ∧ w.cell? ⟨g, 1, none⟩ = some b ∧ w.cell? ⟨g, 2, none⟩ = some c := ⟨h.cell 0, h.cell 1, h.cell 2⟩
theorem Blk.cells5 {w : World} {g : Nat} {a b c d e : Value} {t : TypeId} (h : Blk w g #[a, b, c, d, e] t) : w.cell? ⟨g, 0, none⟩ = some a ∧ w.cell? ⟨g, 1, none⟩ = some b ∧ w.cell? ⟨g, 2, none⟩ = some c ∧ w.cell? ⟨g, 3, none⟩ = some d ∧ w.cell? ⟨g, 4, none⟩ = some e := ⟨h.cell 0, h.cell 1, h.cell 2, h.cell 3, h.cell 4⟩
theorem below_of {w0 w w' : World} (h : Below w0.heap.size w0 w) (h' : Below w.heap.size w w') : Below w0.heap.size w0 w' := h.trans (h'.mono h.size)
theorem below_new (w : World) (o : Obj) : Below w.heap.size w (w.alloc o) := (Below.refl _ _).alloc (Nat.le_refl _) o
theorem below_alloc {w0 w : World} (h : Below w0.heap.size w0 w) (o : Obj) : Below w0.heap.size w0 (w.alloc o) := h.alloc h.size o

/-! ### min, max of two -/
theorem b_max2 (k k' : IntKind) (x y : Int) : Builtin.max2 (.int k x) (.int k' y) = pure (.int k (if x < y then y else x)) := by simp only [Builtin.max2, gt_iff_lt]
theorem b_min2 (k k' : IntKind) (x y : Int) : Builtin.min2 (.int k x) (.int k' y) = pure (.int k (if y < x then y else x)) := by simp only [Builtin.min2]
theorem b_max_two (ats : Array TypeId) (ty : TypeId) (a b : Value) : Builtin.max_ ats ty #[a, b] = (Builtin.max2 a b >>= fun s => pure s) := by simp only [Builtin.max_, List.foldlM_cons, List.foldlM_nil]
theorem b_min_two (ats : Array TypeId) (ty : TypeId) (a b : Value) : Builtin.min_ ats ty #[a, b] = (Builtin.min2 a b >>= fun s => pure s) := by simp only [Builtin.min_, List.foldlM_cons, List.foldlM_nil]
theorem if_min (x y : Int) : (if y < x then y else x) = min x y := by split <;> omega
theorem if_max (x y : Int) : (if x < y then y else x) = max x y := by split <;> omega
theorem ret_int {k : IntKind} {a b : Int} (h : a = b) : Ending.returned (.int k a) = .returned (.int k b) := by rw [h]
theorem ret_bool {a b : Bool} (h : a = b) : Ending.returned (.bool a) = .returned (.bool b) := by rw [h]
end Go.Proofs.Ythglnmhcgagkdaa
