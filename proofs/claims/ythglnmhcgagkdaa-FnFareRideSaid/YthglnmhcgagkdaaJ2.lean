/- Walk: impl's augment. -/
import Derived.Test.YthglnmhcgagkdaaJ1
import Derived.Test.YthglnmhcgagkdaaJ3
import Derived.Deep.CutRange
import Derived.Deep.DeepCutAuto
import Derived.Deep.LoopGhost
import Derived.Carry
namespace Go.Proofs.Ythglnmhcgagkdaa
open Go.RowKit
def AugPost (nn : Nat) (L : List Arc) (F : List Int) (fr tt : Nat) (w : World) (e : Ending) (w' : World) : Prop :=
  ∃ v, e = .returned (.tuple #[v, .bool (pushF nn L F fr tt).2]) ∧ Below w.heap.size w w' ∧ ((pushF nn L F fr tt).2 = true → OS w' w.heap.size v (wayN L (reach nn L F fr) fr nn tt))
theorem mapSt_new (w : World) (S : Reach) (h : S.length = 1) : MapSt (w.alloc (.map #[] 0)) w.heap.size S :=
  ⟨0, .map [], World.ownsMap_made _ _ _ _, by omega, Maps.isMap_empty, fun p h0 h1 => absurd h1 (by omega)⟩
theorem ast_new (w : World) (nn : Nat) (L : List Arc) (A : Option Addr) (cA : Nat) (fr : Int) : ASt w nn L A cA (w.heap.size + 1 + 1) (w.heap.size + 1 + 1 + 1 + 1) (w.heap.size + 1) [(fr, 0)]
    (((((w.alloc (.cells #[.int .i64 nn, .slice A L.length cA] 34)).alloc (.map #[] 0)).alloc (.cells #[.map (some (w.heap.size + 1))] 113)).alloc (.cells #[.int .i64 fr] 3)).alloc (.cells #[.slice (some ⟨w.heap.size + 1 + 1 + 1, 0, none⟩) 1 1] 23)) := by
  have s1 : (w.alloc (.cells #[.int .i64 nn, .slice A L.length cA] 34)).heap.size = w.heap.size + 1 := by simp
  have s2 : ((w.alloc (.cells #[.int .i64 nn, .slice A L.length cA] 34)).alloc (.map #[] 0)).heap.size = w.heap.size + 1 + 1 := by simp
  have s3 : (((w.alloc (.cells #[.int .i64 nn, .slice A L.length cA] 34)).alloc (.map #[] 0)).alloc (.cells #[.map (some (w.heap.size + 1))] 113)).heap.size = w.heap.size + 1 + 1 + 1 := by simp
  have s4 : ((((w.alloc (.cells #[.int .i64 nn, .slice A L.length cA] 34)).alloc (.map #[] 0)).alloc (.cells #[.map (some (w.heap.size + 1))] 113)).alloc (.cells #[.int .i64 fr] 3)).heap.size = w.heap.size + 1 + 1 + 1 + 1 := by simp
  have N := Blk.new w #[.int .i64 nn, .slice A L.length cA] 34
  have P := mapSt_new (w.alloc (.cells #[.int .i64 nn, .slice A L.length cA] 34)) [(fr, 0)] rfl
  rw [s1] at P
  have M := Blk.new ((w.alloc (.cells #[.int .i64 nn, .slice A L.length cA] 34)).alloc (.map #[] 0)) #[.map (some (w.heap.size + 1))] 113
  rw [s2] at M
  have O := OI.lit (((w.alloc (.cells #[.int .i64 nn, .slice A L.length cA] 34)).alloc (.map #[] 0)).alloc (.cells #[.map (some (w.heap.size + 1))] 113)) (w.heap.size + 1) [fr] (by simp) (by simp)
  rw [s3] at O
  have F := Blk.new ((((w.alloc (.cells #[.int .i64 nn, .slice A L.length cA] 34)).alloc (.map #[] 0)).alloc (.cells #[.map (some (w.heap.size + 1))] 113)).alloc (.cells #[.int .i64 fr] 3)) #[.slice (some ⟨w.heap.size + 1 + 1 + 1, 0, none⟩) 1 1] 23
  rw [s4] at F
  have hk : ∀ (W : World) (o : Obj) S b, MapSt W b S → MapSt (W.alloc o) b S := fun W o S b h => h.kept (World.grownBy_alloc W o none) (by simp)
  refine ⟨(((N.alloc _).alloc _).alloc _).alloc _, (M.alloc _).alloc _, ⟨_, F, O.below (below_new _ _)⟩, hk _ _ _ _ (hk _ _ _ _ (hk _ _ _ _ P)), below_alloc (below_alloc (below_alloc (below_alloc (below_new w _) _) _) _) _, by omega, by omega, by omega⟩
theorem ASt.found {w : World} {nn : Nat} {L : List Arc} {A : Option Addr} {cA gm gf bm : Nat} {S : Reach} {W : World} (h : ASt w nn L A cA gm gf bm S W) (h0 : 0 < S.length) : ∃ gl kl, W.cell? ⟨gf, 0, none⟩ = some (.slice (some ⟨gl, 0, none⟩) S.length kl) ∧ ∀ p, p < S.length → W.cell? ⟨gl, p, none⟩ = some (.int .i64 (S.getD p (0, 0)).1) := by
  obtain ⟨v, h1, h2⟩ := h.F
  have hlen : (nodesOf S).length = S.length := by simp [nodesOf]
  obtain ⟨gl, kl, e, _, _, hc, _⟩ := h2.at (by omega)
  subst e
  refine ⟨gl, kl, by rw [← hlen]; exact h1.cells1, fun p hp => ?_⟩
  rw [← nodesOf_at S p hp]
  exact hc p (by omega)
set_option maxHeartbeats 1000000 in
set_option maxRecDepth 100000 in
theorem c_augment (nn : Nat) (A : Option Addr) (cA : Nat) (L : List Arc) (AF : Option Addr) (cF : Nat) (F : List Int) (fr tt : Nat) (w : World) (hA : ArcsAt w A L) (hF : IntsAt w AF F) (hFl : F.length = L.length) (hl : L.length ≤ 16)
    (hn0 : 1 ≤ nn) (hn1 : nn ≤ 8) (hE : EndsOk nn L) (hfr : fr < nn) :
    Calls Try.prog 80 #[.agg #[.int .i64 nn, .slice A L.length cA], .slice AF F.length cF, .int .i64 fr, .int .i64 tt] w (AugPost nn L F fr tt w) := by
  have hHF := Lib.hid hFl
  have hHA := Lib.hid hA
  have hHI := Lib.hid hF
  have hHE := Lib.hid hE
  clear hA hF hFl hE
  have hmm := @run_makeMap Try.prog
  have S0 := ast_new w nn L A cA fr
  go_enter Try.func80, Try.ntmps80
  go_wp2_with fail
  generalize (((((w.alloc (.cells #[.int .i64 nn, .slice A L.length cA] 34)).alloc (.map #[] 0)).alloc (.cells #[.map (some (w.heap.size + 1))] 113)).alloc (.cells #[.int .i64 fr] 3)).alloc (.cells #[.slice (some ⟨w.heap.size + 1 + 1 + 1, 0, none⟩) 1 1] 23)) = W0 at *
  generalize w.heap.size + 1 + 1 + 1 + 1 = gf at *
  generalize w.heap.size + 1 + 1 + 1 = bl at *
  generalize w.heap.size + 1 + 1 = gm at *
  generalize w.heap.size + 1 = bm at *
  clear hmm
  have hSs := SOk.start nn L F (fr : Int) ⟨by omega, by omega⟩
  go_loopw [12] (fun v12 wr => ∃ (h : Nat) (S : Reach), h ≤ S.length ∧ v12 = .int .i64 h ∧ ASt w nn L A cA gm gf bm S wr ∧ SOk nn L F fr S ∧ Hid (bfsN L F (nn - h) h S = reach nn L F fr)) (fun v12 _ => nn - (intOf v12).toNat)
  case atStart => exact ⟨0, [((fr : Int), 0)], by simp, rfl, S0, hSs, rfl⟩
  case round =>
    clear S0 hSs
    obtain ⟨h, S, hh, rfl, hP, hS, hR⟩ := hrel
    have hSl := hS.len
    have HP := Lib.hid hP
    have HS := Lib.hid hS
    obtain ⟨vF, F1, O1⟩ := hP.F
    obtain ⟨AL, cL, rfl, hcL, hLi⟩ := O1.shape
    have hlen : (nodesOf S).length = S.length := by simp [nodesOf]
    rw [hlen] at F1 O1 hcL
    have f0 := F1.cells1
    obtain ⟨n0, n1⟩ := hP.N.cells2
    clear hP hS
    by_cases hlt : h < S.length
    · have hhI : (h : Int) < (S.length : Int) := by omega
      obtain ⟨x, hx⟩ : ∃ x, x = (S.getD h (0, 0)).1 := ⟨_, rfl⟩
      have HX := Lib.hid hx
      clear hx hlen F1 O1 hLi
      go_wp2_with fail
      clear f0 n0 n1
      go_loopw [31] (fun v31 wr => ∃ (i : Nat) (T : Reach), i ≤ L.length ∧ v31 = .int .i64 i ∧ ASt w nn L A cA gm gf bm T wr ∧ SOk nn L F fr T ∧ Hid (T = scanK L F x i S)) (fun v31 _ => L.length - (intOf v31).toNat)
      case atStart => exact ⟨0, S, Nat.zero_le _, rfl, HP.out, HS.out, rfl⟩
      case round =>
        obtain ⟨i, T, hi, rfl, hPT, hST, hT⟩ := hrel
        have hpre : S <+: T := by have := scanK_pre L F x i S; rw [← hT.out] at this; exact this
        have hTh : h < T.length := Nat.lt_of_lt_of_le hlt hpre.length_le
        by_cases hil : i < L.length
        · have hiI : (i : Int) < (L.length : Int) := by omega
          have hi0 : (0 : Int) ≤ (i : Int) := by omega
          have hi16 : (i : Int) ≤ 16 := by omega
          have hnode : ((nodesOf T).getD h 0) = x := by rw [nodesOf_at T h hTh, pre_at hpre h hlt]; exact HX.out.symm
          have HXT : Hid (x = (T.getD h (0, 0)).1) := by show _ = _; rw [pre_at hpre h hlt]; exact HX.out
          have HST := Lib.hid hST
          have HPRE := Lib.hid hpre
          obtain ⟨g, o, e, hg0, _⟩ := hHA.out.at (by omega)
          obtain ⟨_, _, e', hg, hc⟩ := (hHA.out.below hPT.G).at (by omega)
          rw [e] at e'
          injection e' with e'
          injection e' with e1 e2
          subst e1 e2 e
          obtain ⟨h0, h1, h2, h3, h4⟩ := hc i hil
          clear hc
          have hE1 := hHE.out i hil
          obtain ⟨a, haa⟩ : ∃ a, a = L.getD i arcD := ⟨_, rfl⟩
          rw [← haa] at h0 h1 h2 h3 h4 hE1
          have HAA := Lib.hid haa
          clear haa
          obtain ⟨af, at_, ac, al, ald⟩ := a
          obtain ⟨u, rfl⟩ := Int.eq_ofNat_of_zero_le hE1.1.1
          obtain ⟨t, rfl⟩ := Int.eq_ofNat_of_zero_le hE1.2.1
          have hun : u < nn := by have := hE1.1.2; simp at this; omega
          have htn : t < nn := by have := hE1.2.2; simp at this; omega
          clear hE1 hpre hST
          dsimp only at h0 h1 h2 h3 h4
          obtain ⟨fg, fo, e, hfg0, _⟩ := hHI.out (by have := hHF.out; omega)
          obtain ⟨_, _, e', hfg, hfc⟩ := (hHI.out.below hPT.G) (by have := hHF.out; omega)
          rw [e] at e'
          injection e' with e'
          injection e' with e1 e2
          subst e1 e2 e
          have fk := hfc i (by have := hHF.out; omega)
          clear hfc
          obtain ⟨Fi, hFi⟩ : ∃ y, y = F.getD i 0 := ⟨_, rfl⟩
          rw [← hFi] at fk
          have HFi := Lib.hid hFi
          clear hFi
          go_wp2_with fail
          have P5 := hPT.alloc (.cells #[.int .i64 u, .int .i64 t, .int .i64 ac, .int .i64 al, .int .i64 ald] 40)
          have X5 := Blk.new wr #[.int .i64 u, .int .i64 t, .int .i64 ac, .int .i64 al, .int .i64 ald] 40
          have fk5 := (cell_keep (Below.heap_alloc wr (.cells #[.int .i64 u, .int .i64 t, .int .i64 ac, .int .i64 al, .int .i64 ald] 40) fg hfg) (fo + i)).trans fk
          generalize wr.alloc (.cells #[.int .i64 u, .int .i64 t, .int .i64 ac, .int .i64 al, .int .i64 ald] 40) = W5 at *
          generalize wr.heap.size = bx at *
          obtain ⟨gl, kl, l0, hlc⟩ := P5.found (by omega)
          have l1 := hlc h hTh
          rw [← HXT.out] at l1
          obtain ⟨e0, e1, e2, e3, e4⟩ := X5.cells5
          have HP5 := Lib.hid P5
          have HX5 := Lib.hid X5
          clear P5 X5 hPT h0 h1 h2 h3 h4 fk hlc hnode
          have hTI : (h : Int) < (T.length : Int) := by omega
          have hh0 : (0 : Int) ≤ (h : Int) := by omega
          have hiFI : (i : Int) < (F.length : Int) := by have := hHF.out; omega
          obtain ⟨b10, hb10⟩ : ∃ b, b = decide ((u : Int) = x ∧ Fi < ald) := ⟨_, rfl⟩
          have HB10 := Lib.hid hb10
          clear hb10
          go_cut [51] from 32 to 78 (fun v51 wc => ∃ n, wc = W5.drewN n ∧ v51 = .bool b10)
          case first =>
            by_cases m1 : (u : Int) = x
            · have m1' : ((u : Int) == x) = true := by simpa using m1
              have HM := Lib.hid m1
              clear m1
              by_cases m2 : Fi < ald
              · have HT : Hid (b10 = true) := by show _ = _; rw [HB10.out, decide_eq_true ⟨HM.out, m2⟩]
                go_quiet (fail)
                go_wp2_with fail
                go_meet
                exact ⟨nq, rfl, by rw [HT.out]⟩
              · have HT : Hid (b10 = false) := by show _ = _; rw [HB10.out, decide_eq_false (fun h => m2 h.2)]
                go_quiet (fail)
                go_wp2_with fail
                go_meet
                exact ⟨nq, rfl, by rw [HT.out]⟩
            · have m1' : ((u : Int) == x) = false := by simpa using m1
              have HT : Hid (b10 = false) := by show _ = _; rw [HB10.out, decide_eq_false (fun h => m1 h.1)]
              clear m1
              go_quiet (fail)
              go_wp2_with fail
              go_meet
              exact ⟨nq, rfl, by rw [HT.out]⟩
          case rest =>
            obtain ⟨nq, rfl, rfl⟩ := hcut
            go_upto_if 51 with fail
            have P6 := HP5.out.drewN nq
            have X6 := HX5.out.drewN nq
            generalize W5.drewN nq = W6 at *
            have HP6 := Lib.hid P6
            have HX6 := Lib.hid X6
            obtain ⟨x0, x1, x2, x3, x4⟩ := X6.cells5
            clear P6 X6 HP5 HX5 l0 l1 fk5 e0 e1 e2 e3 e4
            go_cut [57] from 32 to 78 (fun v57 wc => ∃ T1 : Reach, Hid (T1 = if (u : Int) = x ∧ Fi < ald then put T t (i + 1) else T) ∧ ASt w nn L (some ⟨g, o, none⟩) cA gm gf bm T1 wc ∧ Blk wc bx #[.int .i64 u, .int .i64 t, .int .i64 ac, .int .i64 al, .int .i64 ald] 40)
            case first =>
              cases b10 with
              | false =>
                go_wp2_with fail
                go_meet
                refine ⟨T, ?_, HP6.out, HX6.out⟩
                show _ = _
                rw [if_neg (of_decide_eq_false HB10.out.symm)]
              | true =>
                have HT1 : Hid (put T t ((i : Int) + 1) = if (u : Int) = x ∧ Fi < ald then put T t (i + 1) else T) := by show _ = _; rw [if_pos (of_decide_eq_true HB10.out.symm)]
                go_wp2_with fail
                refine (c_putC w nn L (some ⟨g, o, none⟩) cA gm gf bm T W6 HP6.out t i true (by omega) (by omega) (by omega) ((i : Int) + 1) (by show _ = _; simp) (by have := HST.out.len; omega)).mono ?_
                rintro e w7 ⟨rfl, hP7, hK7, hs7⟩
                have HP7 := Lib.hid hP7
                have HX7 := Lib.hid (hK7 _ _ _ (by decide) (by decide) HX6.out)
                clear hP7 hK7 x0 x1 x2 x3 x4
                go_wp2_with fail
                go_meet
                exact ⟨_, HT1, HP7.out, HX7.out⟩
            case rest =>
              obtain ⟨T1, HT1, P7, X7⟩ := hcut
              have HS1 : Hid (SOk nn L F fr T1) := by
                show SOk nn L F fr T1
                have := HST.out.if1 hHE.out h hTh i hil
                rw [← HAA.out, ← HXT.out, ← HFi.out] at this
                rw [HT1.out]; exact this
              have HP1 : Hid (T <+: T1) := by show T <+: T1; rw [HT1.out]; exact if1_pre ..
              have hTh1 : h < T1.length := Nat.lt_of_lt_of_le hTh HP1.out.length_le
              have HXT1 : Hid (x = (T1.getD h (0, 0)).1) := by show _ = _; rw [pre_at HP1.out h hTh]; exact HXT.out
              have HPW := Lib.hid P7
              have HXW := Lib.hid X7
              clear x0 x1 x2 x3 x4 HP6 HX6
              obtain ⟨gm1, km1, l0, hlc⟩ := P7.found (by omega)
              have l1 := hlc h hTh1
              rw [← HXT1.out] at l1
              obtain ⟨_, _, e', hfg7, hfc⟩ := (hHI.out.below P7.G) (by have := hHF.out; omega)
              injection e' with e'
              injection e' with e1 e2
              subst e1 e2
              have fk7 := hfc i (by have := hHF.out; omega)
              rw [← HFi.out] at fk7
              obtain ⟨e0, e1, e2, e3, e4⟩ := X7.cells5
              clear hlc hfc P7 X7
              have hTI1 : (h : Int) < (T1.length : Int) := by omega
              obtain ⟨W7, hW7⟩ : ∃ W, W = wc := ⟨_, rfl⟩
              subst hW7
              obtain ⟨b12, hb12⟩ : ∃ b, b = decide ((t : Int) = x ∧ 0 < Fi) := ⟨_, rfl⟩
              have HB12 := Lib.hid hb12
              clear hb12
              go_upto_region 12 with fail
              go_cut [71] from 32 to 78 (fun v71 wc => ∃ n, wc = W7.drewN n ∧ v71 = .bool b12)
              case first =>
                by_cases m1 : (t : Int) = x
                · have m1' : ((t : Int) == x) = true := by simpa using m1
                  have HM := Lib.hid m1
                  clear m1
                  by_cases m2 : 0 < Fi
                  · have HT : Hid (b12 = true) := by show _ = _; rw [HB12.out, decide_eq_true ⟨HM.out, m2⟩]
                    go_quiet (fail)
                    go_wp2_with fail
                    go_meet
                    exact ⟨nq, rfl, by rw [HT.out]⟩
                  · have HT : Hid (b12 = false) := by show _ = _; rw [HB12.out, decide_eq_false (fun h => m2 h.2)]
                    go_quiet (fail)
                    go_wp2_with fail
                    go_meet
                    exact ⟨nq, rfl, by rw [HT.out]⟩
                · have m1' : ((t : Int) == x) = false := by simpa using m1
                  have HT : Hid (b12 = false) := by show _ = _; rw [HB12.out, decide_eq_false (fun h => m1 h.1)]
                  clear m1
                  go_quiet (fail)
                  go_wp2_with fail
                  go_meet
                  exact ⟨nq, rfl, by rw [HT.out]⟩
              case rest =>
                obtain ⟨nq, rfl, rfl⟩ := hcut
                go_upto_if 71 with fail
                have P8 := HPW.out.drewN nq
                have X8 := HXW.out.drewN nq
                generalize W7.drewN nq = W8 at *
                have HP8 := Lib.hid P8
                have HX8 := Lib.hid X8
                obtain ⟨x0, x1, x2, x3, x4⟩ := X8.cells5
                clear P8 X8 HPW HXW l0 l1 fk7 e0 e1 e2 e3 e4
                have HFIN : Hid (∀ T2 : Reach, (T2 = if (t : Int) = x ∧ 0 < Fi then put T1 u (-(i : Int) - 1) else T1) → T2 = scanK L F x (i + 1) S ∧ SOk nn L F fr T2) := fun T2 h2 => by
                  have h9 : T2 = scanK L F x (i + 1) S := by
                    rw [h2, HT1.out]
                    show _ = scan1 F x i (L.getD i arcD) (scanK L F x i S)
                    rw [← hT.out, ← HAA.out]
                    unfold scan1
                    rw [← HFi.out]
                  refine ⟨h9, ?_⟩
                  have := HS.out.scanK hHE.out h hlt (i + 1) (by omega)
                  rw [← HX.out, ← h9] at this
                  exact this
                cases b12 with
                | false =>
                  have HT2 : Hid (T1 = if (t : Int) = x ∧ 0 < Fi then put T1 u (-(i : Int) - 1) else T1) := by show _ = _; rw [if_neg (of_decide_eq_false HB12.out.symm)]
                  go_wp2_with fail
                  go_roundw
                  case rel => exact ⟨i + 1, T1, by omega, by go_num, HP8.out, (HFIN.out _ HT2.out).2, (HFIN.out _ HT2.out).1⟩
                  case measure => simp [intOf]; omega
                | true =>
                  have HT2 : Hid (put T1 u (-(i : Int) - 1) = if (t : Int) = x ∧ 0 < Fi then put T1 u (-(i : Int) - 1) else T1) := by show _ = _; rw [if_pos (of_decide_eq_true HB12.out.symm)]
                  go_wp2_with fail
                  refine (c_putC w nn L (some ⟨g, o, none⟩) cA gm gf bm T1 W8 HP8.out u i false (by omega) (by omega) (by omega) (-(i : Int) - 1) (by show _ = _; simp) (by have := HS1.out.len; omega)).mono ?_
                  rintro e w9 ⟨rfl, hP9, _, _⟩
                  have HP9 := Lib.hid hP9
                  clear hP9 x0 x1 x2 x3 x4
                  go_wp2_with fail
                  go_roundw
                  case rel => exact ⟨i + 1, _, by omega, by go_num, HP9.out, (HFIN.out _ HT2.out).2, (HFIN.out _ HT2.out).1⟩
                  case measure => simp [intOf]; omega
        · have hiI : ¬ (i : Int) < (L.length : Int) := by omega
          have hiL : i = L.length := by omega
          have HPT := Lib.hid hPT
          have HST := Lib.hid hST
          clear hPT hST hpre
          go_wp2_with fail
          go_roundw
          case rel =>
            have hR := hR.out
            have hb : bfsN L F (nn - h) h S = bfsN L F (nn - (h + 1)) (h + 1) T := by
              rw [show nn - h = (nn - (h + 1)) + 1 by omega]
              show (if h < S.length then _ else _) = _
              rw [if_pos hlt, ← HX.out, hT.out, hiL]
            exact ⟨h + 1, T, hTh, by go_num, HPT.out, HST.out, by show _ = _; rw [← hb]; exact hR⟩
          case measure => simp [intOf]; omega
    · have hhI : ¬ (h : Int) < (S.length : Int) := by omega
      have HSR : Hid (S = reach nn L F fr) := by show _ = _; rw [← hR.out, bfsN_end L F _ h S hlt]
      have hC := c_ContainsI AL cL (nodesOf S) tt wr hLi (by omega)
      rw [hlen, has_nodes] at hC
      obtain ⟨q, hq⟩ : ∃ q, q = foundHas S tt := ⟨_, rfl⟩
      rw [← hq] at hC
      have HQ := Lib.hid hq
      have HCC := Lib.hid hC
      have HB0 := Lib.hid HP.out.toB
      clear hq hC hlen F1 O1 hLi n0 n1 HP
      go_wp2_with fail
      refine HCC.out.mono ?_
      rintro e w' ⟨rfl, rfl⟩
      clear f0
      cases q with
      | false =>
        have HT : Hid ((pushF nn L F fr tt).2 = false) := by show _ = _; unfold pushF; rw [if_neg (by rw [← HSR.out, ← HQ.out]; simp)]
        go_wp2_with fail
        go_ret2
        exact ⟨.slice none 0 0, by rw [HT.out]; rfl, HB0.out.G, fun h => by rw [HT.out] at h; cases h⟩
      | true =>
        have HT : Hid ((pushF nn L F fr tt).2 = true) := by show _ = _; unfold pushF; rw [if_pos (by rw [← HSR.out, ← HQ.out])]
        obtain ⟨p0, hp0, hpe⟩ := has_at HQ.out.symm
        have HO0 := Lib.hid (OS.lit0 wr wr.heap.size (Nat.le_refl _))
        have HB1 := Lib.hid (HB0.out.alloc (.cells #[] 94))
        have hbw := HB0.out.G.size
        have hs1 : wr.heap.size ≤ (wr.alloc (.cells #[] 94)).heap.size := by simp
        go_wp2_with fail
        generalize wr.alloc (.cells #[] 94) = W1 at *
        generalize wr.heap.size = base at *
        go_loopw [3, 16] (fun v3 v16 wz => ∃ (p n : Nat) (cs : List Int), p < S.length ∧ p < n ∧ n ≤ nn ∧ v3 = .int .i64 (S.getD p (0, 0)).1 ∧ OS wz base v16 cs ∧ BSt w nn L A cA gm bm S wz ∧ base ≤ wz.heap.size ∧ Hid (cs ++ wayN L S fr n (S.getD p (0, 0)).1 = wayN L S fr nn tt) ∧ cs.length + n ≤ nn) (fun v3 _ _ => (nodesOf S).idxOf (intOf v3))
        case atStart => exact ⟨p0, nn, [], hp0, by omega, Nat.le_refl _, by rw [hpe], HO0.out, HB1.out, hs1, by show _ = _; rw [hpe]; rfl, by simp⟩
        case round =>
          clear HO0 HB1 HB0 hs1
          obtain ⟨p, n, cs, hp, hpn, hnn, rfl, hO, hB, hsz, hW, hcn⟩ := hrel
          obtain ⟨x, hx⟩ : ∃ x : Nat, (S.getD p (0, 0)).1 = x := ⟨(S.getD p (0, 0)).1.toNat, by have := HS.out.node p hp; omega⟩
          have hxn : x < nn := by have := (HS.out.node p hp).2; omega
          have HX := Lib.hid hx
          have HO := Lib.hid hO
          have HB := Lib.hid hB
          clear hO hB
          obtain ⟨m, rfl⟩ : ∃ m, n = m + 1 := ⟨n - 1, by omega⟩
          by_cases hp00 : p = 0
          · have hxf : x = fr := by subst hp00; rw [HS.out.head] at hx; simp at hx; omega
            have hfin : Hid (cs = wayN L (reach nn L F fr) fr nn tt) := by
              show _ = _
              have h9 := hW.out
              rw [HX.out, hxf] at h9
              rw [← HSR.out, ← h9]
              simp [wayN]
            rw [hx]
            subst hxf
            clear hx
            go_wp2_with fail
            go_ret2
            refine ⟨_, by rw [HT.out]; rfl, HB.out.G, fun _ => ?_⟩
            rw [← hfin.out]
            exact own_lower HO.out hbw
          · obtain ⟨q, hq, hstep, ha, hcc, hc0⟩ := HS.out.back p (by omega) hp
            have hxf : ¬ (x : Int) = (fr : Int) := fun e => hp00 (nd_inj HS.out.nd hp HS.out.pos (by rw [HX.out, HS.out.head]; exact e))
            have hxf' : ((x : Int) != (fr : Int)) = true := by simpa using hxf
            have hco := codeOf_at HS.out.nd p hp
            rw [hx] at hstep ha hcc hc0 hco
            obtain ⟨c, hc⟩ : ∃ c, c = codeOf S (x : Int) := ⟨_, rfl⟩
            rw [← hc] at hstep ha hcc hc0 hco
            have HC2 : Hid (c = (S.getD p (0, 0)).2) := hco
            have hW2 : Hid ((cs ++ [c]) ++ wayN L S fr m (S.getD q (0, 0)).1 = wayN L S fr nn tt) := by
              show _ = _
              rw [← hW.out, HX.out]
              show _ = cs ++ (if (x : Int) = (fr : Int) then [] else codeOf S x :: wayN L S fr m (stepBack L (codeOf S x)))
              rw [if_neg hxf, ← hc, hstep, List.append_assoc]
              rfl
            obtain ⟨a, haa⟩ : ∃ a, a = arcNo c := ⟨_, rfl⟩
            rw [← haa] at ha
            obtain ⟨g, o, rfl, hg, _⟩ := hHA.out.at (by omega)
            have m0 := HB.out.M.cells1
            obtain ⟨fw, hfw⟩ : ∃ b, b = isFwd c := ⟨_, rfl⟩
            have HFW : Hid ((if fw then (L.getD a arcD).fr else (L.getD a arcD).to) = (S.getD q (0, 0)).1) := by
              show _ = _
              rw [← hstep, hfw, haa]
              unfold stepBack isFwd
              by_cases h0 : 0 < c
              · rw [decide_eq_true h0, if_pos h0]; rfl
              · rw [decide_eq_false h0, if_neg h0]; rfl
            have HA := Lib.hid haa
            have HFF := Lib.hid hfw
            have hx0 : (0 : Int) ≤ (x : Int) := by omega
            have hx8 : (x : Int) ≤ 8 := by omega
            have ha0 : (0 : Int) ≤ (a : Int) := by omega
            have haL : (a : Int) < (L.length : Int) := by omega
            clear hc haa hx hfw hstep hcc hco hc0 hxf
            rw [HX.out]
            go_upto_region 20 with (first | (at_lookup; go_must (refine wp_lookup_step rfl _ _ rfl bm S HB.out.P p (by omega) hp rfl (x : Int) HX.out.symm rfl hx0 (by omega) c HC2.out ?_)))
            have B5 := HB.out.alloc (.cells #[.int .i64 (arcNo c), .bool (isFwd c)] 94)
            have X5 := Blk.new wr #[.int .i64 (arcNo c), .bool (isFwd c)] 94
            have O5 : OS (wr.alloc (.cells #[.int .i64 (arcNo c), .bool (isFwd c)] 94)) base u16 cs := own_below HO.out (below_new _ _)
            have s5 : base ≤ (wr.alloc (.cells #[.int .i64 (arcNo c), .bool (isFwd c)] 94)).heap.size := Nat.le_trans hsz (by simp)
            have hbx : base ≤ wr.heap.size := hsz
            generalize wr.alloc (.cells #[.int .i64 (arcNo c), .bool (isFwd c)] 94) = W5 at *
            have hne5 : u16.ownBlock ≠ some wr.heap.size := fun e => by have := (own_ge HO.out _ e).2; omega
            generalize wr.heap.size = bx at *
            obtain ⟨x0, x1⟩ := X5.cells2
            have HX5 := Lib.hid X5
            have HB5 := Lib.hid B5
            have HO5 := Lib.hid O5
            have hne5' : some bx ≠ u16.ownBlock := fun e => hne5 e.symm
            have hcs : cs.length ≤ 1000000000 := by omega
            have HNE := Lib.hid hne5'
            clear X5 B5 O5 m0 HO hne5 hne5'
            go_upto_region 21 with (first | (at_builtin; go_must (refine app_step base rfl _ _ rfl u16 cs c rfl rfl HO5.out s5 hcs ?_); intro v6 w6 hO6 hg6; clear x0 x1))
            have B6 := HB5.out.app HO5.out hbw hg6
            have X6 := HX5.out.grown hg6 HNE.out
            have hs6 := Nat.le_trans s5 hg6.size
            have HO6 := Lib.hid hO6
            clear hO6 hg6 HX5 HB5 HO5
            rw [← HA.out, ← HFF.out] at X6
            obtain ⟨x0, x1⟩ := X6.cells2
            obtain ⟨n0, n1⟩ := B6.N.cells2
            obtain ⟨_, _, e', hg6, hac⟩ := (hHA.out.below B6.G).at (by omega)
            injection e' with e'
            injection e' with e1 e2
            subst e1 e2
            obtain ⟨a0, a1, _, _, _⟩ := hac a ha
            obtain ⟨sf', hsf'⟩ : ∃ v, v = (L.getD a arcD).fr := ⟨_, rfl⟩
            obtain ⟨st', hst'⟩ : ∃ v, v = (L.getD a arcD).to := ⟨_, rfl⟩
            rw [← hsf'] at a0
            rw [← hst'] at a1
            have HSF := Lib.hid hsf'
            have HST := Lib.hid hst'
            have HB6 := Lib.hid B6
            clear hsf' hst' hac B6 X6 HB
            cases fw with
            | true =>
              go_wp2_with fail
              go_roundw
              case rel =>
                have e9 : sf' = (S.getD q (0, 0)).1 := by rw [HSF.out]; exact HFW.out
                exact ⟨q, m, cs ++ [c], by omega, by omega, by omega, by rw [e9], HO6.out, HB6.out, hs6, hW2.out, by simp; omega⟩
              case measure =>
                have e9 : sf' = (S.getD q (0, 0)).1 := by rw [HSF.out]; exact HFW.out
                simp only [intOf]
                rw [e9, ← HX.out, idx_at HS.out.nd q (by omega), idx_at HS.out.nd p hp]
                omega
            | false =>
              go_wp2_with fail
              go_roundw
              case rel =>
                have e9 : st' = (S.getD q (0, 0)).1 := by rw [HST.out]; exact HFW.out
                exact ⟨q, m, cs ++ [c], by omega, by omega, by omega, by rw [e9], HO6.out, HB6.out, hs6, hW2.out, by simp; omega⟩
              case measure =>
                have e9 : st' = (S.getD q (0, 0)).1 := by rw [HST.out]; exact HFW.out
                simp only [intOf]
                rw [e9, ← HX.out, idx_at HS.out.nd q (by omega), idx_at HS.out.nd p hp]
                omega
end Go.Proofs.Ythglnmhcgagkdaa
