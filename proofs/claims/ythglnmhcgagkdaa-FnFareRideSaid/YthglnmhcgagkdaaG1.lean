/- Walk: spec.l25Push. -/
import Derived.Test.YthglnmhcgagkdaaG0
import Derived.Deep.CutRange
import Derived.Deep.DeepCutAuto
namespace Go.Proofs.Ythglnmhcgagkdaa
open Go.RowKit
theorem PSt.drewN {w : World} {nn : Nat} {L : List Arc} {A : Option Addr} {cA : Nat} {S : Reach} {vB vL : Value} {W : World} (h : PSt w nn L A cA S vB vL W) (n : Nat) : PSt w nn L A cA S vB vL (W.drewN n) :=
  ⟨h.N.drewN n, own_move h.B (fun _ _ _ _ => rfl), own_move h.Li (fun _ _ _ _ => rfl), ⟨h.G.os, h.G.tape, h.G.output, h.G.size, h.G.block⟩, h.ne⟩
theorem SOk.if1 {nn : Int} {L : List Arc} {F : List Int} {fr : Int} {S : Reach} (h : SOk nn L F fr S) (hE : EndsOk nn L) (q : Nat) (hq : q < S.length) (k : Nat) (hk : k < L.length) : SOk nn L F fr (if (L.getD k arcD).fr = (S.getD q (0, 0)).1 ∧ F.getD k 0 < (L.getD k arcD).ld then Ythglnmhcgagkdaa.put S (L.getD k arcD).to (k + 1) else S) := by
  split
  · rename_i hc
    exact h.put _ _ (hE k hk).2 q hq ⟨k, hk, .inl ⟨rfl, rfl, hc.1, hc.2⟩⟩
  · exact h
theorem if1_pre (c : Prop) [Decidable c] (S : Reach) (v d : Int) : S <+: (if c then put S v d else S) := by
  split
  · exact put_pre ..
  · exact List.prefix_refl S
def PushPost (base nn : Nat) (L : List Arc) (F : List Int) (fr tt : Nat) (w : World) (e : Ending) (w' : World) : Prop := ∃ v', e = .returned (.tuple #[v', .bool (pushF nn L F fr tt).2]) ∧ OI w' base v' (pushF nn L F fr tt).1 ∧ Below w.heap.size w w'
theorem bfsN_end (L : List Arc) (F : List Int) (n h : Nat) (S : Reach) (hh : ¬ h < S.length) : bfsN L F n h S = S := by
  cases n with
  | zero => rfl
  | succ n => show (if h < S.length then _ else _) = _; rw [if_neg hh]
theorem gb_below_new0 {w w1 : World} (h : w.grownBy w1 none) : Below w.heap.size w w1 := ⟨h.os, h.tape, h.output, h.size, fun k hk => h.block k hk (by simp)⟩
theorem codes_start (nn : Nat) (fr : Int) : codes nn [(fr, 0)] = List.replicate nn 0 := by
  refine List.ext_getElem? fun i => ?_
  unfold codes
  rw [List.getElem?_map, List.getElem?_replicate]
  by_cases h : i < nn
  · rw [List.getElem?_range h, if_pos h]
    simp [codeOf]
  · rw [List.getElem?_eq_none (by simp; omega), if_neg h]; rfl
theorem OI.set' {w : World} {base g cap n : Nat} {xs : List Int} (h : OI w base (.slice (some ⟨g, 0, none⟩) n cap) xs) (i : Nat) (x : Int) : OI (w.setCell ⟨g, i, none⟩ (.int .i64 x)) base (.slice (some ⟨g, 0, none⟩) n cap) (xs.set i x) := by
  obtain ⟨A, c, e, _⟩ := h.shape
  injection e with e1 e2 e3
  subst e2
  exact h.set i x
theorem idx_at {S : Reach} (hn : (S.map (·.1)).Nodup) (p : Nat) (hp : p < S.length) : (nodesOf S).idxOf (S.getD p (0, 0)).1 = p := by
  have hp' : p < (S.map (·.1)).length := by simpa using hp
  have := List.Nodup.idxOf_getElem hn p hp'
  rw [List.getElem_map] at this
  unfold nodesOf
  simpa [List.getD_eq_getElem?_getD, List.getElem?_eq_getElem hp] using this
set_option maxHeartbeats 1000000 in
set_option maxRecDepth 100000 in
theorem c_Push (nn : Nat) (A : Option Addr) (cA : Nat) (L : List Arc) (vF : Value) (base : Nat) (F : List Int) (fr tt : Nat) (w : World) (hA : ArcsAt w A L) (hO : OI w base vF F) (hbase : base ≤ w.heap.size) (hFl : F.length = L.length) (hl : L.length ≤ 16)
    (hn0 : 1 ≤ nn) (hn1 : nn ≤ 8) (hE : EndsOk nn L) (hfr : fr < nn) (htt : tt < nn) (hne : fr ≠ tt) (hb : ∀ k, k < L.length → 0 ≤ F.getD k 0 ∧ F.getD k 0 ≤ 9) :
    Calls Try.prog 81 #[.agg #[.int .i64 nn, .slice A L.length cA], vF, .int .i64 fr, .int .i64 tt] w (PushPost base nn L F fr tt w) := by
  obtain ⟨AF, cF, rfl, hcF, hF⟩ := hO.shape
  have hHO := Lib.hid hO
  clear hO
  have hHF := Lib.hid hFl
  have hHA := Lib.hid hA
  have hHI := Lib.hid hF
  have hHE := Lib.hid hE
  have hHb := Lib.hid hb
  have hnnI : (0 : Int) ≤ (nn : Int) := by omega
  have hnnT : ((nn : Int)).toNat = nn := by omega
  clear hA hF hFl hE hb
  have B1 := Blk.new w #[.int .i64 nn, .slice A L.length cA] 34
  have HB1 := below_new w (.cells #[.int .i64 nn, .slice A L.length cA] 34)
  have hsz : (w.alloc (.cells #[.int .i64 nn, .slice A L.length cA] 34)).heap.size = w.heap.size + 1 := by simp
  go_enter Try.func81, Try.ntmps81
  go_wp2_with ((refine mk_ints (w.heap.size + 1) rfl _ _ rfl nn (nn : Int) rfl rfl rfl (by omega) (Nat.le_of_eq hsz.symm) ?_); intro W2 hO2 hg2)
  rw [hsz] at hO2
  have N2 := B1.below (gb_below_new0 hg2)
  have G2 := below_of HB1 (gb_below_new0 hg2)
  clear hg2 B1 HB1 hsz
  go_loopw [11] (fun v11 wr => ∃ k : Nat, k ≤ nn ∧ v11 = .int .i64 k ∧ OI wr (w.heap.size + 1) (.slice (some ⟨w.heap.size + 1, 0, none⟩) nn nn) (List.replicate nn 0) ∧ Blk wr w.heap.size #[.int .i64 nn, .slice A L.length cA] 34 ∧ Below w.heap.size w wr) (fun v11 _ => nn - (intOf v11).toNat)
  case atStart => exact ⟨0, Nat.zero_le _, rfl, hO2, N2, G2⟩
  case round =>
    clear hO2 N2 G2
    obtain ⟨k, hk, rfl, hO, hN, hG⟩ := hrel
    obtain ⟨c0, c1⟩ := hN.cells2
    by_cases hlt : k < nn
    · have hkI : (k : Int) < (nn : Int) := by omega
      have hk0 : (0 : Int) ≤ (k : Int) := by omega
      obtain ⟨_, _, e, _, _, hc, hf⟩ := hO.at (by simp; omega)
      injection e with e1 e2 e3
      clear e2 e3
      injection e1 with e1
      injection e1 with e1
      subst e1
      have cc := hc k (by simpa using hlt)
      rw [show (List.replicate nn (0 : Int)).getD k 0 = 0 by rw [List.getD_eq_getElem?_getD, List.getElem?_replicate]; split <;> rfl] at cc
      have ff := hf k
      have hO' := hO.set' k 0
      rw [List.set_replicate_self] at hO'
      have HO := Lib.hid hO'
      have HN := Lib.hid (hN.far (p := ⟨w.heap.size + 1, k, none⟩) (by show w.heap.size ≠ w.heap.size + 1; omega) (.int .i64 0))
      have HG := Lib.hid (hG.setCell (p := ⟨w.heap.size + 1, k, none⟩) (Nat.le_succ _) (.int .i64 0))
      clear hO hN hG hO' hc hf
      go_wp2
      go_roundw
      case rel => exact ⟨k + 1, by omega, by go_num, HO.out, HN.out, HG.out⟩
      case measure => simp [intOf]; omega
    · have hkI : ¬ (k : Int) < (nn : Int) := by omega
      have hlt2 : w.heap.size + 1 < wr.heap.size := (own_ge hO (w.heap.size + 1) rfl).2
      have S3 : PSt w nn L A cA [(fr, 0)] (.slice (some ⟨w.heap.size + 1, 0, none⟩) nn nn) (.slice (some ⟨wr.heap.size, 0, none⟩) 1 1) (wr.alloc (.cells #[.int .i64 fr] 3)) :=
        ⟨hN.alloc _, by rw [codes_start]; exact hO.below (below_new _ _), OI.lit wr (w.heap.size + 1) [(fr : Int)] (Nat.le_of_lt hlt2) (by simp), below_alloc hG _, fun k hk => by
          have h1 : w.heap.size + 1 = k := by injection hk
          intro e
          have h2 : wr.heap.size = k := by injection e
          omega⟩
      clear hO hN hG
      go_wp2_with fail
      generalize wr.alloc (.cells #[.int .i64 fr] 3) = W4 at *
      generalize wr.heap.size = bL at *
      clear hlt2 hlt hkI hk
      have hSs := SOk.start nn L F (fr : Int) ⟨by omega, by omega⟩
      go_loopw [12, 13] (fun v12 v13 wr => ∃ (h : Nat) (S : Reach), h ≤ S.length ∧ v13 = .int .i64 h ∧ PSt w nn L A cA S (.slice (some ⟨w.heap.size + 1, 0, none⟩) nn nn) v12 wr ∧ SOk nn L F fr S ∧ Hid (bfsN L F (nn - h) h S = reach nn L F fr)) (fun _ v13 _ => nn - (intOf v13).toNat)
      case atStart => exact ⟨0, [((fr : Int), 0)], by simp, rfl, S3, hSs, rfl⟩
      case round =>
        clear S3 hSs
        obtain ⟨h, S, hh, rfl, hP, hS, hR⟩ := hrel
        obtain ⟨AL, cL, rfl, hcL, hLi⟩ := hP.Li.shape
        have hlen : (nodesOf S).length = S.length := by simp [nodesOf]
        rw [hlen] at hcL hP ⊢
        have hSl := hS.len
        by_cases hlt : h < S.length
        · have hhI : (h : Int) < (S.length : Int) := by omega
          have HP := Lib.hid hP
          have HS := Lib.hid hS
          have HR := Lib.hid hR
          clear hP hS hR hLi hlen
          obtain ⟨x, hx⟩ : ∃ x, x = (S.getD h (0, 0)).1 := ⟨_, rfl⟩
          have HX := Lib.hid hx
          clear hx
          go_wp2_with fail
          go_loopw [12, 14] (fun v12 v14 wr => ∃ (i : Nat) (T : Reach), i ≤ L.length ∧ v14 = .int .i64 i ∧ PSt w nn L A cA T (.slice (some ⟨w.heap.size + 1, 0, none⟩) nn nn) v12 wr ∧ SOk nn L F fr T ∧ Hid (T = scanK L F x i S)) (fun _ v14 _ => L.length - (intOf v14).toNat)
          case atStart => exact ⟨0, S, Nat.zero_le _, rfl, HP.out, HS.out, rfl⟩
          case round =>
            obtain ⟨i, T, hi, rfl, hPT, hST, hT⟩ := hrel
            obtain ⟨c0, c1⟩ := hPT.N.cells2
            have hpre : S <+: T := by have := scanK_pre L F x i S; rw [← hT.out] at this; exact this
            have hTh : h < T.length := Nat.lt_of_lt_of_le hlt hpre.length_le
            by_cases hil : i < L.length
            · have hiI : (i : Int) < (L.length : Int) := by omega
              have hnode : ((nodesOf T).getD h 0) = x := by rw [nodesOf_at T h hTh, pre_at hpre h hlt]; exact HX.out.symm
              have HXT : Hid (x = (T.getD h (0, 0)).1) := by show _ = _; rw [pre_at hpre h hlt]; exact HX.out
              have HPT := Lib.hid hPT
              have HST := Lib.hid hST
              -- what is read
              obtain ⟨g, o, rfl, hg, hc⟩ := (hHA.out.below hPT.G).at (by omega)
              have hci := hc i hil
              clear hc
              have hE1 := hHE.out i hil
              obtain ⟨a, haa⟩ : ∃ a, a = L.getD i arcD := ⟨_, rfl⟩
              rw [← haa] at hci hE1
              have HAA := Lib.hid haa
              clear haa
              obtain ⟨af, at_, ac, al, ald⟩ := a
              obtain ⟨u, rfl⟩ := Int.eq_ofNat_of_zero_le hE1.1.1
              obtain ⟨t, rfl⟩ := Int.eq_ofNat_of_zero_le hE1.2.1
              have hun : u < nn := by have := hE1.1.2; simp at this; omega
              have htn : t < nn := by have := hE1.2.2; simp at this; omega
              obtain ⟨h0, h1, h2, h3, h4⟩ := hci
              clear hE1 hpre hST
              have HF1 := Lib.hid ((hHI.out.below HPT.out.G))
              obtain ⟨gl, kl, e, _, hglt, hlc, hlf⟩ := HPT.out.Li.at (by simp [nodesOf]; omega)
              subst e
              have hl1 := hlc h (by simp [nodesOf]; omega)
              rw [hnode] at hl1
              clear hlc hlf
              obtain ⟨_, _, e, _, hgB, hbc, hbf⟩ := HPT.out.B.at (by rw [codes_length]; omega)
              injection e with e1 e2 e3
              injection e1 with e1
              injection e1 with e1
              subst e1
              clear e2 e3
              have hb1 := hbc t (by rw [codes_length]; exact htn)
              rw [codes_at nn T t htn] at hb1
              have hbf1 := hbf t
              clear hbc hbf
              dsimp only at h0 h1 h2 h3 h4
              clear HPT
              have HPT := Lib.hid hPT
              go_upto_region 14 with fail
              obtain ⟨Fi, hFi⟩ : ∃ y, y = F.getD i 0 := ⟨_, rfl⟩
              have hlF : i < F.length := by rw [hHF.out]; exact hil
              obtain ⟨gf, ofs, rfl, hgf, hfc⟩ := HF1.out (by omega)
              have hf1 := hfc i hlF
              rw [← hFi] at hf1
              clear hfc
              have P5 := HPT.out.alloc (.cells #[.int .i64 u, .int .i64 t, .int .i64 ac, .int .i64 al, .int .i64 ald] 40)
              have X5 := Blk.new wr #[.int .i64 u, .int .i64 t, .int .i64 ac, .int .i64 al, .int .i64 ald] 40
              have hl5 := (cell_keep (Below.heap_alloc wr (.cells #[.int .i64 u, .int .i64 t, .int .i64 ac, .int .i64 al, .int .i64 ald] 40) gl hglt) h).trans hl1
              have hb5 := (cell_keep (Below.heap_alloc wr (.cells #[.int .i64 u, .int .i64 t, .int .i64 ac, .int .i64 al, .int .i64 ald] 40) _ hgB) t).trans hb1
              have hbf5 := frozen_keep (Below.heap_alloc wr (.cells #[.int .i64 u, .int .i64 t, .int .i64 ac, .int .i64 al, .int .i64 ald] 40) _ hgB) hbf1
              have hf5 := (cell_keep (Below.heap_alloc wr (.cells #[.int .i64 u, .int .i64 t, .int .i64 ac, .int .i64 al, .int .i64 ald] 40) gf hgf) (ofs + i)).trans hf1
              generalize wr.alloc (.cells #[.int .i64 u, .int .i64 t, .int .i64 ac, .int .i64 al, .int .i64 ald] 40) = W5 at *
              generalize wr.heap.size = bx at *
              have HFi := Lib.hid hFi
              clear hFi HPT hPT HF1 h0 h1 h2 h3 h4 hl1 hb1 hf1 hbf1
              obtain ⟨e0, e1, e2, e3, e4⟩ := X5.cells5
              have hTn : h < (nodesOf T).length := by simp [nodesOf]; omega
              have hTI : (h : Int) < ((nodesOf T).length : Int) := by omega
              have htI : (t : Int) < (nn : Int) := by omega
              have hiFI : (i : Int) < (F.length : Int) := by omega
              have ht0 : (0 : Int) ≤ (t : Int) := by omega
              have htT : ((t : Int)).toNat = t := by omega
              have HP5 := Lib.hid P5
              have HX5 := Lib.hid X5
              clear P5 X5
              obtain ⟨b14, hb14⟩ : ∃ b, b = (decide ((u : Int) = x ∧ Fi < ald) && !foundHas T t) := ⟨_, rfl⟩
              have HB14 := Lib.hid hb14
              have HH := Lib.hid (HST.out.has (t : Int))
              clear hb14
              go_cut [80] from 39 to 131 (fun v80 wc => ∃ n, wc = W5.drewN n ∧ v80 = .bool b14)
              case first =>
                by_cases m1 : (u : Int) = x
                · have m1' : ((u : Int) == x) = true := by simpa using m1
                  have HM := Lib.hid m1
                  clear m1
                  by_cases m2 : Fi < ald
                  · have HM2 := Lib.hid m2
                    by_cases m3 : codeOf T t = 0
                    · have m3' : (codeOf T t == 0) = true := by simpa using m3
                      clear m3
                      by_cases m4 : (t : Int) = (fr : Int)
                      · have m4' : ((t : Int) == (fr : Int)) = true := by simpa using m4
                        have m4'' : ((t : Int) != (fr : Int)) = false := by simp [m4]
                        have HT : Hid (b14 = false) := by show _ = _; rw [HB14.out, HH.out, m3', m4']; simp
                        clear m4
                        go_quiet (fail)
                        go_wp2_with fail
                        go_meet
                        exact ⟨nq, rfl, by rw [HT.out]⟩
                      · have m4' : ((t : Int) == (fr : Int)) = false := by simpa using m4
                        have m4'' : ((t : Int) != (fr : Int)) = true := by simp [m4]
                        have HT : Hid (b14 = true) := by show _ = _; rw [HB14.out, HH.out, m3', m4', decide_eq_true ⟨HM.out, HM2.out⟩]; rfl
                        clear m4
                        go_quiet (fail)
                        go_wp2_with fail
                        go_meet
                        exact ⟨nq, rfl, by rw [HT.out]⟩
                    · have m3' : (codeOf T t == 0) = false := by simpa using m3
                      have HT : Hid (b14 = false) := by show _ = _; rw [HB14.out, HH.out, m3']; simp
                      clear m3
                      go_quiet (fail)
                      go_wp2_with fail
                      go_meet
                      exact ⟨nq, rfl, by rw [HT.out]⟩
                  · have HT : Hid (b14 = false) := by show _ = _; rw [HB14.out, decide_eq_false (fun h => m2 h.2)]; rfl
                    go_quiet (fail)
                    go_wp2_with fail
                    go_meet
                    exact ⟨nq, rfl, by rw [HT.out]⟩
                · have m1' : ((u : Int) == x) = false := by simpa using m1
                  have HT : Hid (b14 = false) := by show _ = _; rw [HB14.out, decide_eq_false (fun h => m1 h.1)]; rfl
                  clear m1
                  go_quiet (fail)
                  go_wp2_with fail
                  go_meet
                  exact ⟨nq, rfl, by rw [HT.out]⟩
              case rest =>
                obtain ⟨nq, rfl, rfl⟩ := hcut
                go_upto_if 80 with fail
                have P6 := HP5.out.drewN nq
                have X6 := HX5.out.drewN nq
                have q0 : (W5.drewN nq).cell? ⟨w.heap.size + 1, t, none⟩ = some (.int .i64 (codeOf T t)) := hb5
                have q1 : (W5.drewN nq).frozen? ⟨w.heap.size + 1, t, none⟩ = false := hbf5
                obtain ⟨x0, x1, x2, x3, x4⟩ := X6.cells5
                generalize W5.drewN nq = W6 at *
                have HP6 := Lib.hid P6
                have HX6 := Lib.hid X6
                clear P6 X6 HP5 HX5 hl5 hb5 hbf5 hf5 e0 e1 e2 e3 e4
                go_cut [12] from 39 to 131 (fun v12 wc => ∃ T1 : Reach, Hid (T1 = if (u : Int) = x ∧ Fi < ald then put T t (i + 1) else T) ∧ PSt w nn L (some ⟨g, o, none⟩) cA T1 (.slice (some ⟨w.heap.size + 1, 0, none⟩) nn nn) v12 wc ∧ Blk wc bx #[.int .i64 u, .int .i64 t, .int .i64 ac, .int .i64 al, .int .i64 ald] 40)
                case first =>
                  cases b14 with
                  | false =>
                    go_wp2_with fail
                    go_meet
                    refine ⟨T, ?_, HP6.out, HX6.out⟩
                    show _ = _
                    have hb := HB14.out
                    by_cases hc : (u : Int) = x ∧ Fi < ald
                    · rw [decide_eq_true hc, Bool.true_and] at hb
                      have : foundHas T t = true := by simpa using hb.symm
                      rw [if_pos hc]; unfold put; rw [if_pos this]
                    · rw [if_neg hc]
                  | true =>
                    have hb := HB14.out
                    rw [eq_comm, Bool.and_eq_true] at hb
                    have HC := Lib.hid (of_decide_eq_true hb.1)
                    have HNF : Hid (foundHas T t = false) := by have := hb.2; show _ = _; simpa using this
                    have HT1 : Hid (put T t ((i : Int) + 1) = if (u : Int) = x ∧ Fi < ald then put T t (i + 1) else T) := by show _ = _; rw [if_pos HC.out]
                    clear hb
                    have hi17 : (i : Int) ≤ 16 := by omega
                    have hi0 : (0 : Int) ≤ (i : Int) := by omega
                    have hsz6 : (W6.setCell ⟨w.heap.size + 1, t, none⟩ (.int .i64 ((i : Int) + 1))).heap.size = W6.heap.size := by simp
                    have HLIT : Hid (IntsAt ((W6.setCell ⟨w.heap.size + 1, t, none⟩ (.int .i64 ((i : Int) + 1))).alloc (.cells #[.int .i64 t] 3)) (some ⟨W6.heap.size, 0, none⟩) [(t : Int)]) := by
                      have := IntsAt.lit (W6.setCell ⟨w.heap.size + 1, t, none⟩ (.int .i64 ((i : Int) + 1))) [(t : Int)]
                      rw [hsz6] at this
                      exact this
                    have HO7 : Hid (OI ((W6.setCell ⟨w.heap.size + 1, t, none⟩ (.int .i64 ((i : Int) + 1))).alloc (.cells #[.int .i64 t] 3)) (w.heap.size + 1) (.slice (some ⟨gl, 0, none⟩) (nodesOf T).length kl) (nodesOf T)) :=
                      OI.below (own_far HP6.out.Li (p := ⟨w.heap.size + 1, t, none⟩) (HP6.out.ne _ rfl) _) (below_new _ _)
                    have hs7 : w.heap.size + 1 ≤ ((W6.setCell ⟨w.heap.size + 1, t, none⟩ (.int .i64 ((i : Int) + 1))).alloc (.cells #[.int .i64 t] 3)).heap.size := by
                      have := (own_ge HP6.out.B _ rfl).2
                      simp at this ⊢
                      omega
                    have hT8 : (nodesOf T).length + [(t : Int)].length ≤ 1000000000 := by
                      have := HST.out.len
                      simp [nodesOf]; omega
                    have hs8 : ((W6.setCell ⟨w.heap.size + 1, t, none⟩ (.int .i64 ((i : Int) + 1))).alloc (.cells #[.int .i64 t] 3)).heap.size = W6.heap.size + 1 := by simp
                    have HS7 := Lib.hid hs7
                    have HS8 := Lib.hid hs8
                    clear hsz6 hs7 hs8
                    go_wp2_with (at_builtin; go_must (refine app_ints (w.heap.size + 1) rfl _ _ rfl (.slice (some ⟨gl, 0, none⟩) (nodesOf T).length kl) (nodesOf T) [(t : Int)] (some ⟨W6.heap.size, 0, none⟩) 1 rfl rfl HLIT.out HO7.out HS7.out hT8 ?_); intro v2 w2 hO2 hg2 hv2; rw [HS8.out] at hv2; have P8 := Lib.hid (HP6.out.put t _ HNF.out hO2 hg2 hv2); have X8 := Lib.hid (((HX6.out.far (p := ⟨w.heap.size + 1, t, none⟩) (fun e => own_ne_blk HP6.out.B HX6.out (by decide) (congrArg some e.symm)) (.int .i64 ((i : Int) + 1))).alloc (.cells #[.int .i64 t] 3)).grown hg2 (fun e => own_ne_blk HP6.out.Li HX6.out (by decide) e.symm)); clear hO2 hg2 hv2 q0 q1)
                    go_meet
                    exact ⟨_, HT1, P8.out, X8.out⟩
                case rest =>
                  obtain ⟨T1, HT1, P7, X7⟩ := hcut
                  have HS1 : Hid (SOk nn L F fr T1) := by
                    show SOk nn L F fr T1
                    have := HST.out.if1 hHE.out h hTh i hil
                    rw [← HAA.out, ← HXT.out, ← HFi.out] at this
                    rw [HT1.out]; exact this
                  have HP1 : Hid (T <+: T1) := by show T <+: T1; rw [HT1.out]; exact if1_pre ..
                  have hTh1 : h < T1.length := Nat.lt_of_lt_of_le hTh HP1.out.length_le
                  have HXT1 : Hid (x = (T1.getD h (0, 0)).1) := by show _ = _; rw [pre_at HP1.out h hTh]; exact HXT.out
                  obtain ⟨W7, hW7⟩ : ∃ W, W = wc := ⟨_, rfl⟩
                  subst hW7
                  obtain ⟨gm, km, e, _, hglt7, hlc, hlf⟩ := P7.Li.at (by simp [nodesOf]; omega)
                  subst e
                  have hl5 := hlc h (by simp [nodesOf]; omega)
                  rw [nodesOf_at T1 h hTh1, ← HXT1.out] at hl5
                  clear hlc hlf
                  obtain ⟨_, _, e, _, hgB7, hbc, hbf⟩ := P7.B.at (by rw [codes_length]; omega)
                  injection e with e1 e2 e3
                  injection e1 with e1
                  injection e1 with e1
                  subst e1
                  clear e2 e3
                  have hb5 := hbc u (by rw [codes_length]; exact hun)
                  rw [codes_at nn T1 u hun] at hb5
                  have hbf5 := hbf u
                  clear hbc hbf
                  obtain ⟨_, _, e, _, hfc⟩ := (hHI.out.below P7.G) (by omega)
                  injection e with e
                  injection e with e e2
                  subst e e2
                  have hf5 := hfc i hlF
                  rw [← HFi.out] at hf5
                  clear hfc
                  obtain ⟨e0, e1, e2, e3, e4⟩ := X7.cells5
                  have hTn1 : h < (nodesOf T1).length := by simp [nodesOf]; omega
                  have hTI1 : (h : Int) < ((nodesOf T1).length : Int) := by omega
                  have huI : (u : Int) < (nn : Int) := by omega
                  have hu0 : (0 : Int) ≤ (u : Int) := by omega
                  have huT : ((u : Int)).toNat = u := by omega
                  have HP5 := Lib.hid P7
                  have HX5 := Lib.hid X7
                  clear P7 X7
                  go_upto_region 17 with fail
                  obtain ⟨b17, hb17⟩ : ∃ b, b = (decide ((t : Int) = x ∧ 0 < Fi) && !foundHas T1 u) := ⟨_, rfl⟩
                  have HB14 := Lib.hid hb17
                  have HH := Lib.hid (HS1.out.has (u : Int))
                  clear hb17
                  go_cut [119] from 39 to 131 (fun v119 wc => ∃ n, wc = W7.drewN n ∧ v119 = .bool b17)
                  case first =>
                    by_cases m1 : (t : Int) = x
                    · have m1' : ((t : Int) == x) = true := by simpa using m1
                      have HM := Lib.hid m1
                      clear m1
                      by_cases m2 : 0 < Fi
                      · have HM2 := Lib.hid m2
                        by_cases m3 : codeOf T1 u = 0
                        · have m3' : (codeOf T1 u == 0) = true := by simpa using m3
                          clear m3
                          by_cases m4 : (u : Int) = (fr : Int)
                          · have m4' : ((u : Int) == (fr : Int)) = true := by simpa using m4
                            have m4'' : ((u : Int) != (fr : Int)) = false := by simp [m4]
                            have HT : Hid (b17 = false) := by show _ = _; rw [HB14.out, HH.out, m3', m4']; simp
                            clear m4
                            go_quiet (fail)
                            go_wp2_with fail
                            go_meet
                            exact ⟨nq, rfl, by rw [HT.out]⟩
                          · have m4' : ((u : Int) == (fr : Int)) = false := by simpa using m4
                            have m4'' : ((u : Int) != (fr : Int)) = true := by simp [m4]
                            have HT : Hid (b17 = true) := by show _ = _; rw [HB14.out, HH.out, m3', m4', decide_eq_true ⟨HM.out, HM2.out⟩]; rfl
                            clear m4
                            go_quiet (fail)
                            go_wp2_with fail
                            go_meet
                            exact ⟨nq, rfl, by rw [HT.out]⟩
                        · have m3' : (codeOf T1 u == 0) = false := by simpa using m3
                          have HT : Hid (b17 = false) := by show _ = _; rw [HB14.out, HH.out, m3']; simp
                          clear m3
                          go_quiet (fail)
                          go_wp2_with fail
                          go_meet
                          exact ⟨nq, rfl, by rw [HT.out]⟩
                      · have HT : Hid (b17 = false) := by show _ = _; rw [HB14.out, decide_eq_false (fun h => m2 h.2)]; rfl
                        go_quiet (fail)
                        go_wp2_with fail
                        go_meet
                        exact ⟨nq, rfl, by rw [HT.out]⟩
                    · have m1' : ((t : Int) == x) = false := by simpa using m1
                      have HT : Hid (b17 = false) := by show _ = _; rw [HB14.out, decide_eq_false (fun h => m1 h.1)]; rfl
                      clear m1
                      go_quiet (fail)
                      go_wp2_with fail
                      go_meet
                      exact ⟨nq, rfl, by rw [HT.out]⟩
                  case rest =>
                    obtain ⟨nq, rfl, rfl⟩ := hcut
                    go_upto_if 119 with fail
                    have P6 := HP5.out.drewN nq
                    have X6 := HX5.out.drewN nq
                    have q0 : (W7.drewN nq).cell? ⟨w.heap.size + 1, u, none⟩ = some (.int .i64 (codeOf T1 u)) := hb5
                    have q1 : (W7.drewN nq).frozen? ⟨w.heap.size + 1, u, none⟩ = false := hbf5
                    obtain ⟨x0, x1, x2, x3, x4⟩ := X6.cells5
                    generalize W7.drewN nq = W6 at *
                    have HP6 := Lib.hid P6
                    have HX6 := Lib.hid X6
                    clear P6 X6 HP5 HX5 hl5 hb5 hbf5 hf5 e0 e1 e2 e3 e4
                    have HFIN : Hid (∀ T2 : Reach, (T2 = if (t : Int) = x ∧ 0 < Fi then put T1 u (-(i : Int) - 1) else T1) → T2 = scanK L F x (i + 1) S ∧ SOk nn L F fr T2) := fun T2 h2 => by
                      have h9 : T2 = scanK L F x (i + 1) S := by
                        rw [h2, HT1.out]
                        show _ = scan1 F x i (L.getD i arcD) (scanK L F x i S)
                        rw [← hT.out, ← HAA.out]
                        unfold scan1
                        rw [← HFi.out]
                      refine ⟨h9, ?_⟩
                      have := HS.out.scanK hHE.out h hlt (i + 1) (by omega)
                      rw [← HX.out, ← h9] at this
                      exact this
                    cases b17 with
                    | false =>
                      have HT0 : Hid (T1 = if (t : Int) = x ∧ 0 < Fi then put T1 u (-(i : Int) - 1) else T1) := by
                        show _ = _
                        have hb := HB14.out
                        by_cases hc : (t : Int) = x ∧ 0 < Fi
                        · rw [decide_eq_true hc, Bool.true_and] at hb
                          have : foundHas T1 u = true := by simpa using hb.symm
                          rw [if_pos hc]; unfold put; rw [if_pos this]
                        · rw [if_neg hc]
                      go_wp2_with fail
                      go_roundw
                      case rel => exact ⟨i + 1, T1, by omega, by go_num, HP6.out, (HFIN.out _ HT0.out).2, (HFIN.out _ HT0.out).1⟩
                      case measure => simp [intOf]; omega
                    | true =>
                      have hb := HB14.out
                      rw [eq_comm, Bool.and_eq_true] at hb
                      have HC := Lib.hid (of_decide_eq_true hb.1)
                      have HNF : Hid (foundHas T1 u = false) := by have := hb.2; show _ = _; simpa using this
                      have HT2 : Hid (put T1 u (-(i : Int) - 1) = if (t : Int) = x ∧ 0 < Fi then put T1 u (-(i : Int) - 1) else T1) := by show _ = _; rw [if_pos HC.out]
                      clear hb
                      have hi17 : (i : Int) ≤ 16 := by omega
                      have hi0 : (0 : Int) ≤ (i : Int) := by omega
                      have hsz6 : (W6.setCell ⟨w.heap.size + 1, u, none⟩ (.int .i64 (-(i : Int) - 1))).heap.size = W6.heap.size := by simp
                      have HLIT : Hid (IntsAt ((W6.setCell ⟨w.heap.size + 1, u, none⟩ (.int .i64 (-(i : Int) - 1))).alloc (.cells #[.int .i64 u] 3)) (some ⟨W6.heap.size, 0, none⟩) [(u : Int)]) := by
                        have := IntsAt.lit (W6.setCell ⟨w.heap.size + 1, u, none⟩ (.int .i64 (-(i : Int) - 1))) [(u : Int)]
                        rw [hsz6] at this
                        exact this
                      have HO7 : Hid (OI ((W6.setCell ⟨w.heap.size + 1, u, none⟩ (.int .i64 (-(i : Int) - 1))).alloc (.cells #[.int .i64 u] 3)) (w.heap.size + 1) (.slice (some ⟨gm, 0, none⟩) (nodesOf T1).length km) (nodesOf T1)) :=
                        OI.below (own_far HP6.out.Li (p := ⟨w.heap.size + 1, u, none⟩) (HP6.out.ne _ rfl) _) (below_new _ _)
                      have hs7 : w.heap.size + 1 ≤ ((W6.setCell ⟨w.heap.size + 1, u, none⟩ (.int .i64 (-(i : Int) - 1))).alloc (.cells #[.int .i64 u] 3)).heap.size := by
                        have := (own_ge HP6.out.B _ rfl).2
                        simp at this ⊢
                        omega
                      have hT8 : (nodesOf T1).length + [(u : Int)].length ≤ 1000000000 := by
                        have := HS1.out.len
                        simp [nodesOf]; omega
                      have hs8 : ((W6.setCell ⟨w.heap.size + 1, u, none⟩ (.int .i64 (-(i : Int) - 1))).alloc (.cells #[.int .i64 u] 3)).heap.size = W6.heap.size + 1 := by simp
                      have HS7 := Lib.hid hs7
                      have HS8 := Lib.hid hs8
                      clear hsz6 hs7 hs8
                      go_wp2_with (at_builtin; go_must (refine app_ints (w.heap.size + 1) rfl _ _ rfl (.slice (some ⟨gm, 0, none⟩) (nodesOf T1).length km) (nodesOf T1) [(u : Int)] (some ⟨W6.heap.size, 0, none⟩) 1 rfl rfl HLIT.out HO7.out HS7.out hT8 ?_); intro v2 w2 hO2 hg2 hv2; rw [HS8.out] at hv2; have P8 := Lib.hid (HP6.out.put u _ HNF.out hO2 hg2 hv2); have X8 := Lib.hid (((HX6.out.far (p := ⟨w.heap.size + 1, u, none⟩) (fun e => own_ne_blk HP6.out.B HX6.out (by decide) (congrArg some e.symm)) (.int .i64 (-(i : Int) - 1))).alloc (.cells #[.int .i64 u] 3)).grown hg2 (fun e => own_ne_blk HP6.out.Li HX6.out (by decide) e.symm)); clear hO2 hg2 hv2 q0 q1)
                      go_wp2_with fail
                      go_roundw
                      case rel => exact ⟨i + 1, _, by omega, by go_num, P8.out, (HFIN.out _ HT2.out).2, (HFIN.out _ HT2.out).1⟩
                      case measure => simp [intOf]; omega
            · have hiI : ¬ (i : Int) < (L.length : Int) := by omega
              have hiL : i = L.length := by omega
              have HPT := Lib.hid hPT
              have HST := Lib.hid hST
              clear hPT hST hpre
              go_wp2
              go_roundw
              case rel =>
                have hR := HR.out
                have hb : bfsN L F (nn - h) h S = bfsN L F (nn - (h + 1)) (h + 1) T := by
                  rw [show nn - h = (nn - (h + 1)) + 1 by omega]
                  show (if h < S.length then _ else _) = _
                  rw [if_pos hlt, ← HX.out, hT.out, hiL]
                exact ⟨h + 1, T, hTh, by go_num, HPT.out, HST.out, by show _ = _; rw [← hb]; exact hR⟩
              case measure => simp [intOf]; omega
        · have hhI : ¬ (h : Int) < (S.length : Int) := by omega
          have HSR : Hid (S = reach nn L F fr) := by show _ = _; rw [← hR.out, bfsN_end L F _ h S hlt]
          obtain ⟨_, _, e, _, hgB, hbc, hbf⟩ := hP.B.at (by rw [codes_length]; omega)
          injection e with e1 e2 e3
          injection e1 with e1
          injection e1 with e1
          subst e1
          clear e2 e3
          have hb1 := hbc tt (by rw [codes_length]; exact htt)
          rw [codes_at nn S tt htt] at hb1
          have HH := Lib.hid (hS.has (tt : Int))
          have httI : (tt : Int) < (nn : Int) := by omega
          have htt0 : (0 : Int) ≤ (tt : Int) := by omega
          have httT : ((tt : Int)).toNat = tt := by omega
          have HG := Lib.hid hP.G
          have HP := Lib.hid hP
          have HS := Lib.hid hS
          have hne' : ((tt : Int) == (fr : Int)) = false := by simp; omega
          clear hbc hbf hP hS hR hLi hlen
          by_cases hz : codeOf S tt = 0
          · have hz' : (codeOf S tt == 0) = true := by simpa using hz
            have HN : Hid (foundHas (reach nn L F fr) tt = false) := by show _ = _; rw [← HSR.out, HH.out, hz', hne']; rfl
            clear hz hne'
            go_wp2_with fail
            go_ret2
            refine ⟨.slice AF F.length cF, ?_, ?_, HG.out⟩
            · unfold pushF; rw [if_neg (by rw [HN.out]; simp)]; rfl
            · unfold pushF; rw [if_neg (by rw [HN.out]; simp)]; exact hHO.out.below HG.out
          · have hz' : (codeOf S tt == 0) = false := by simpa using hz
            have HN : Hid (foundHas (reach nn L F fr) tt = true) := by show _ = _; rw [← HSR.out, HH.out, hz']; rfl
            clear hz hne'
            have HO9 : Hid (OI (wr.alloc (.cells #[] 3)) wr.heap.size (.slice (some ⟨wr.heap.size, 0, none⟩) 0 0) []) := OI.lit wr wr.heap.size [] (Nat.le_refl _) (by simp)
            have HI9 : Hid (IntsAt (wr.alloc (.cells #[] 3)) AF F) := (hHI.out.below HG.out).below (below_new _ _)
            have hF16 : F.length ≤ 16 := by rw [hHF.out]; exact hl
            go_wp2_with (at_builtin; go_must (refine app_ints wr.heap.size rfl _ _ rfl (.slice (some ⟨wr.heap.size, 0, none⟩) 0 0) [] F AF cF rfl rfl HI9.out HO9.out (by simp) (by simp; omega) ?_); intro v2 w2 hO2 hg2 _; have hB2 := below_gb (below_new wr _) hg2 (fun k hk => by simp [Value.ownBlock] at hk; omega); rw [List.nil_append] at hO2; clear hg2)
            clear HO9 HI9 hb1 c0 c1
            obtain ⟨p0, hp0, hpe⟩ := has_at HN.out
            rw [← HSR.out] at hp0 hpe
            have HRES : Hid ((wayN L S fr nn tt).foldl app1 F = (pushF nn L F fr tt).1) := by show _ = _; unfold pushF; rw [if_pos HN.out, ← HSR.out]
            have HT : Hid ((pushF nn L F fr tt).2 = true) := by show _ = _; unfold pushF; rw [if_pos HN.out]
            have N2 := HP.out.N.below hB2
            have B2 := HP.out.B.below hB2
            have A2 := (hHA.out.below HG.out).below hB2
            have G2 := below_of HG.out hB2
            obtain ⟨ao, co, e, hco, _⟩ := hO2.shape
            subst e
            have hbw : base ≤ wr.heap.size := Nat.le_trans hbase HG.out.size
            obtain ⟨W0, hW0⟩ : ∃ W : World, W = wr := ⟨_, rfl⟩
            subst hW0
            have HO2 := Lib.hid hO2
            have HB2 := Lib.hid hB2
            clear N2 B2 A2 G2 hO2 hB2
            go_loopw [17] (fun v17 wz => ∃ (p n : Nat) (G : List Int), p < S.length ∧ p < n ∧ n ≤ nn ∧ v17 = .int .i64 (S.getD p (0, 0)).1 ∧ Hid (G.length = F.length) ∧ OI wz W0.heap.size (.slice ao F.length co) G ∧ Below W0.heap.size W0 wz ∧ Hid (∀ k, k < L.length → (n : Int) - nn ≤ G.getD k 0 ∧ G.getD k 0 ≤ 9 + nn - n) ∧ Hid ((wayN L S fr n (S.getD p (0, 0)).1).foldl app1 G = (pushF nn L F fr tt).1)) (fun v17 _ => (nodesOf S).idxOf (intOf v17))
            case atStart => exact ⟨p0, nn, F, hp0, by omega, Nat.le_refl _, by rw [hpe], rfl, HO2.out, HB2.out, fun k hk => by have := hHb.out k hk; omega, by rw [hpe]; exact HRES.out⟩
            case round =>
              clear HO2 HB2 HRES
              obtain ⟨p, n, G, hp, hpn, hnn, rfl, hGl, hO, hB, hbd, hW⟩ := hrel
              obtain ⟨x, hx⟩ : ∃ x : Nat, (S.getD p (0, 0)).1 = x := ⟨(S.getD p (0, 0)).1.toNat, by have := HS.out.node p hp; omega⟩
              have hxn : x < nn := by have := (HS.out.node p hp).2; omega
              have HX := Lib.hid hx
              by_cases hp00 : p = 0
              · have hxf : x = fr := by subst hp00; rw [HS.out.head] at hx; simp at hx; omega
                have hfin : Hid (G = (pushF nn L F fr tt).1) := by
                  show _ = _
                  have h9 := hW.out
                  obtain ⟨m, rfl⟩ : ∃ m, n = m + 1 := ⟨n - 1, by omega⟩
                  rw [HX.out, hxf] at h9
                  simpa [wayN] using h9
                rw [hx]
                subst hxf
                have HO := Lib.hid hO
                have HB := Lib.hid hB
                clear hx hO hB
                go_wp2_with fail
                go_ret2
                refine ⟨.slice ao F.length co, ?_, ?_, below_of HG.out HB.out⟩
                · rw [HT.out]; rfl
                · rw [← hfin.out]; exact own_lower HO.out hbw
              · obtain ⟨q, hq, hstep, ha, hcc, hc0⟩ := HS.out.back p (by omega) hp
                have hxf : ¬ (x : Int) = (fr : Int) := fun e => hp00 (nd_inj HS.out.nd hp HS.out.pos (by rw [HX.out, HS.out.head]; exact e))
                have hxf' : ((x : Int) == (fr : Int)) = false := by simpa using hxf
                have hxf'' : ((x : Int) != (fr : Int)) = true := by simpa using hxf
                rw [hx] at hstep ha hcc hc0
                obtain ⟨a, haa⟩ : ∃ a, a = arcNo (codeOf S (x : Int)) := ⟨_, rfl⟩
                obtain ⟨m, rfl⟩ : ∃ m, n = m + 1 := ⟨n - 1, by omega⟩
                have hW2 : Hid ((wayN L S fr m (stepBack L (codeOf S (x : Int)))).foldl app1 (app1 G (codeOf S (x : Int))) = (pushF nn L F fr tt).1) := by
                  show _ = _
                  rw [← hW.out, HX.out]
                  show _ = (if (x : Int) = (fr : Int) then [] else codeOf S x :: wayN L S fr m (stepBack L (codeOf S x))).foldl app1 G
                  rw [if_neg hxf, List.foldl_cons]
                rw [hstep] at hW2
                rw [← haa] at ha
                have hb1 := (HP.out.B.below hB)
                obtain ⟨_, _, e, _, _, hbc, _⟩ := hb1.at (by rw [codes_length]; omega)
                injection e with e1 e2 e3
                injection e1 with e1
                injection e1 with e1
                subst e1
                clear e2 e3
                have hbx := hbc x (by rw [codes_length]; exact hxn)
                rw [codes_at nn S x hxn] at hbx
                clear hbc hb1
                obtain ⟨g, o, e, hg0, _⟩ := hHA.out.at (by omega)
                obtain ⟨_, _, e', hg, hac⟩ := ((hHA.out.below HG.out).below hB).at (by omega)
                subst e
                injection e' with e'
                injection e' with e1 e2
                subst e1 e2
                obtain ⟨a0, a1, _, _, _⟩ := hac a ha
                clear hac
                have hN := HP.out.N.below hB
                obtain ⟨n0, n1⟩ := hN.cells2
                have haG : a < G.length := by rw [hGl.out, hHF.out]; exact ha
                have haF : a < F.length := by rw [hHF.out]; exact ha
                obtain ⟨go, _, e, hgo, _, hgc, hgf⟩ := hO.at (by omega)
                injection e with e1 e2 e3
                subst e1
                clear e2 e3
                have hga := hgc a haG
                have hfa := hgf a
                clear hgc hgf
                have hba := hbd.out a ha
                obtain ⟨gv, hgv⟩ : ∃ gv, gv = G.getD a 0 := ⟨_, rfl⟩
                rw [← hgv] at hga hba
                have HGV := Lib.hid hgv
                have hgv1 : -10 ≤ gv := by omega
                have hgv2 : gv ≤ 20 := by omega
                obtain ⟨c, hc⟩ : ∃ c, c = codeOf S (x : Int) := ⟨_, rfl⟩
                have HC := Lib.hid hc
                have HAA := Lib.hid haa
                rw [← hc] at hbx hcc hc0 hstep hW2
                have HST := Lib.hid hstep
                obtain ⟨sf, hsf⟩ : ∃ v, v = (L.getD a arcD).fr := ⟨_, rfl⟩
                obtain ⟨st, hst⟩ : ∃ v, v = (L.getD a arcD).to := ⟨_, rfl⟩
                rw [← hsf] at a0
                rw [← hst] at a1
                have HSF := Lib.hid hsf
                have HSTT := Lib.hid hst
                have HO := Lib.hid hO
                have HB := Lib.hid hB
                have hxI : (x : Int) < (nn : Int) := by omega
                have hx0 : (0 : Int) ≤ (x : Int) := by omega
                have haI : (a : Int) < (F.length : Int) := by omega
                have hgs := HG.out.size
                have hgne : ¬ go = g := by omega
                have hgne2 : ¬ go = w.heap.size := by omega
                have k0 : ∀ y, (wr.setCell ⟨go, a, none⟩ y).cell? ⟨g, o + a * 5, none⟩ = some (.int .i64 sf) := fun y => (cell_keep (Below.heap_setCell _ _ _ _ (by show g ≠ go; omega)) _).trans a0
                have k1 : ∀ y, (wr.setCell ⟨go, a, none⟩ y).cell? ⟨g, o + a * 5 + 1, none⟩ = some (.int .i64 st) := fun y => (cell_keep (Below.heap_setCell _ _ _ _ (by show g ≠ go; omega)) _).trans a1
                have k2 : ∀ y, (wr.setCell ⟨go, a, none⟩ y).cell? ⟨w.heap.size, 1, none⟩ = some (.slice (some ⟨g, o, none⟩) L.length cA) := fun y => (cell_keep (Below.heap_setCell _ _ _ _ (by show w.heap.size ≠ go; omega)) _).trans n1
                have haL : (a : Int) < (L.length : Int) := by omega
                have ha0 : (0 : Int) ≤ (a : Int) := by omega
                have ha16 : (a : Int) ≤ 16 := by omega
                have haT : ((a : Int)).toNat = a := by omega
                have hfin : Hid (∀ y : Int, (y = gv + 1 ∧ 0 < c ∨ y = gv - 1 ∧ ¬ 0 < c) → (app1 G c = G.set a y) ∧ ∀ k, k < L.length → (m : Int) - nn ≤ (G.set a y).getD k 0 ∧ (G.set a y).getD k 0 ≤ 9 + nn - m) := fun y hy => by
                  refine ⟨?_, fun k hk => ?_⟩
                  · unfold app1
                    rw [HC.out, ← HAA.out, ← HC.out, ← HGV.out]
                    rcases hy with ⟨rfl, h⟩ | ⟨rfl, h⟩
                    · rw [if_pos h]
                    · rw [if_neg h]
                  · rw [getD_set_int _ _ _ _ haG]
                    have := hbd.out k hk
                    split
                    · omega
                    · omega
                clear hc haa hx hsf hst hO hB hgv hstep hcc hN
                rw [HX.out]
                by_cases hpos : 0 < c
                · obtain rfl : c = (a : Int) + 1 := by rw [HAA.out, ← HC.out]; unfold arcNo; rw [if_pos hpos]; omega
                  clear hc0 hxf k1 a1
                  have kk0 := k0 (.int .i64 (gv + 1))
                  have kk2 := k2 (.int .i64 (gv + 1))
                  clear k0 k2
                  obtain ⟨hf1, hf2⟩ := hfin.out (gv + 1) (.inl ⟨rfl, hpos⟩)
                  have HF1 := Lib.hid hf1
                  have HF2 := Lib.hid hf2
                  clear hf1 hf2 hfin hba
                  go_wp2_with fail
                  go_roundw
                  case rel =>
                    have e9 : sf = (S.getD q (0, 0)).1 := by rw [HSF.out, ← HST.out]; unfold stepBack; rw [if_pos hpos, HC.out, ← HAA.out]
                    exact ⟨q, m, G.set a (gv + 1), by omega, by omega, by omega, by rw [e9], by show _ = _; rw [List.length_set]; exact hGl.out, HO.out.set' a _, HB.out.setCell (p := ⟨go, a, none⟩) hgo _, HF2.out, by show _ = _; rw [← HF1.out]; exact hW2.out⟩
                  case measure =>
                    have e9 : sf = (S.getD q (0, 0)).1 := by rw [HSF.out, ← HST.out]; unfold stepBack; rw [if_pos hpos, HC.out, ← HAA.out]
                    simp only [intOf]
                    rw [e9, ← HX.out, idx_at HS.out.nd q (by omega), idx_at HS.out.nd p hp]
                    omega
                · have hce : -c - 1 = (a : Int) := by rw [HAA.out, ← HC.out]; unfold arcNo; rw [if_neg hpos]; omega
                  have hc1 : -20 ≤ c := by omega
                  have hc2 : c ≤ 0 := by omega
                  clear HP n0
                  clear hc0 hxf k0 a0
                  have kk1 := k1 (.int .i64 (gv - 1))
                  have kk2 := k2 (.int .i64 (gv - 1))
                  clear k1 k2
                  obtain ⟨hf1, hf2⟩ := hfin.out (gv - 1) (.inr ⟨rfl, hpos⟩)
                  have HF1 := Lib.hid hf1
                  have HF2 := Lib.hid hf2
                  clear hf1 hf2 hfin hba
                  go_wp2_with fail
                  go_roundw
                  case rel =>
                    have e9 : st = (S.getD q (0, 0)).1 := by rw [HSTT.out, ← HST.out]; unfold stepBack; rw [if_neg hpos, HC.out, ← HAA.out]
                    exact ⟨q, m, G.set a (gv - 1), by omega, by omega, by omega, by rw [e9], by show _ = _; rw [List.length_set]; exact hGl.out, HO.out.set' a _, HB.out.setCell (p := ⟨go, a, none⟩) hgo _, HF2.out, by show _ = _; rw [← HF1.out]; exact hW2.out⟩
                  case measure =>
                    have e9 : st = (S.getD q (0, 0)).1 := by rw [HSTT.out, ← HST.out]; unfold stepBack; rw [if_neg hpos, HC.out, ← HAA.out]
                    simp only [intOf]
                    rw [e9, ← HX.out, idx_at HS.out.nd q (by omega), idx_at HS.out.nd p hp]
                    omega
end Go.Proofs.Ythglnmhcgagkdaa
