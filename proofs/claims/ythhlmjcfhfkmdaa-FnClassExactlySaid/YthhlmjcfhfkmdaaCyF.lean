/- The walk of faultsOf: how many faults it returns. -/
import Derived.Test.YthhlmjcfhfkmdaaCyD
import Derived.Test.YthhlmjcfhfkmdaaCyS
import Derived.StillTailTactics
import Derived.Deep.QuietTactic
import Derived.BigQuiet
namespace Go.Proofs.Ythhlmjcfhfkmdaa.Cx
open Go.RowKit Go.Proofs.Ythhlmjcfhfkmdaa.PFnClassExactly Go.Proofs.YthhlmjcfhfkmdaaW.PrintWords Go.Proofs.YthhlmjcfhfkmdaaW.PrintLast Go.Proofs.YthhlmjcfhfkmdaaW.PrintMore
set_option linter.unusedVariables false
set_option linter.unusedSimpArgs false

/-- A pair that is made behind a row of pairs is none of its blocks; the row stands. -/
theorem pair_lit {w0 W w1 : World} {B : Nat} {v vp : Value} {xs : List Int} {rows : List (List Int)} (ho : Kd.R (Kd.int .i64) 3 w1 W.heap.size (fun _ => True) vp xs) (hb : Below W.heap.size W w1)
    (hr : Kd.R (Kd.slice 3 (Kd.int .i64)) 24 W B (fun _ => True) v rows) (hB : Below B w0 W) (hs : B ≤ W.heap.size) :
    Kd.R (Kd.int .i64) 3 w1 B (fun k => some k ≠ v.ownBlock) vp xs ∧ Kd.R (Kd.slice 3 (Kd.int .i64)) 24 w1 B (fun _ => True) v rows ∧ Below B w0 w1 ∧ B ≤ w1.heap.size := by
  refine ⟨Kd.R_lower (Kd.R_mono (Kd.R_bound ho) (fun k hk he => ?_)) hs, Kd.R_below hr hb, below_on hB hs hb, Nat.le_trans hs hb.size⟩
  have h1 := (Kd.R_bound hr).1 k he.symm
  have h2 := hk.2.1
  have h3 := h1.2.2.1
  omega
theorem nn_new {v : Value} {n : Nat} (h : ∃ b, v.ownBlock = some b ∧ n ≤ b) : v.ownBlock.isSome = true := by
  obtain ⟨b, hb, _⟩ := h
  rw [hb]; rfl
theorem nn_app {v v1 : Value} {n : Nat} (h : v1.ownBlock = v.ownBlock ∨ ∃ b, v1.ownBlock = some b ∧ n ≤ b) (hv : v.ownBlock.isSome = true) : v1.ownBlock.isSome = true := by
  rcases h with h | h
  · rw [h]; exact hv
  · exact nn_new h
set_option maxHeartbeats 8000000 in
set_option maxRecDepth 100000 in
theorem faults_c (Ap : Option Addr) (cp : Nat) (x : S40) (A1 : Option Addr) (c1 : Nat) (l : List S58) (A2 : Option Addr) (c2 : Nat) (sh : List S80) (a0 a1 a2 m : Int) (w : World)
    (hp : Kd.C (Kd.int .i64) w Ap x.f0.length x.f0) (hcp : x.f0.length ≤ cp) (hr1 : Kd.C k58 w A1 l.length l) (hc1 : l.length ≤ c1) (hr2 : Kd.C k80 w A2 sh.length sh) (hc2 : sh.length ≤ c2)
    (hx : x.f0.length ≤ 20) (hrep : 0 ≤ x.f1 ∧ x.f1 ≤ 20) (hl : l.length ≤ 1000) (hlok : ∀ y ∈ l, okN y = true) (hs : sh.length ≤ 1000) (hok : ∀ h ∈ sh, okH h = true) (ha0 : 0 ≤ a0 ∧ a0 ≤ 40) (ha1 : 0 ≤ a1 ∧ a1 ≤ 40) :
    Calls Try.prog 41 #[.agg #[.slice Ap x.f0.length cp, .int .i64 x.f1], .slice A1 l.length c1, .slice A2 sh.length c2, .agg #[.int .i64 a0, .int .i64 a1, .int .i64 a2], .int .i64 m] w fun e w' => ∃ A c, e = .returned (.slice A (faultRows m x l sh a0 a1 a2).length c) ∧ Below w.heap.size w w' := by
  have HP := Aside0.mk hp
  have HR1 := Aside0.mk hr1
  have HR2 := Aside0.mk hr2
  have HOk := Aside0.mk hok
  have HLok := Aside0.mk hlok
  have HB := Aside0.mk (And.intro hrep (And.intro ha0 ha1))
  clear hp hr1 hr2 hok hlok hrep ha0 ha1
  have hu40 := Try.underlying40
  have hu37 := Try.underlying37
  have hu80 := Try.underlying80
  have hu58 := Try.underlying58
  go_enter Try.func41, Try.ntmps41
  go_upto_region 1 with (first | ((with_reducible refine gate_dst (N := 5) rfl ?_); refine box_event ?hg (N := 5) ?hd (cs := #[.slice Ap x.f0.length cp, .int .i64 x.f1]) (t := 40) ?hr ?_; (case hd => rfl); (case hg => rfl); (case hr => first | (go_simp; done) | (go_simp; rfl)); intro gi hg w1 hbox hb; have BI := Aside0.mk hbox; have HB1 := Aside0.mk hb; clear hg hbox hb) | ((with_reducible refine gate_dst (N := 8) rfl ?_); refine box_event ?hg (N := 8) ?hd (cs := #[.int .i64 a0, .int .i64 a1, .int .i64 a2]) (t := 37) ?hr ?_; (case hd => rfl); (case hg => rfl); (case hr => first | (go_simp; done) | (go_simp; rfl)); intro ga hg w2 hbox hb; have BA := Aside0.mk hbox; have BI2 := Aside0.mk (blk_below BI.out hb); have HB2 := Aside0.mk (below_on HB1.out HB1.out.size hb); clear hg hbox hb))
  have hI0 : w2.cell? ⟨gi, 0, none⟩ = some (.slice Ap x.f0.length cp) := (blk_cell BI2.out 0).trans rfl
  have hI1 : w2.cell? ⟨gi, 1, none⟩ = some (.int .i64 x.f1) := (blk_cell BI2.out 1).trans rfl
  go_wp2_with fail
  refine (matched_c Ap cp x A1 c1 l A2 c2 sh w2 (Kd.C_below HP.out HB2.out) hcp (Kd.C_below HR1.out HB2.out) hc1 (Kd.C_below HR2.out HB2.out) hc2 hx hl hs (fun h hh => (okH_bd (HOk.out h hh)).1)).mono ?_
  rintro e wm ⟨v1, v2, rfl, hv1, hv2, hb⟩
  have HH := Aside0.mk hv1
  have HX := Aside0.mk hv2
  have HBM := Aside0.mk (below_on HB2.out HB2.out.size hb)
  have BIM := Aside0.mk (blk_below BI2.out hb)
  have BAM := Aside0.mk (blk_below BA.out hb)
  clear hv1 hv2 hb hI0 hI1 BI BI2 BA HB1 HB2
  obtain ⟨Ah, ch, rfl⟩ := Kd.R_slice HH.out
  obtain ⟨Ax, cx, rfl⟩ := Kd.R_slice HX.out
  have HHR := Aside0.mk (Kd.R_reads' HH.out).2.2
  have HXR := Aside0.mk (Kd.R_reads' HX.out).2.2
  have hhl : (holesOf x.f0 sh l).length = l.length := holes_len _ _ _
  have hfl : (freeFrom 0 (usedOf x.f0 sh l)).length ≤ sh.length := freed_len _ _ _
  go_upto_region 3 with ((with_reducible refine gate_dst (N := 30) rfl ?_); refine Kd.R_lit (Kd.slice 3 (Kd.int .i64)) _ 24 ?hg (N := 30) ?hd (xs := ([] : List (List Int))) (inner := []) (ok := fun _ => True) (okp := fun _ => True) ?hr ?hp (fun _ hk => hk) trivial (Below.refl _ _) (Nat.le_refl _) (by simp) ?_; (case hd => rfl); (case hg => rfl); (case hr => first | (go_simp; done) | (go_simp; rfl)); (case hp => exact (Reps.none _ _)); intro vo wn ho hb hg_ hnew_; have HNO := Aside0.mk (nn_new hnew_); clear hg_ hnew_; have HO := Aside0.mk ho; have HBN := Aside0.mk hb; clear ho hb)
  obtain ⟨B2, hB2⟩ : ∃ b, b = wm.heap.size := ⟨_, rfl⟩
  rw [← hB2] at HO HBN
  have HBE := Aside0.mk hB2
  have HBB := Aside0.mk (show w.heap.size ≤ B2 ∧ gi < B2 ∧ ga < B2 from ⟨by rw [hB2]; exact HBM.out.size, by rw [hB2]; exact blk_lt BIM.out, by rw [hB2]; exact blk_lt BAM.out⟩)
  have HSN := Aside0.mk (show B2 ≤ wn.heap.size by rw [hB2]; exact hB2 ▸ HBN.out.size)
  have HKB := Aside0.mk (holes_bd x.f0 sh l)
  have HFL := Aside0.mk hfl
  have HSi := Aside0.mk (silent_len x a0 a1 a2 sh)
  clear hB2 hfl
  go_wp2_with fail
  go_loopg [13, 33] l.length (fun gk v13 v33 wr => ∃ (pre suf : List S58) (kpre ksuf : List Int) (rows : List (List Int)), Aside0 (l = pre ++ suf) ∧ Aside0 (holesOf x.f0 sh l = kpre ++ ksuf ∧ kpre.length = pre.length ∧ ksuf.length = suf.length) ∧ v33 = .int .i64 (pre.length : Int) ∧ Aside0 (gk = suf.length) ∧ Aside0 (rows.length ≤ 2 * pre.length ∧ noteRows m x l sh = rows ++ rowsFrom m sh pre.length suf ksuf) ∧ Aside0 (Kd.R (Kd.slice 3 (Kd.int .i64)) 24 wr B2 (fun _ => True) v13 rows) ∧ Aside0 (Below B2 wm wr) ∧ Aside0 (B2 ≤ wr.heap.size) ∧ Aside0 (v13.ownBlock.isSome = true))
  case atStart => exact ⟨[], l, [], holesOf x.f0 sh l, [], ⟨rfl⟩, ⟨rfl, rfl, hhl⟩, rfl, ⟨rfl⟩, ⟨by simp, rfl⟩, HO, HBN, HSN, HNO⟩
  case round =>
    clear HO HBN HSN HNO
    obtain ⟨pre, suf, kpre, ksuf, rows, HE, HK, rfl, HG, HM, HO, HBR, HSZ, HNN⟩ := hrel
    cases suf with
    | nil =>
      have hlt2 : ¬ pre.length < l.length := by have := HE.out; rw [this]; simp
      have hle2 : pre.length ≤ l.length := by have := HE.out; rw [this]; simp
      have HM1 := Aside0.mk (show noteRows m x l sh = rows ∧ rows.length ≤ 2000 from by
        have hm := HM.out
        refine ⟨by rw [hm.2]; simp [rowsFrom], by have := hm.1; omega⟩)
      go_wp2_with fail
      go_loopg [13, 79] (freeFrom 0 (usedOf x.f0 sh l)).length (fun gk v13 v79 wr => ∃ (fp fs : List Int) (rows2 : List (List Int)), Aside0 (freeFrom 0 (usedOf x.f0 sh l) = fp ++ fs) ∧ v79 = .int .i64 (fp.length : Int) ∧ Aside0 (gk = fs.length) ∧ Aside0 (rows2 = rows ++ fp.map (fun k => [1, k])) ∧ Aside0 (Kd.R (Kd.slice 3 (Kd.int .i64)) 24 wr B2 (fun _ => True) v13 rows2) ∧ Aside0 (Below B2 wm wr) ∧ Aside0 (B2 ≤ wr.heap.size) ∧ Aside0 (v13.ownBlock.isSome = true))
      case atStart => exact ⟨[], _, rows, ⟨rfl⟩, rfl, ⟨rfl⟩, ⟨by simp⟩, HO, HBR, HSZ, HNN⟩
      case round =>
        clear HO HBR HSZ HNN
        obtain ⟨fp, fs, rows2, HE2, rfl, HG2, HM2, HO2, HB2, HS2, HN2⟩ := hrel
        have hfl := HFL.out
        have HRL := Aside0.mk (show rows2.length ≤ 3000 by
          have h1 := congrArg List.length HE2.out
          rw [HM2.out]; simp at h1 ⊢; have := HM1.out.2; omega)
        cases fs with
        | nil =>
          have hlt3 : ¬ fp.length < (freeFrom 0 (usedOf x.f0 sh l)).length := by have := HE2.out; rw [this]; simp
          have hle3 : fp.length ≤ (freeFrom 0 (usedOf x.f0 sh l)).length := by have := HE2.out; rw [this]; simp
          have BIR := Aside0.mk ((HB2.out.block gi HBB.out.2.1).trans BIM.out)
          have BAR := Aside0.mk ((HB2.out.block ga HBB.out.2.2).trans BAM.out)
          have hI0 : wr.cell? ⟨gi, 0, none⟩ = some (.slice Ap x.f0.length cp) := (blk_cell BIR.out 0).trans rfl
          have hI1 : wr.cell? ⟨gi, 1, none⟩ = some (.int .i64 x.f1) := (blk_cell BIR.out 1).trans rfl
          have hA0 : wr.cell? ⟨ga, 0, none⟩ = some (.int .i64 a0) := (blk_cell BAR.out 0).trans rfl
          have hA1 : wr.cell? ⟨ga, 1, none⟩ = some (.int .i64 a1) := (blk_cell BAR.out 1).trans rfl
          have hA2 : wr.cell? ⟨ga, 2, none⟩ = some (.int .i64 a2) := (blk_cell BAR.out 2).trans rfl
          clear hfl
          go_wp2_with fail
          have HBW := Aside0.mk (HBM.out.trans (HB2.out.mono HBB.out.1))
          refine (ipy_c Ap cp x A2 c2 sh a0 a1 a2 wr (Kd.C_below HP.out HBW.out) hcp (Kd.C_below HR2.out HBW.out) hc2 hx HB.out.1 hs HOk.out HB.out.2.1 HB.out.2.2).mono ?_
          rintro e w5 ⟨v94, v95, rfl, hv1, hv2, hb⟩
          have HSR5 := Aside0.mk (Kd.R_lower hv2 HS2.out)
          have HO5 := Aside0.mk (Kd.R_below HO2.out hb)
          have HB5 := Aside0.mk (below_on HB2.out HS2.out hb)
          have HS5 := Aside0.mk (show B2 ≤ w5.heap.size from Nat.le_trans HS2.out hb.size)
          clear hv1 hv2 hb hI0 hI1 hA0 hA1 hA2
          obtain ⟨Asl, csl, rfl⟩ := Kd.R_slice HSR5.out
          go_wp2_with fail
          go_loopg [13, 98] (spoke x a0 a1 a2 sh).2.length (fun gk v13 v98 wr => ∃ (sp ss : List Int) (rows3 : List (List Int)), Aside0 ((spoke x a0 a1 a2 sh).2 = sp ++ ss) ∧ v98 = .int .i64 (sp.length : Int) ∧ Aside0 (gk = ss.length) ∧ Aside0 (rows3 = rows2 ++ sp.map (fun k => [4, k])) ∧ Aside0 (Kd.R (Kd.slice 3 (Kd.int .i64)) 24 wr B2 (fun _ => True) v13 rows3) ∧ Aside0 (Kd.R (Kd.int .i64) 3 wr B2 (fun _ => True) (.slice Asl (spoke x a0 a1 a2 sh).2.length csl) (spoke x a0 a1 a2 sh).2) ∧ Aside0 (Below B2 wm wr) ∧ Aside0 (B2 ≤ wr.heap.size) ∧ Aside0 (v13.ownBlock.isSome = true))
          case atStart => exact ⟨[], _, rows2, ⟨rfl⟩, rfl, ⟨rfl⟩, ⟨by simp⟩, HO5, HSR5, HB5, HS5, HN2⟩
          case round =>
            clear HO5 HSR5 HB5 HS5 HO2 HB2 HS2 HN2
            obtain ⟨sp, ss, rows3, HE3, rfl, HG3, HM3, HO3, HSR, HB3, HS3, HN3⟩ := hrel
            have hsl := HSi.out
            have HRL3 := Aside0.mk HRL.out
            clear HRL
            have HRL := Aside0.mk (show rows3.length ≤ 4000 by
              have h1 := congrArg List.length HE3.out
              rw [HM3.out]; simp at h1 ⊢; have := HRL3.out; omega)
            cases ss with
            | nil =>
              have hlt4 : ¬ sp.length < (spoke x a0 a1 a2 sh).2.length := by have := HE3.out; rw [this]; simp
              have hle4 : sp.length ≤ (spoke x a0 a1 a2 sh).2.length := by have := HE3.out; rw [this]; simp
              have HTot := Aside0.mk (show rows3 = faultRows m x l sh a0 a1 a2 from by
                have h1 := HE2.out
                have h2 := HE3.out
                rw [List.append_nil] at h1 h2
                unfold faultRows
                rw [HM3.out, HM2.out, HM1.out.1, h1, h2])
              clear hsl
              go_wp2_with fail
              refine (sort_rows_c B2 u13 rows3 wr HO3.out HN3.out HS3.out (by rw [HTot.out]; exact fault_two _ _ _ _ _ _ _) (by have := HRL.out; omega)).mono ?_
              rintro e w9 ⟨rfl, hb⟩
              have HB9 := Aside0.mk (hb wm HB3.out)
              clear hb
              obtain ⟨Av, cv, rfl⟩ := Kd.R_slice HO3.out
              go_wp2_with fail
              go_ret
              exact ⟨Av, cv, by rw [← HTot.out]; rfl, HBM.out.trans (HB9.out.mono HBB.out.1)⟩
            | cons k ss =>
              have hlt4 : sp.length < (spoke x a0 a1 a2 sh).2.length := by have := HE3.out; rw [this]; simp
              obtain ⟨ads, e, hk0⟩ := Kd.at_int (Kd.R_reads' HSR.out).2.2 (sp.length : Int) (by omega) (by omega)
              cases e
              rw [show rd (spoke x a0 a1 a2 sh).2 (sp.length : Int) = k by rw [HE3.out]; exact rd_at sp ss k, Int.toNat_natCast] at hk0
              obtain ⟨Av, cv, rfl⟩ := Kd.R_slice HO3.out
              go_wp2_with (first | ((with_reducible refine gate_dst (N := 104) rfl ?_); refine Kd.R_lit (Kd.int .i64) _ 3 ?hg (N := 104) ?hd (xs := [4, k]) (inner := [.int .i64 4, .int .i64 k]) (ok := fun _ => True) (okp := fun _ => True) ?hr ?hp (fun _ hk => hk) trivial (Below.refl _ _) (Nat.le_refl _) (by simp) ?_; (case hd => rfl); (case hg => rfl); (case hr => first | (go_simp; done) | (go_simp; rfl)); (case hp => exact (Reps.one (show Kd.M (Kd.int .i64) _ _ _ 4 [.int .i64 4] from rfl) (Reps.one (show Kd.M (Kd.int .i64) _ _ _ k [.int .i64 k] from rfl) (Reps.none _ _)))); intro vp wp ho hb hg_ hnew_; clear hg_ hnew_; have HLit := Aside0.mk (pair_lit ho hb (by (with_reducible repeat apply Kd.R_drewN); exact HO3.out) (by (repeat apply pw_below_drewN); exact HB3.out) HS3.out); have HSL := Aside0.mk (Kd.R_below (by (with_reducible repeat apply Kd.R_drewN); exact HSR.out) hb); clear ho hb; (obtain ⟨Ap_, cp_, eap_⟩ := Kd.R_slice HLit.out.1); subst eap_) | (at_builtin; refine Kd.R_append (Kd.slice 3 (Kd.int .i64)) (w0 := wm) B2 rfl (.tmp 102) (.tmp 105) 71 24 (.slice none 0 0) 24 rfl Try.underlying71 info24 rfl (by decide) (by omega) _ rows3 [4, k] [.slice Ap_ [4, k].length cp_] (fun _ => True) (fun k => some k ≠ (Value.slice Av rows3.length cv).ownBlock) rfl rfl ?aP (fun _ hk => ⟨trivial, hk⟩) ?aF ?aO ?aB ?aS ?aL ?_; (case aP => exact Kd.M_row (by (with_reducible repeat apply Kd.R_drewN); exact HLit.out.1)); (case aB => exact (by (repeat apply pw_below_drewN); exact HLit.out.2.2.1)); (case aF => exact (fun _ _ => trivial)); (case aO => exact (by (with_reducible repeat apply Kd.R_drewN); exact HLit.out.2.1)); (case aS => exact HLit.out.2.2.2); (case aL => have := HRL.out; omega); intro vo' wo ho hb9 hg9_ hat9_; have HNN9 := Aside0.mk (nn_app hat9_ HN3.out); have HSR9 := Aside0.mk (Kd.R_mono (Kd.R_grown (Kd.R_apartR (show Kd.R (Kd.int .i64) 3 _ B2 (fun _ => True) _ (spoke x a0 a1 a2 sh).2 from by (with_reducible repeat apply Kd.R_drewN); exact HSL.out) (show Kd.R (Kd.slice 3 (Kd.int .i64)) 24 _ B2 (fun _ => True) _ rows3 from by (with_reducible repeat apply Kd.R_drewN); exact HLit.out.2.1) (by decide)) hg9_ (fun k hk => hk.2)) (fun _ _ => (trivial : (fun _ : Nat => True) _))); have HO9 := Aside0.mk ho; have HB9 := Aside0.mk hb9; have HS9 := Aside0.mk (show B2 ≤ wo.heap.size by rw [HBE.out]; exact Below.size hb9); clear ho hb9))
              go_roundg ss.length
              case measure => have := HG3.out; simp at this; omega
              case rel => exact ⟨sp ++ [k], ss, rows3 ++ [[4, k]], ⟨by rw [HE3.out]; simp⟩, by simp, ⟨rfl⟩, ⟨by rw [HM3.out]; simp⟩, HO9, HSR9, HB9, HS9, HNN9⟩
        | cons k fs =>
          have hlt3 : fp.length < (freeFrom 0 (usedOf x.f0 sh l)).length := by have := HE2.out; rw [this]; simp
          obtain ⟨ads, e, hk0⟩ := Kd.at_int HXR.out (fp.length : Int) (by omega) (by omega)
          cases e
          rw [show rd (freeFrom 0 (usedOf x.f0 sh l)) (fp.length : Int) = k by rw [HE2.out]; exact rd_at fp fs k] at hk0
          replace hk0 := (HB2.out.cell (HBE.out ▸ World.block_lt_of_cell? wm _ hk0)).trans hk0
          rw [Int.toNat_natCast] at hk0
          obtain ⟨Av, cv, rfl⟩ := Kd.R_slice HO2.out
          go_wp2_with (first | ((with_reducible refine gate_dst (N := 85) rfl ?_); refine Kd.R_lit (Kd.int .i64) _ 3 ?hg (N := 85) ?hd (xs := [1, k]) (inner := [.int .i64 1, .int .i64 k]) (ok := fun _ => True) (okp := fun _ => True) ?hr ?hp (fun _ hk => hk) trivial (Below.refl _ _) (Nat.le_refl _) (by simp) ?_; (case hd => rfl); (case hg => rfl); (case hr => first | (go_simp; done) | (go_simp; rfl)); (case hp => exact (Reps.one (show Kd.M (Kd.int .i64) _ _ _ 1 [.int .i64 1] from rfl) (Reps.one (show Kd.M (Kd.int .i64) _ _ _ k [.int .i64 k] from rfl) (Reps.none _ _)))); intro vp wp ho hb hg_ hnew_; clear hg_ hnew_; have HLit := Aside0.mk (pair_lit ho hb (by (with_reducible repeat apply Kd.R_drewN); exact HO2.out) (by (repeat apply pw_below_drewN); exact HB2.out) HS2.out); clear ho hb; (obtain ⟨Ap_, cp_, eap_⟩ := Kd.R_slice HLit.out.1); subst eap_) | (at_builtin; refine Kd.R_append (Kd.slice 3 (Kd.int .i64)) (w0 := wm) B2 rfl (.tmp 83) (.tmp 86) 71 24 (.slice none 0 0) 24 rfl Try.underlying71 info24 rfl (by decide) (by omega) _ rows2 [1, k] [.slice Ap_ [1, k].length cp_] (fun _ => True) (fun k => some k ≠ (Value.slice Av rows2.length cv).ownBlock) rfl rfl ?aP (fun _ hk => ⟨trivial, hk⟩) ?aF ?aO ?aB ?aS ?aL ?_; (case aP => exact Kd.M_row (by (with_reducible repeat apply Kd.R_drewN); exact HLit.out.1)); (case aB => exact (by (repeat apply pw_below_drewN); exact HLit.out.2.2.1)); (case aF => exact (fun _ _ => trivial)); (case aO => exact (by (with_reducible repeat apply Kd.R_drewN); exact HLit.out.2.1)); (case aS => exact HLit.out.2.2.2); (case aL => have := HRL.out; omega); intro vo' wo ho hb9 hg9_ hat9_; have HNN9 := Aside0.mk (nn_app hat9_ HN2.out); have HO9 := Aside0.mk ho; have HB9 := Aside0.mk hb9; have HS9 := Aside0.mk (show B2 ≤ wo.heap.size by rw [HBE.out]; exact Below.size hb9); clear ho hb9))
          go_roundg fs.length
          case measure => have := HG2.out; simp at this; omega
          case rel => exact ⟨fp ++ [k], fs, rows2 ++ [[1, k]], ⟨by rw [HE2.out]; simp⟩, by simp, ⟨rfl⟩, ⟨by rw [HM2.out]; simp⟩, HO9, HB9, HS9, HNN9⟩
    | cons y suf =>
      have hlt2 : pre.length < l.length := by have := HE.out; rw [this]; simp
      obtain ⟨k, ksuf, rfl⟩ : ∃ k r, ksuf = k :: r := by
        cases ksuf with
        | nil => have := HK.out.2.2; simp at this
        | cons k r => exact ⟨k, r, rfl⟩
      obtain ⟨adh, e, hk0⟩ := Kd.at_int HHR.out (pre.length : Int) (by omega) (by rw [hhl]; omega)
      cases e
      rw [show rd (holesOf x.f0 sh l) (pre.length : Int) = k by rw [HK.out.1, ← HK.out.2.1]; exact rd_at kpre ksuf k] at hk0
      replace hk0 := (HBR.out.cell (HBE.out ▸ World.block_lt_of_cell? wm _ hk0)).trans hk0
      rw [Int.toNat_natCast] at hk0
      have HRL := Aside0.mk (show rows.length ≤ 2000 by have := HM.out.1; omega)
      have hkb := HKB.out k (by rw [HK.out.1]; simp)
      by_cases hkn : k < 0
      · have HM2 := Aside0.mk (show (rows ++ [[0, (pre.length : Int)]]).length ≤ 2 * (pre ++ [y]).length ∧ noteRows m x l sh = (rows ++ [[0, (pre.length : Int)]]) ++ rowsFrom m sh (pre ++ [y]).length suf ksuf from by
          have hm := HM.out
          refine ⟨by have := hm.1; simp; omega, ?_⟩
          rw [hm.2]; simp [rowsFrom, pairRows, hkn])
        clear hkb
        obtain ⟨Av, cv, rfl⟩ := Kd.R_slice HO.out
        go_wp2_with (first | ((with_reducible refine gate_dst (N := 42) rfl ?_); refine Kd.R_lit (Kd.int .i64) _ 3 ?hg (N := 42) ?hd (xs := [0, (pre.length : Int)]) (inner := [.int .i64 0, .int .i64 (pre.length : Int)]) (ok := fun _ => True) (okp := fun _ => True) ?hr ?hp (fun _ hk => hk) trivial (Below.refl _ _) (Nat.le_refl _) (by simp) ?_; (case hd => rfl); (case hg => rfl); (case hr => first | (go_simp; done) | (go_simp; rfl)); (case hp => exact (Reps.one (show Kd.M (Kd.int .i64) _ _ _ 0 [.int .i64 0] from rfl) (Reps.one (show Kd.M (Kd.int .i64) _ _ _ (pre.length : Int) [.int .i64 (pre.length : Int)] from rfl) (Reps.none _ _)))); intro vp wp ho hb hg_ hnew_; clear hg_ hnew_; have HLit := Aside0.mk (pair_lit ho hb (by (with_reducible repeat apply Kd.R_drewN); exact HO.out) (by (repeat apply pw_below_drewN); exact HBR.out) HSZ.out); clear ho hb; (obtain ⟨Ap_, cp_, eap_⟩ := Kd.R_slice HLit.out.1); subst eap_) | (at_builtin; refine Kd.R_append (Kd.slice 3 (Kd.int .i64)) (w0 := wm) B2 rfl (.tmp 40) (.tmp 43) 71 24 (.slice none 0 0) 24 rfl Try.underlying71 info24 rfl (by decide) (by omega) _ rows [0, (pre.length : Int)] [.slice Ap_ [0, (pre.length : Int)].length cp_] (fun _ => True) (fun k => some k ≠ (Value.slice Av rows.length cv).ownBlock) rfl rfl ?aP (fun _ hk => ⟨trivial, hk⟩) ?aF ?aO ?aB ?aS ?aL ?_; (case aP => exact Kd.M_row (by (with_reducible repeat apply Kd.R_drewN); exact HLit.out.1)); (case aB => exact (by (repeat apply pw_below_drewN); exact HLit.out.2.2.1)); (case aF => exact (fun _ _ => trivial)); (case aO => exact (by (with_reducible repeat apply Kd.R_drewN); exact HLit.out.2.1)); (case aS => exact HLit.out.2.2.2); (case aL => have := HRL.out; omega); intro vo' wo ho hb9 hg9_ hat9_; have HNN9 := Aside0.mk (nn_app hat9_ HNN.out); have HO9 := Aside0.mk ho; have HB9 := Aside0.mk hb9; have HS9 := Aside0.mk (show B2 ≤ wo.heap.size by rw [HBE.out]; exact Below.size hb9); clear ho hb9))
        go_roundg suf.length
        case measure => have := HG.out; simp at this; omega
        case rel => exact ⟨pre ++ [y], suf, kpre ++ [k], ksuf, _, ⟨by rw [HE.out]; simp⟩, ⟨by rw [HK.out.1]; simp, by simp [HK.out.2.1], by have := HK.out.2.2; simp at this; exact this⟩, by simp, ⟨rfl⟩, HM2, HO9, HB9, HS9, HNN9⟩
      · obtain ⟨hk1, hk2⟩ : 0 ≤ k ∧ k < (sh.length : Int) := by rcases hkb with h | h <;> omega
        have HKN := Aside0.mk hkn
        clear hkb
        obtain ⟨adn, e, hy0, hy1, hy2⟩ := at_T58 HR1.out (pre.length : Int) (by omega) (by omega)
        cases e
        rw [show rd_T58 l (pre.length : Int) = y by rw [HE.out]; exact rd58_at pre suf y] at hy0 hy1 hy2
        obtain ⟨ads, e, hz0, hz1, hz2⟩ := at_T80 HR2.out k hk1 hk2
        cases e
        have hbw := HBM.out.trans (HBR.out.mono HBB.out.1)
        replace hy0 := (hbw.cell (World.block_lt_of_cell? w _ hy0)).trans hy0
        replace hy1 := (hbw.cell (World.block_lt_of_cell? w _ hy1)).trans hy1
        replace hy2 := (hbw.cell (World.block_lt_of_cell? w _ hy2)).trans hy2
        replace hz0 := (hbw.cell (World.block_lt_of_cell? w _ hz0)).trans hz0
        replace hz1 := (hbw.cell (World.block_lt_of_cell? w _ hz1)).trans hz1
        replace hz2 := (hbw.cell (World.block_lt_of_cell? w _ hz2)).trans hz2
        rw [Int.toNat_natCast] at hy0 hy1 hy2
        have hYok := HLok.out y (by rw [HE.out]; simp)
        have hHok : okH (rd_T80 sh k) = true := HOk.out _ (by
          have hkn2 : k.toNat < sh.length := by omega
          unfold rd_T80
          rw [List.getD_eq_getElem?_getD, List.getElem?_eq_getElem hkn2]
          exact List.getElem_mem hkn2)
        have HYok := Aside0.mk (And.intro hYok hHok)
        have HDV := Aside0.mk (dev_bd hYok hHok)
        clear hbw hYok hHok
        go_upto_region 8 with (fail)
        go_still_tail 8, (by kernel_rfl)
        change wpList _ _ _ _ _ wr.drew
        have HOD := Aside0.mk (Kd.R_below HO.out (below_drew1 (Below.refl wr.heap.size wr)))
        have HBD := Aside0.mk (below_drew1 HBR.out)
        have HSD := Aside0.mk (show B2 ≤ wr.drew.heap.size from HSZ.out)
        obtain ⟨wq, hwq⟩ : ∃ wq, wq = wr.drew := ⟨_, rfl⟩
        rw [← hwq] at HOD HBD HSD ⊢
        clear hwq hy0 hy1 hy2 hz0 hz1 hz2 hk0
        go_wp2_with fail
        refine (he_c y (rd_T80 sh k) HYok.out.1 HYok.out.2 wq).mono ?_
        rintro e w3 ⟨v16, rfl, hv, hb⟩
        have HO3 := Aside0.mk (Kd.R_below HOD.out hb)
        have HB3 := Aside0.mk (below_on HBD.out HSD.out hb)
        have HS3 := Aside0.mk (show B2 ≤ w3.heap.size from Nat.le_trans HSD.out hb.size)
        have HV3 := Aside0.mk hv
        have HVN := Aside0.mk (show ∀ k', v16.ownBlock = some k' → some k' ≠ u13.ownBlock from fun k' hk' he => by
          have h1 := (Kd.R_bound hv).1 k' hk'
          have h2 := (Kd.R_bound HOD.out).1 k' he.symm
          have := h1.2.1
          have := h2.2.2.1
          omega)
        clear hb hv
        obtain ⟨g16, c16, rfl, _, _, _⟩ := Kd.R_form HV3.out (by simp)
        obtain ⟨ad16, e, hv0⟩ := Kd.at_int (Kd.R_reads' HV3.out).2.2 (0 : Int) (by omega) (by simp)
        cases e
        replace hv0 : w3.cell? ⟨g16, 0, none⟩ = some (.int .i64 (dev0 y (rd_T80 sh k))) := hv0
        go_wp2_with fail
        refine (dist_c (dev0 y (rd_T80 sh k)) HDV.out.1 HDV.out.2.1 _).mono ?_
        rintro e w4 ⟨rfl, hb⟩
        have HO4 := Aside0.mk (Kd.R_below (by (with_reducible repeat apply Kd.R_drewN); exact HO3.out) hb)
        have HB4 := Aside0.mk (below_on (by (repeat apply pw_below_drewN); exact HB3.out) HS3.out hb)
        have HS4 := Aside0.mk (show B2 ≤ w4.heap.size from Nat.le_trans HS3.out (Below.size hb))
        have HV4 := Aside0.mk (Kd.R_below (by (with_reducible repeat apply Kd.R_drewN); exact HV3.out) hb)
        clear hb hv0
        by_cases g0 : m < ab (dev0 y (rd_T80 sh k)) <;> by_cases g1 : m < ab (dev1 y (rd_T80 sh k))
        · 
          have F0 : far0 m sh y k = true := decide_eq_true g0
          have F1 : far1 m sh y k = true := decide_eq_true g1
          have HF := Aside0.mk (And.intro F0 F1)
          have d0 : decide (m < ab (dev0 y (rd_T80 sh k))) = true := F0
          have d1 : decide (m < ab (dev1 y (rd_T80 sh k))) = true := F1
          clear F0 F1 g0 g1
          have HM2 := Aside0.mk (show (rows ++ [[2, (pre.length : Int)]] ++ [[3, (pre.length : Int)]]).length ≤ 2 * (pre ++ [y]).length ∧ noteRows m x l sh = (rows ++ [[2, (pre.length : Int)]] ++ [[3, (pre.length : Int)]]) ++ rowsFrom m sh (pre ++ [y]).length suf ksuf from by
            have hm := HM.out
            refine ⟨by have := hm.1; simp; omega, ?_⟩
            rw [hm.2]; simp only [rowsFrom, pairRows, if_neg (Int.not_lt.mpr HKN.out), HF.out.1, HF.out.2]; simp)
          obtain ⟨Av, cv, rfl⟩ := Kd.R_slice HO4.out
          go_upto_region 11 with (first | ((with_reducible refine gate_dst (N := 62) rfl ?_); refine Kd.R_lit (Kd.int .i64) _ 3 ?hg (N := 62) ?hd (xs := [2, (pre.length : Int)]) (inner := [.int .i64 2, .int .i64 (pre.length : Int)]) (ok := fun _ => True) (okp := fun _ => True) ?hr ?hp (fun _ hk => hk) trivial (Below.refl _ _) (Nat.le_refl _) (by simp) ?_; (case hd => rfl); (case hg => rfl); (case hr => first | (go_simp; done) | (go_simp; rfl)); (case hp => exact (Reps.one (show Kd.M (Kd.int .i64) _ _ _ 2 [.int .i64 2] from rfl) (Reps.one (show Kd.M (Kd.int .i64) _ _ _ (pre.length : Int) [.int .i64 (pre.length : Int)] from rfl) (Reps.none _ _)))); intro vp wp ho hb hg_ hnew_; clear hg_ hnew_; have HLit := Aside0.mk (pair_lit ho hb (by (with_reducible repeat apply Kd.R_drewN); exact HO4.out) (by (repeat apply pw_below_drewN); exact HB4.out) HS4.out); have HVL := Aside0.mk (Kd.R_below (by (with_reducible repeat apply Kd.R_drewN); exact HV4.out) hb); clear ho hb; (obtain ⟨Ap_, cp_, eap_⟩ := Kd.R_slice HLit.out.1); subst eap_) | (at_builtin; refine Kd.R_append (Kd.slice 3 (Kd.int .i64)) (w0 := wm) B2 rfl (.tmp 60) (.tmp 63) 71 24 (.slice none 0 0) 24 rfl Try.underlying71 info24 rfl (by decide) (by omega) _ rows [2, (pre.length : Int)] [.slice Ap_ [2, (pre.length : Int)].length cp_] (fun _ => True) (fun k => some k ≠ (Value.slice Av rows.length cv).ownBlock) rfl rfl ?aP (fun _ hk => ⟨trivial, hk⟩) ?aF ?aO ?aB ?aS ?aL ?_; (case aP => exact Kd.M_row (by (with_reducible repeat apply Kd.R_drewN); exact HLit.out.1)); (case aB => exact (by (repeat apply pw_below_drewN); exact HLit.out.2.2.1)); (case aF => exact (fun _ _ => trivial)); (case aO => exact (by (with_reducible repeat apply Kd.R_drewN); exact HLit.out.2.1)); (case aS => exact HLit.out.2.2.2); (case aL => have := HRL.out; omega); intro vo5 wo5 ho hb9 hg9_ hat9_; have HNN5 := Aside0.mk (nn_app hat9_ HNN.out); have HV5 := Aside0.mk (Kd.R_grown (Kd.R_reok rfl (by (with_reducible repeat apply Kd.R_drewN); exact HVL.out) (fun k hk => (HVN.out k hk))) hg9_ (fun k hk => hk)); have HO5 := Aside0.mk ho; have HB5 := Aside0.mk hb9; have HS5 := Aside0.mk (show B2 ≤ wo5.heap.size by rw [HBE.out]; exact Below.size hb9); clear ho hb9))
          obtain ⟨ad16, e, hv1⟩ := Kd.at_int (Kd.R_reads' HV5.out).2.2 (1 : Int) (by omega) (by simp)
          cases e
          rw [show rd [dev0 y (rd_T80 sh k), dev1 y (rd_T80 sh k)] (1 : Int) = dev1 y (rd_T80 sh k) from rfl] at hv1
          replace hv1 : World.cell? _ ⟨g16, 1, none⟩ = some (.int .i64 (dev1 y (rd_T80 sh k))) := hv1
          go_wp2_with fail
          refine (dist_c (dev1 y (rd_T80 sh k)) HDV.out.2.2.1 HDV.out.2.2.2 _).mono ?_
          rintro e w6 ⟨rfl, hb⟩
          have HO6 := Aside0.mk (Kd.R_below (by (with_reducible repeat apply Kd.R_drewN); exact HO5.out) hb)
          have HB6 := Aside0.mk (below_on (by (repeat apply pw_below_drewN); exact HB5.out) HS5.out hb)
          have HS6 := Aside0.mk (show B2 ≤ w6.heap.size from Nat.le_trans HS5.out (Below.size hb))
          clear hb hv1
          have HRL2 := Aside0.mk (show (rows ++ [[2, (pre.length : Int)]]).length ≤ 2001 by have := HRL.out; simp <;> omega)
          go_wp2_with (first | ((with_reducible refine gate_dst (N := 73) rfl ?_); refine Kd.R_lit (Kd.int .i64) _ 3 ?hg (N := 73) ?hd (xs := [3, (pre.length : Int)]) (inner := [.int .i64 3, .int .i64 (pre.length : Int)]) (ok := fun _ => True) (okp := fun _ => True) ?hr ?hp (fun _ hk => hk) trivial (Below.refl _ _) (Nat.le_refl _) (by simp) ?_; (case hd => rfl); (case hg => rfl); (case hr => first | (go_simp; done) | (go_simp; rfl)); (case hp => exact (Reps.one (show Kd.M (Kd.int .i64) _ _ _ 3 [.int .i64 3] from rfl) (Reps.one (show Kd.M (Kd.int .i64) _ _ _ (pre.length : Int) [.int .i64 (pre.length : Int)] from rfl) (Reps.none _ _)))); intro vp wp ho hb hg_ hnew_; clear hg_ hnew_; have HLit := Aside0.mk (pair_lit ho hb (by (with_reducible repeat apply Kd.R_drewN); exact HO6.out) (by (repeat apply pw_below_drewN); exact HB6.out) HS6.out); clear ho hb; (obtain ⟨Ap_, cp_, eap_⟩ := Kd.R_slice HLit.out.1); subst eap_) | (at_builtin; refine Kd.R_append (Kd.slice 3 (Kd.int .i64)) (w0 := wm) B2 rfl (.tmp 71) (.tmp 74) 71 24 (.slice none 0 0) 24 rfl Try.underlying71 info24 rfl (by decide) (by omega) _ (rows ++ [[2, (pre.length : Int)]]) [3, (pre.length : Int)] [.slice Ap_ [3, (pre.length : Int)].length cp_] (fun _ => True) (fun k => some k ≠ vo5.ownBlock) rfl rfl ?aP (fun _ hk => ⟨trivial, hk⟩) ?aF ?aO ?aB ?aS ?aL ?_; (case aP => exact Kd.M_row (by (with_reducible repeat apply Kd.R_drewN); exact HLit.out.1)); (case aB => exact (by (repeat apply pw_below_drewN); exact HLit.out.2.2.1)); (case aF => exact (fun _ _ => trivial)); (case aO => exact (by (with_reducible repeat apply Kd.R_drewN); exact HLit.out.2.1)); (case aS => exact HLit.out.2.2.2); (case aL => have := HRL2.out; omega); intro vo' wo ho hb9 hg9_ hat9_; have HNN7 := Aside0.mk (nn_app hat9_ HNN5.out); have HO7 := Aside0.mk ho; have HB7 := Aside0.mk hb9; have HS7 := Aside0.mk (show B2 ≤ wo.heap.size by rw [HBE.out]; exact Below.size hb9); clear ho hb9))
          go_roundg suf.length
          case measure => have := HG.out; simp at this; omega
          case rel => exact ⟨pre ++ [y], suf, kpre ++ [k], ksuf, _, ⟨by rw [HE.out]; simp⟩, ⟨by rw [HK.out.1]; simp, by simp [HK.out.2.1], by have := HK.out.2.2; simp at this; exact this⟩, by simp, ⟨rfl⟩, HM2, HO7, HB7, HS7, HNN7⟩
        · 
          have F0 : far0 m sh y k = true := decide_eq_true g0
          have F1 : far1 m sh y k = false := decide_eq_false g1
          have HF := Aside0.mk (And.intro F0 F1)
          have d0 : decide (m < ab (dev0 y (rd_T80 sh k))) = true := F0
          have d1 : decide (m < ab (dev1 y (rd_T80 sh k))) = false := F1
          clear F0 F1 g0 g1
          have HM2 := Aside0.mk (show (rows ++ [[2, (pre.length : Int)]]).length ≤ 2 * (pre ++ [y]).length ∧ noteRows m x l sh = (rows ++ [[2, (pre.length : Int)]]) ++ rowsFrom m sh (pre ++ [y]).length suf ksuf from by
            have hm := HM.out
            refine ⟨by have := hm.1; simp; omega, ?_⟩
            rw [hm.2]; simp only [rowsFrom, pairRows, if_neg (Int.not_lt.mpr HKN.out), HF.out.1, HF.out.2]; simp)
          obtain ⟨Av, cv, rfl⟩ := Kd.R_slice HO4.out
          go_upto_region 11 with (first | ((with_reducible refine gate_dst (N := 62) rfl ?_); refine Kd.R_lit (Kd.int .i64) _ 3 ?hg (N := 62) ?hd (xs := [2, (pre.length : Int)]) (inner := [.int .i64 2, .int .i64 (pre.length : Int)]) (ok := fun _ => True) (okp := fun _ => True) ?hr ?hp (fun _ hk => hk) trivial (Below.refl _ _) (Nat.le_refl _) (by simp) ?_; (case hd => rfl); (case hg => rfl); (case hr => first | (go_simp; done) | (go_simp; rfl)); (case hp => exact (Reps.one (show Kd.M (Kd.int .i64) _ _ _ 2 [.int .i64 2] from rfl) (Reps.one (show Kd.M (Kd.int .i64) _ _ _ (pre.length : Int) [.int .i64 (pre.length : Int)] from rfl) (Reps.none _ _)))); intro vp wp ho hb hg_ hnew_; clear hg_ hnew_; have HLit := Aside0.mk (pair_lit ho hb (by (with_reducible repeat apply Kd.R_drewN); exact HO4.out) (by (repeat apply pw_below_drewN); exact HB4.out) HS4.out); have HVL := Aside0.mk (Kd.R_below (by (with_reducible repeat apply Kd.R_drewN); exact HV4.out) hb); clear ho hb; (obtain ⟨Ap_, cp_, eap_⟩ := Kd.R_slice HLit.out.1); subst eap_) | (at_builtin; refine Kd.R_append (Kd.slice 3 (Kd.int .i64)) (w0 := wm) B2 rfl (.tmp 60) (.tmp 63) 71 24 (.slice none 0 0) 24 rfl Try.underlying71 info24 rfl (by decide) (by omega) _ rows [2, (pre.length : Int)] [.slice Ap_ [2, (pre.length : Int)].length cp_] (fun _ => True) (fun k => some k ≠ (Value.slice Av rows.length cv).ownBlock) rfl rfl ?aP (fun _ hk => ⟨trivial, hk⟩) ?aF ?aO ?aB ?aS ?aL ?_; (case aP => exact Kd.M_row (by (with_reducible repeat apply Kd.R_drewN); exact HLit.out.1)); (case aB => exact (by (repeat apply pw_below_drewN); exact HLit.out.2.2.1)); (case aF => exact (fun _ _ => trivial)); (case aO => exact (by (with_reducible repeat apply Kd.R_drewN); exact HLit.out.2.1)); (case aS => exact HLit.out.2.2.2); (case aL => have := HRL.out; omega); intro vo5 wo5 ho hb9 hg9_ hat9_; have HNN5 := Aside0.mk (nn_app hat9_ HNN.out); have HV5 := Aside0.mk (Kd.R_grown (Kd.R_reok rfl (by (with_reducible repeat apply Kd.R_drewN); exact HVL.out) (fun k hk => (HVN.out k hk))) hg9_ (fun k hk => hk)); have HO5 := Aside0.mk ho; have HB5 := Aside0.mk hb9; have HS5 := Aside0.mk (show B2 ≤ wo5.heap.size by rw [HBE.out]; exact Below.size hb9); clear ho hb9))
          obtain ⟨ad16, e, hv1⟩ := Kd.at_int (Kd.R_reads' HV5.out).2.2 (1 : Int) (by omega) (by simp)
          cases e
          rw [show rd [dev0 y (rd_T80 sh k), dev1 y (rd_T80 sh k)] (1 : Int) = dev1 y (rd_T80 sh k) from rfl] at hv1
          replace hv1 : World.cell? _ ⟨g16, 1, none⟩ = some (.int .i64 (dev1 y (rd_T80 sh k))) := hv1
          go_wp2_with fail
          refine (dist_c (dev1 y (rd_T80 sh k)) HDV.out.2.2.1 HDV.out.2.2.2 _).mono ?_
          rintro e w6 ⟨rfl, hb⟩
          have HO6 := Aside0.mk (Kd.R_below (by (with_reducible repeat apply Kd.R_drewN); exact HO5.out) hb)
          have HB6 := Aside0.mk (below_on (by (repeat apply pw_below_drewN); exact HB5.out) HS5.out hb)
          have HS6 := Aside0.mk (show B2 ≤ w6.heap.size from Nat.le_trans HS5.out (Below.size hb))
          clear hb hv1
          go_wp2_with fail
          go_roundg suf.length
          case measure => have := HG.out; simp at this; omega
          case rel => exact ⟨pre ++ [y], suf, kpre ++ [k], ksuf, _, ⟨by rw [HE.out]; simp⟩, ⟨by rw [HK.out.1]; simp, by simp [HK.out.2.1], by have := HK.out.2.2; simp at this; exact this⟩, by simp, ⟨rfl⟩, HM2, HO6, HB6, HS6, HNN5⟩
        · 
          have F0 : far0 m sh y k = false := decide_eq_false g0
          have F1 : far1 m sh y k = true := decide_eq_true g1
          have HF := Aside0.mk (And.intro F0 F1)
          have d0 : decide (m < ab (dev0 y (rd_T80 sh k))) = false := F0
          have d1 : decide (m < ab (dev1 y (rd_T80 sh k))) = true := F1
          clear F0 F1 g0 g1
          have HM2 := Aside0.mk (show (rows ++ [[3, (pre.length : Int)]]).length ≤ 2 * (pre ++ [y]).length ∧ noteRows m x l sh = (rows ++ [[3, (pre.length : Int)]]) ++ rowsFrom m sh (pre ++ [y]).length suf ksuf from by
            have hm := HM.out
            refine ⟨by have := hm.1; simp; omega, ?_⟩
            rw [hm.2]; simp only [rowsFrom, pairRows, if_neg (Int.not_lt.mpr HKN.out), HF.out.1, HF.out.2]; simp)
          obtain ⟨Av, cv, rfl⟩ := Kd.R_slice HO4.out
          go_upto_region 11 with (fail)
          obtain ⟨ad16, e, hv1⟩ := Kd.at_int (Kd.R_reads' HV4.out).2.2 (1 : Int) (by omega) (by simp)
          cases e
          rw [show rd [dev0 y (rd_T80 sh k), dev1 y (rd_T80 sh k)] (1 : Int) = dev1 y (rd_T80 sh k) from rfl] at hv1
          replace hv1 : World.cell? _ ⟨g16, 1, none⟩ = some (.int .i64 (dev1 y (rd_T80 sh k))) := hv1
          go_wp2_with fail
          refine (dist_c (dev1 y (rd_T80 sh k)) HDV.out.2.2.1 HDV.out.2.2.2 _).mono ?_
          rintro e w6 ⟨rfl, hb⟩
          have HO6 := Aside0.mk (Kd.R_below (by (with_reducible repeat apply Kd.R_drewN); exact HO4.out) hb)
          have HB6 := Aside0.mk (below_on (by (repeat apply pw_below_drewN); exact HB4.out) HS4.out hb)
          have HS6 := Aside0.mk (show B2 ≤ w6.heap.size from Nat.le_trans HS4.out (Below.size hb))
          clear hb hv1
          have HRL2 := Aside0.mk (show rows.length ≤ 2001 by have := HRL.out; simp <;> omega)
          go_wp2_with (first | ((with_reducible refine gate_dst (N := 73) rfl ?_); refine Kd.R_lit (Kd.int .i64) _ 3 ?hg (N := 73) ?hd (xs := [3, (pre.length : Int)]) (inner := [.int .i64 3, .int .i64 (pre.length : Int)]) (ok := fun _ => True) (okp := fun _ => True) ?hr ?hp (fun _ hk => hk) trivial (Below.refl _ _) (Nat.le_refl _) (by simp) ?_; (case hd => rfl); (case hg => rfl); (case hr => first | (go_simp; done) | (go_simp; rfl)); (case hp => exact (Reps.one (show Kd.M (Kd.int .i64) _ _ _ 3 [.int .i64 3] from rfl) (Reps.one (show Kd.M (Kd.int .i64) _ _ _ (pre.length : Int) [.int .i64 (pre.length : Int)] from rfl) (Reps.none _ _)))); intro vp wp ho hb hg_ hnew_; clear hg_ hnew_; have HLit := Aside0.mk (pair_lit ho hb (by (with_reducible repeat apply Kd.R_drewN); exact HO6.out) (by (repeat apply pw_below_drewN); exact HB6.out) HS6.out); clear ho hb; (obtain ⟨Ap_, cp_, eap_⟩ := Kd.R_slice HLit.out.1); subst eap_) | (at_builtin; refine Kd.R_append (Kd.slice 3 (Kd.int .i64)) (w0 := wm) B2 rfl (.tmp 71) (.tmp 74) 71 24 (.slice none 0 0) 24 rfl Try.underlying71 info24 rfl (by decide) (by omega) _ rows [3, (pre.length : Int)] [.slice Ap_ [3, (pre.length : Int)].length cp_] (fun _ => True) (fun k => some k ≠ (Value.slice Av rows.length cv).ownBlock) rfl rfl ?aP (fun _ hk => ⟨trivial, hk⟩) ?aF ?aO ?aB ?aS ?aL ?_; (case aP => exact Kd.M_row (by (with_reducible repeat apply Kd.R_drewN); exact HLit.out.1)); (case aB => exact (by (repeat apply pw_below_drewN); exact HLit.out.2.2.1)); (case aF => exact (fun _ _ => trivial)); (case aO => exact (by (with_reducible repeat apply Kd.R_drewN); exact HLit.out.2.1)); (case aS => exact HLit.out.2.2.2); (case aL => have := HRL2.out; omega); intro vo' wo ho hb9 hg9_ hat9_; have HNN7 := Aside0.mk (nn_app hat9_ HNN.out); have HO7 := Aside0.mk ho; have HB7 := Aside0.mk hb9; have HS7 := Aside0.mk (show B2 ≤ wo.heap.size by rw [HBE.out]; exact Below.size hb9); clear ho hb9))
          go_roundg suf.length
          case measure => have := HG.out; simp at this; omega
          case rel => exact ⟨pre ++ [y], suf, kpre ++ [k], ksuf, _, ⟨by rw [HE.out]; simp⟩, ⟨by rw [HK.out.1]; simp, by simp [HK.out.2.1], by have := HK.out.2.2; simp at this; exact this⟩, by simp, ⟨rfl⟩, HM2, HO7, HB7, HS7, HNN7⟩
        · 
          have F0 : far0 m sh y k = false := decide_eq_false g0
          have F1 : far1 m sh y k = false := decide_eq_false g1
          have HF := Aside0.mk (And.intro F0 F1)
          have d0 : decide (m < ab (dev0 y (rd_T80 sh k))) = false := F0
          have d1 : decide (m < ab (dev1 y (rd_T80 sh k))) = false := F1
          clear F0 F1 g0 g1
          have HM2 := Aside0.mk (show (rows).length ≤ 2 * (pre ++ [y]).length ∧ noteRows m x l sh = (rows) ++ rowsFrom m sh (pre ++ [y]).length suf ksuf from by
            have hm := HM.out
            refine ⟨by have := hm.1; simp; omega, ?_⟩
            rw [hm.2]; simp only [rowsFrom, pairRows, if_neg (Int.not_lt.mpr HKN.out), HF.out.1, HF.out.2]; simp)
          obtain ⟨Av, cv, rfl⟩ := Kd.R_slice HO4.out
          go_upto_region 11 with (fail)
          obtain ⟨ad16, e, hv1⟩ := Kd.at_int (Kd.R_reads' HV4.out).2.2 (1 : Int) (by omega) (by simp)
          cases e
          rw [show rd [dev0 y (rd_T80 sh k), dev1 y (rd_T80 sh k)] (1 : Int) = dev1 y (rd_T80 sh k) from rfl] at hv1
          replace hv1 : World.cell? _ ⟨g16, 1, none⟩ = some (.int .i64 (dev1 y (rd_T80 sh k))) := hv1
          go_wp2_with fail
          refine (dist_c (dev1 y (rd_T80 sh k)) HDV.out.2.2.1 HDV.out.2.2.2 _).mono ?_
          rintro e w6 ⟨rfl, hb⟩
          have HO6 := Aside0.mk (Kd.R_below (by (with_reducible repeat apply Kd.R_drewN); exact HO4.out) hb)
          have HB6 := Aside0.mk (below_on (by (repeat apply pw_below_drewN); exact HB4.out) HS4.out hb)
          have HS6 := Aside0.mk (show B2 ≤ w6.heap.size from Nat.le_trans HS4.out (Below.size hb))
          clear hb hv1
          go_wp2_with fail
          go_roundg suf.length
          case measure => have := HG.out; simp at this; omega
          case rel => exact ⟨pre ++ [y], suf, kpre ++ [k], ksuf, _, ⟨by rw [HE.out]; simp⟩, ⟨by rw [HK.out.1]; simp, by simp [HK.out.2.1], by have := HK.out.2.2; simp at this; exact this⟩, by simp, ⟨rfl⟩, HM2, HO6, HB6, HS6, HNN⟩
end Go.Proofs.Ythhlmjcfhfkmdaa.Cx
