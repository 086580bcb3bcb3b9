/- The walk of vfErrors: both errors of the hole of each note. -/
import Derived.Test.YthhlmjcfhfkmdaaCyF
import Derived.Test.YthhlmjcfhfkmdaaCyR
namespace Go.Proofs.Ythhlmjcfhfkmdaa.Cx
open Go.RowKit Go.Proofs.Ythhlmjcfhfkmdaa.PFnClassExactly Go.Proofs.YthhlmjcfhfkmdaaW.PrintWords Go.Proofs.YthhlmjcfhfkmdaaW.PrintLast Go.Proofs.YthhlmjcfhfkmdaaW.PrintMore
set_option linter.unusedVariables false
set_option linter.unusedSimpArgs false
attribute [local go_sem] calm calmUpon

def errsOf (sh : List S80) : List S58 → List Int → List (List Int)
  | x :: r, k :: ks => (if k < 0 then [] else [dev0 x (rd_T80 sh k), dev1 x (rd_T80 sh k)]) :: errsOf sh r ks
  | _, _ => []
theorem errs_len (sh : List S80) : ∀ (l : List S58) (ks : List Int), ks.length = l.length → (errsOf sh l ks).length = l.length
  | [], _, _ => by simp [errsOf]
  | _ :: _, [], h => by simp at h
  | x :: r, k :: ks, h => by
    have := errs_len sh r ks (by simpa using h)
    simp [errsOf, this]
set_option maxHeartbeats 8000000 in
set_option maxRecDepth 100000 in
theorem errs_c (Ap : Option Addr) (cp : Nat) (x : S40) (A1 : Option Addr) (c1 : Nat) (l : List S58) (A2 : Option Addr) (c2 : Nat) (sh : List S80) (w : World)
    (hp : Kd.C (Kd.int .i64) w Ap x.f0.length x.f0) (hcp : x.f0.length ≤ cp) (hr1 : Kd.C k58 w A1 l.length l) (hc1 : l.length ≤ c1) (hr2 : Kd.C k80 w A2 sh.length sh) (hc2 : sh.length ≤ c2)
    (hx : x.f0.length ≤ 20) (hl : l.length ≤ 1000) (hlok : ∀ y ∈ l, okN y = true) (hs : sh.length ≤ 1000) (hok : ∀ h ∈ sh, okH h = true) :
    Calls Try.prog 76 #[.agg #[.slice Ap x.f0.length cp, .int .i64 x.f1], .slice A1 l.length c1, .slice A2 sh.length c2] w fun e w' => ∃ v, e = .returned v ∧ Kd.R (Kd.slice 3 (Kd.int .i64)) 24 w' w.heap.size (fun _ => True) v (errsOf sh l (holesOf x.f0 sh l)) ∧ Below w.heap.size w w' := by
  have HP := Aside0.mk hp
  have HR1 := Aside0.mk hr1
  have HR2 := Aside0.mk hr2
  have HOk := Aside0.mk hok
  have HLok := Aside0.mk hlok
  clear hp hr1 hr2 hok hlok
  have hu40 := Try.underlying40
  have hu80 := Try.underlying80
  have hu58 := Try.underlying58
  go_enter Try.func76, Try.ntmps76
  go_upto_region 1 with (first | ((with_reducible refine gate_dst (N := 3) rfl ?_); refine box_event ?hg (N := 3) ?hd (cs := #[.slice Ap x.f0.length cp, .int .i64 x.f1]) (t := 40) ?hr ?_; (case hd => rfl); (case hg => rfl); (case hr => first | (go_simp; done) | (go_simp; rfl)); intro gi hg w2 hbox hb; have BI2 := Aside0.mk hbox; have HB2 := Aside0.mk hb; clear hg hbox hb))
  have hI0 : w2.cell? ⟨gi, 0, none⟩ = some (.slice Ap x.f0.length cp) := (blk_cell BI2.out 0).trans rfl
  have hI1 : w2.cell? ⟨gi, 1, none⟩ = some (.int .i64 x.f1) := (blk_cell BI2.out 1).trans rfl
  go_wp2_with fail
  refine (smatch_c Ap cp x A1 c1 l A2 c2 sh w2 (Kd.C_below HP.out HB2.out) hcp (Kd.C_below HR1.out HB2.out) hc1 (Kd.C_below HR2.out HB2.out) hc2 hx hl hs (fun h hh => (okH_bd (HOk.out h hh)).1)).mono ?_
  rintro e wm ⟨v1, v2, rfl, hv1, hv2, hb⟩
  have HH := Aside0.mk hv1
  have HBM := Aside0.mk (below_on HB2.out HB2.out.size hb)
  clear hv1 hv2 hb hI0 hI1 BI2 HB2
  obtain ⟨Ah, ch, rfl⟩ := Kd.R_slice HH.out
  have HHR := Aside0.mk (Kd.R_reads' HH.out).2.2
  have hhl : (holesOf x.f0 sh l).length = l.length := holes_len _ _ _
  obtain ⟨B2, hB2⟩ : ∃ b, b = wm.heap.size := ⟨_, rfl⟩
  have HBE := Aside0.mk hB2
  have HBB := Aside0.mk (show w.heap.size ≤ B2 by rw [hB2]; exact HBM.out.size)
  have HSN := Aside0.mk (show B2 ≤ wm.heap.size by rw [hB2]; exact Nat.le_refl _)
  have HKB := Aside0.mk (holes_bd x.f0 sh l)
  have HO := Aside0.mk (Kd.R_nil (Kd.slice 3 (Kd.int .i64)) 24 wm B2 (fun _ => True))
  have HBN : Aside0 (Below B2 wm wm) := ⟨Below.refl _ _⟩
  clear hB2
  go_wp2_with fail
  go_loopg [9, 22] l.length (fun gk v9 v22 wr => ∃ (pre suf : List S58) (kpre ksuf : List Int) (rows : List (List Int)), Aside0 (l = pre ++ suf) ∧ Aside0 (holesOf x.f0 sh l = kpre ++ ksuf ∧ kpre.length = pre.length ∧ ksuf.length = suf.length) ∧ v22 = .int .i64 (pre.length : Int) ∧ Aside0 (gk = suf.length) ∧ Aside0 (rows.length = pre.length ∧ errsOf sh l (holesOf x.f0 sh l) = rows ++ errsOf sh suf ksuf) ∧ Aside0 (Kd.R (Kd.slice 3 (Kd.int .i64)) 24 wr B2 (fun _ => True) v9 rows) ∧ Aside0 (Below B2 wm wr) ∧ Aside0 (B2 ≤ wr.heap.size))
  case atStart => exact ⟨[], l, [], holesOf x.f0 sh l, [], ⟨rfl⟩, ⟨rfl, rfl, hhl⟩, rfl, ⟨rfl⟩, ⟨rfl, rfl⟩, HO, HBN, HSN⟩
  case round =>
    clear HO HBN HSN
    obtain ⟨pre, suf, kpre, ksuf, rows, HE, HK, rfl, HG, HM, HO, HBR, HSZ⟩ := hrel
    cases suf with
    | nil =>
      have hlt2 : ¬ pre.length < l.length := by have := HE.out; rw [this]; simp
      have hle2 : pre.length ≤ l.length := by have := HE.out; rw [this]; simp
      have HT := Aside0.mk (show errsOf sh l (holesOf x.f0 sh l) = rows from by rw [HM.out.2]; simp [errsOf])
      go_wp2_with fail
      go_ret
      exact ⟨u9, rfl, by rw [HT.out]; exact Kd.R_lower HO.out HBB.out, HBM.out.trans (HBR.out.mono HBB.out)⟩
    | cons y suf =>
      have hlt2 : pre.length < l.length := by have := HE.out; rw [this]; simp
      obtain ⟨k, ksuf, rfl⟩ : ∃ k r, ksuf = k :: r := by
        cases ksuf with
        | nil => have := HK.out.2.2; simp at this
        | cons k r => exact ⟨k, r, rfl⟩
      obtain ⟨adh, e, hk0⟩ := Kd.at_int HHR.out (pre.length : Int) (by omega) (by rw [hhl]; omega)
      cases e
      rw [show rd (holesOf x.f0 sh l) (pre.length : Int) = k by rw [HK.out.1, ← HK.out.2.1]; exact rd_at kpre ksuf k] at hk0
      replace hk0 := (HBR.out.cell (HBE.out ▸ World.block_lt_of_cell? wm _ hk0)).trans hk0
      rw [Int.toNat_natCast] at hk0
      have HRL := Aside0.mk (show rows.length ≤ 2000 by have := HM.out.1; omega)
      have hkb := HKB.out k (by rw [HK.out.1]; simp)
      by_cases hkn : k < 0
      · have HM2 := Aside0.mk (show (rows ++ [[]]).length = (pre ++ [y]).length ∧ errsOf sh l (holesOf x.f0 sh l) = (rows ++ [[]]) ++ errsOf sh suf ksuf from by
          have hm := HM.out
          refine ⟨by have := hm.1; simp; omega, ?_⟩
          rw [hm.2]; simp [errsOf, hkn])
        clear hkb
        obtain ⟨Av, cv, rfl⟩ := Kd.R_slice HO.out
        go_wp2_with (first | (at_builtin; refine Kd.R_append (Kd.slice 3 (Kd.int .i64)) (w0 := wm) B2 rfl (.tmp 29) (.tmp 30) 71 24 (.slice none 0 0) 24 rfl Try.underlying71 info24 rfl (by decide) (by omega) _ rows [] [.slice none 0 0] (fun _ => True) (fun _ => False) rfl rfl ?aP (fun _ hk => hk.elim) ?aF ?aO ?aB ?aS ?aL ?_; (case aP => exact Kd.M_row (Kd.R_nil _ _ _ _ _)); (case aB => exact (by (repeat apply pw_below_drewN); exact HBR.out)); (case aF => exact (fun _ _ => trivial)); (case aO => exact (by (with_reducible repeat apply Kd.R_drewN); exact HO.out)); (case aS => exact HSZ.out); (case aL => have := HRL.out; omega); intro vo' wo ho hb9 _ _; have HO9 := Aside0.mk ho; have HB9 := Aside0.mk hb9; have HS9 := Aside0.mk (show B2 ≤ wo.heap.size by rw [HBE.out]; exact Below.size hb9); clear ho hb9))
        go_roundg suf.length
        case measure => have := HG.out; simp at this; omega
        case rel => exact ⟨pre ++ [y], suf, kpre ++ [k], ksuf, _, ⟨by rw [HE.out]; simp⟩, ⟨by rw [HK.out.1]; simp, by simp [HK.out.2.1], by have := HK.out.2.2; simp at this; exact this⟩, by simp, ⟨rfl⟩, HM2, HO9, HB9, HS9⟩
      · obtain ⟨hk1, hk2⟩ : 0 ≤ k ∧ k < (sh.length : Int) := by rcases hkb with h | h <;> omega
        have HKN := Aside0.mk hkn
        clear hkb
        obtain ⟨adn, e, hy0, hy1, hy2⟩ := at_T58 HR1.out (pre.length : Int) (by omega) (by omega)
        cases e
        rw [show rd_T58 l (pre.length : Int) = y by rw [HE.out]; exact rd58_at pre suf y] at hy0 hy1 hy2
        obtain ⟨ads, e, hz0, hz1, hz2⟩ := at_T80 HR2.out k hk1 hk2
        cases e
        have hbw := HBM.out.trans (HBR.out.mono HBB.out)
        replace hy0 := (hbw.cell (World.block_lt_of_cell? w _ hy0)).trans hy0
        replace hy1 := (hbw.cell (World.block_lt_of_cell? w _ hy1)).trans hy1
        replace hy2 := (hbw.cell (World.block_lt_of_cell? w _ hy2)).trans hy2
        replace hz0 := (hbw.cell (World.block_lt_of_cell? w _ hz0)).trans hz0
        replace hz1 := (hbw.cell (World.block_lt_of_cell? w _ hz1)).trans hz1
        replace hz2 := (hbw.cell (World.block_lt_of_cell? w _ hz2)).trans hz2
        rw [Int.toNat_natCast] at hy0 hy1 hy2
        have hYok := HLok.out y (by rw [HE.out]; simp)
        have hHok : okH (rd_T80 sh k) = true := HOk.out _ (by
          have hkn2 : k.toNat < sh.length := by omega
          unfold rd_T80
          rw [List.getD_eq_getElem?_getD, List.getElem?_eq_getElem hkn2]
          exact List.getElem_mem hkn2)
        have HYok := Aside0.mk (And.intro hYok hHok)
        have HZ := Aside0.mk (And.intro hz0 (And.intro hz1 hz2))
        clear hbw hYok hHok hz0 hz1 hz2
        go_upto_region 9 with (first | ((with_reducible refine gate_dst (N := 12) rfl ?_); refine box_event ?hg (N := 12) ?hd (cs := #[.int .i64 0, .int .i64 0, .int .i64 0]) (t := 58) ?hr ?_; (case hd => rfl); (case hg => rfl); (case hr => first | (go_simp; done) | (go_simp; rfl)); intro gh hg w8 hbox hb; have HGH := Aside0.mk hg; have BH := Aside0.mk hbox; have HB8 := Aside0.mk hb; have hzz0 : w8.cell? ⟨gh, 0, none⟩ = some (.int .i64 0) := (blk_cell BH.out 0).trans rfl; have hzz1 : w8.cell? ⟨gh, 1, none⟩ = some (.int .i64 0) := (blk_cell BH.out 1).trans rfl; have hzz2 : w8.cell? ⟨gh, 2, none⟩ = some (.int .i64 0) := (blk_cell BH.out 2).trans rfl; have hf0 := blk_frozen BH.out 0; have hf1 := blk_frozen BH.out 1; have hf2 := blk_frozen BH.out 2; clear hg hbox hb))
        refine wp_world (F := fun wy => Aside0 (wy.heap[gh]? = some (.cells #[.int .i64 y.f0, .int .i64 y.f1, .int .i64 y.f2] 58 (0, 0))) ∧ Aside0 (Below wr.heap.size wr wy)) ?facts ?_
        case facts =>
          have hge : wr.heap.size ≤ gh := by rw [HGH.out]; exact Nat.le_refl _
          exact ⟨⟨blk_put (blk_put (blk_put BH.out 0 _ rfl) 1 _ rfl) 2 _ rfl⟩, ⟨below_set (below_set (below_set HB8.out hge) hge) hge⟩⟩
        clear hzz0 hzz1 hzz2 hf0 hf1 hf2 BH HB8 hy0 hy1 hy2 hk0
        intro wy ⟨BH, HBWY⟩
        have HOY := Aside0.mk (Kd.R_below HO.out HBWY.out)
        have HBY := Aside0.mk (below_on HBR.out HSZ.out HBWY.out)
        have HSY := Aside0.mk (show B2 ≤ wy.heap.size from Nat.le_trans HSZ.out HBWY.out.size)
        have HHE : Aside0 (∃ q, q = rd_T80 sh k) := ⟨_, rfl⟩
        obtain ⟨hh, hhe⟩ := HHE.out
        obtain ⟨hz0, hz1, hz2⟩ := HZ.out
        rw [← hhe] at hz0 hz1 hz2
        replace hz0 := (HBWY.out.cell (World.block_lt_of_cell? wr _ hz0)).trans hz0
        replace hz1 := (HBWY.out.cell (World.block_lt_of_cell? wr _ hz1)).trans hz1
        replace hz2 := (HBWY.out.cell (World.block_lt_of_cell? wr _ hz2)).trans hz2
        have hn0 : wy.cell? ⟨gh, 0, none⟩ = some (.int .i64 y.f0) := (blk_cell BH.out 0).trans rfl
        have hn1 : wy.cell? ⟨gh, 1, none⟩ = some (.int .i64 y.f1) := (blk_cell BH.out 1).trans rfl
        have hn2 : wy.cell? ⟨gh, 2, none⟩ = some (.int .i64 y.f2) := (blk_cell BH.out 2).trans rfl
        have b1 := okN_bd HYok.out.1
        have b2 := okH_bd HYok.out.2
        rw [← hhe] at b2
        have e1 : IntKind.i64.wrap (2 * y.f1) = 2 * y.f1 := IntWalk.i64_in _ (by omega)
        have e2 : IntKind.i64.wrap (hh.f1 - 2 * y.f1) = hh.f1 - 2 * y.f1 := IntWalk.i64_in _ (by omega)
        have e3 : IntKind.i64.wrap (y.f1 + y.f2) = y.f1 + y.f2 := IntWalk.i64_in _ (by omega)
        have e4 : IntKind.i64.wrap (2 * (y.f1 + y.f2)) = 2 * (y.f1 + y.f2) := IntWalk.i64_in _ (by omega)
        have e5 : IntKind.i64.wrap (hh.f2 - 2 * (y.f1 + y.f2)) = hh.f2 - 2 * (y.f1 + y.f2) := IntWalk.i64_in _ (by omega)
        have e6 : IntKind.i64.wrap (hh.f2 - 2 * (y.f1 + y.f2) + 1) = hh.f2 - 2 * (y.f1 + y.f2) + 1 := IntWalk.i64_in _ (by omega)
        have HHE2 := Aside0.mk hhe
        have HM2 := Aside0.mk (show (rows ++ [[(hh.f1 - 2 * y.f1), (hh.f2 - 2 * (y.f1 + y.f2) + 1)]]).length = (pre ++ [y]).length ∧ errsOf sh l (holesOf x.f0 sh l) = (rows ++ [[(hh.f1 - 2 * y.f1), (hh.f2 - 2 * (y.f1 + y.f2) + 1)]]) ++ errsOf sh suf ksuf from by
          have hm := HM.out
          refine ⟨by have := hm.1; simp; omega, ?_⟩
          rw [hm.2]; simp only [errsOf, dev0, dev1, if_neg HKN.out, ← HHE2.out]
          rw [show hh.f2 - (2 * (y.f1 + y.f2) - 1) = hh.f2 - 2 * (y.f1 + y.f2) + 1 by omega]
          simp)
        clear b1 b2 hhe BH
        go_wp2_with fail
        refine wp_region_calm 23 (by kernel_rfl) (by kernel_rfl) (fun _ _ d _ _ h => by cases d <;> exact h) ?_
        simp only [List.take_succ_cons, List.take_zero, List.drop_succ_cons, List.drop_zero]
        repeat (refine wpCalm_step (fun K hK => ?_); go_simp; refine hK _ ?_; clear hK K)
        refine wpCalm_nil ?_
        change wpList _ _ _ _ _ wy.drew
        have HOD := Aside0.mk (Kd.R_below HOY.out (below_drew1 (Below.refl wy.heap.size wy)))
        have HBD := Aside0.mk (below_drew1 HBY.out)
        have HSD := Aside0.mk (show B2 ≤ wy.drew.heap.size from HSY.out)
        obtain ⟨wq, hwq⟩ : ∃ wq, wq = wy.drew := ⟨_, rfl⟩
        rw [← hwq] at HOD HBD HSD ⊢
        clear hwq hz0 hz1 hz2 hn0 hn1 hn2
        go_wp2_with (first | ((with_reducible refine gate_dst (N := 59) rfl ?_); refine Kd.R_lit (Kd.int .i64) _ 3 ?hg (N := 59) ?hd (xs := [(hh.f1 - 2 * y.f1), (hh.f2 - 2 * (y.f1 + y.f2) + 1)]) (inner := [.int .i64 (hh.f1 - 2 * y.f1), .int .i64 (hh.f2 - 2 * (y.f1 + y.f2) + 1)]) (ok := fun _ => True) (okp := fun _ => True) ?hr ?hp (fun _ hk => hk) trivial (Below.refl _ _) (Nat.le_refl _) (by simp) ?_; (case hd => rfl); (case hg => rfl); (case hr => first | (go_simp; done) | (go_simp; rfl)); (case hp => exact (Reps.one (show Kd.M (Kd.int .i64) _ _ _ (hh.f1 - 2 * y.f1) [.int .i64 (hh.f1 - 2 * y.f1)] from rfl) (Reps.one (show Kd.M (Kd.int .i64) _ _ _ (hh.f2 - 2 * (y.f1 + y.f2) + 1) [.int .i64 (hh.f2 - 2 * (y.f1 + y.f2) + 1)] from rfl) (Reps.none _ _)))); intro vp wp ho hb hg_ hnew_; clear hg_ hnew_; have HLit := Aside0.mk (pair_lit ho hb (by (with_reducible repeat apply Kd.R_drewN); exact HOD.out) (by (repeat apply pw_below_drewN); exact HBD.out) HSD.out); clear ho hb; (obtain ⟨Ap_, cp_, eap_⟩ := Kd.R_slice HLit.out.1); subst eap_) | (at_builtin; refine Kd.R_append (Kd.slice 3 (Kd.int .i64)) (w0 := wm) B2 rfl (.tmp 36) (.tmp 60) 71 24 (.slice none 0 0) 24 rfl Try.underlying71 info24 rfl (by decide) (by omega) _ rows [(hh.f1 - 2 * y.f1), (hh.f2 - 2 * (y.f1 + y.f2) + 1)] [.slice Ap_ [(hh.f1 - 2 * y.f1), (hh.f2 - 2 * (y.f1 + y.f2) + 1)].length cp_] (fun _ => True) (fun k => some k ≠ u9.ownBlock) rfl rfl ?aP (fun _ hk => ⟨trivial, hk⟩) ?aF ?aO ?aB ?aS ?aL ?_; (case aP => exact Kd.M_row (by (with_reducible repeat apply Kd.R_drewN); exact HLit.out.1)); (case aB => exact (by (repeat apply pw_below_drewN); exact HLit.out.2.2.1)); (case aF => exact (fun _ _ => trivial)); (case aO => exact (by (with_reducible repeat apply Kd.R_drewN); exact HLit.out.2.1)); (case aS => exact HLit.out.2.2.2); (case aL => have := HRL.out; omega); intro vo' wo ho hb9 _ _; have HO9 := Aside0.mk ho; have HB9 := Aside0.mk hb9; have HS9 := Aside0.mk (show B2 ≤ wo.heap.size by rw [HBE.out]; exact Below.size hb9); clear ho hb9))
        go_roundg suf.length
        case measure => have := HG.out; simp at this; omega
        case rel => exact ⟨pre ++ [y], suf, kpre ++ [k], ksuf, _, ⟨by rw [HE.out]; simp⟩, ⟨by rw [HK.out.1]; simp, by simp [HK.out.2.1], by have := HK.out.2.2; simp at this; exact this⟩, by simp, ⟨rfl⟩, HM2, HO9, HB9, HS9⟩
end Go.Proofs.Ythhlmjcfhfkmdaa.Cx
