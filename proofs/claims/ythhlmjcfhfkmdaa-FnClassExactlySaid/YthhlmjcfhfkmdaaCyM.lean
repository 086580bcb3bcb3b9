/- The walk of matched, in closed words. -/
import Derived.Test.YthhlmjcfhfkmdaaCyJ
import Derived.Deep.RegionHeld3
import Derived.Deep.QuietTactic
import Derived.BigQuiet
namespace Go.Proofs.Ythhlmjcfhfkmdaa.Cx
open Go.RowKit Go.Proofs.Ythhlmjcfhfkmdaa.PFnClassExactly Go.Proofs.YthhlmjcfhfkmdaaW.PrintWords Go.Proofs.YthhlmjcfhfkmdaaW.PrintLast Go.Proofs.YthhlmjcfhfkmdaaW.PrintMore
set_option linter.unusedVariables false
set_option linter.unusedSimpArgs false

def freeFrom : Nat → List Bool → List Int
  | _, [] => []
  | i, u :: r => (if u then [] else [(i : Int)]) ++ freeFrom (i + 1) r
def holesOf (ps : List Int) (sh : List S80) (l : List S58) : List Int := (matchTo ps sh l (List.replicate sh.length false)).1
def usedOf (ps : List Int) (sh : List S80) (l : List S58) : List Bool := (matchTo ps sh l (List.replicate sh.length false)).2
theorem useAt_len (us : List Bool) (i : Int) : (useAt us i).length = us.length := by unfold useAt; split <;> simp
set_option maxHeartbeats 8000000 in
set_option maxRecDepth 100000 in
theorem matched_c (Ap : Option Addr) (cp : Nat) (x : S40) (A1 : Option Addr) (c1 : Nat) (l : List S58) (A2 : Option Addr) (c2 : Nat) (sh : List S80) (w : World)
    (hp : Kd.C (Kd.int .i64) w Ap x.f0.length x.f0) (hcp : x.f0.length ≤ cp) (hr1 : Kd.C k58 w A1 l.length l) (hc1 : l.length ≤ c1) (hr2 : Kd.C k80 w A2 sh.length sh) (hc2 : sh.length ≤ c2)
    (hx : x.f0.length ≤ 20) (hl : l.length ≤ 1000) (hs : sh.length ≤ 1000) (hpos : ∀ h ∈ sh, 0 ≤ h.f0) :
    Calls Try.prog 63 #[.agg #[.slice Ap x.f0.length cp, .int .i64 x.f1], .slice A1 l.length c1, .slice A2 sh.length c2] w fun e w' => ∃ v1 v2, e = .returned (.tuple #[v1, v2]) ∧ Kd.R (Kd.int .i64) 3 w' w.heap.size (fun _ => True) v1 (holesOf x.f0 sh l) ∧ Kd.R (Kd.int .i64) 3 w' w.heap.size (fun _ => True) v2 (freeFrom 0 (usedOf x.f0 sh l)) ∧ Below w.heap.size w w' := by
  have HP := Aside0.mk hp
  have HR1 := Aside0.mk hr1
  have HR2 := Aside0.mk hr2
  have HPos := Aside0.mk hpos
  clear hp hr1 hr2 hpos
  have hu40 := Try.underlying40
  have hu58 := Try.underlying58
  have hu80 := Try.underlying80
  go_enter Try.func63, Try.ntmps63
  go_wp2_with (first | ((with_reducible refine gate_dst (N := 3) rfl ?_); refine box_event ?hg (N := 3) ?hd (cs := #[.slice Ap x.f0.length cp, .int .i64 x.f1]) (t := 40) ?hr ?_; (case hd => rfl); (case hg => rfl); (case hr => first | (go_simp; done) | (go_simp; rfl)); intro gi hg w1 hbox hb; have BI := Aside0.mk hbox; have HGI := Aside0.mk hg; have HB1 := Aside0.mk hb; clear hg hbox hb) | ((with_reducible refine gate_dst (N := 20) rfl ?_); refine Kd.R_make Kd.bool _ 4 rfl (N := 20) rfl 103 _ _ rfl (sh.length : Int) rfl rfl Try.underlying103 (.bool false) 1 info4 rfl (by decide) (by omega) false (ok := fun _ => True) (okp := fun _ => True) rfl (fun _ hk => hk) trivial (by omega) (by omega) (Below.refl _ _) (Nat.le_refl _) ?_; intro vu w2 ho hb hg_ hnew_; clear hg_ hnew_; have HU := Aside0.mk (Kd.R_lower (Kd.R_mono (Kd.R_bound ho) (fun k hk => (hk.2.2.1 : k < w2.heap.size))) HB1.out.size); have BI2 := Aside0.mk (blk_below BI.out hb); have HB2 := Aside0.mk (below_on HB1.out HB1.out.size hb); clear ho hb) | ((with_reducible refine gate_dst (N := 21) rfl ?_); refine Kd.R_lit (Kd.int .i64) _ 3 ?hg (N := 21) ?hd (xs := ([] : List Int)) (inner := []) (ok := fun _ => True) (okp := fun _ => True) ?hr ?hp (fun _ hk => hk) trivial (Below.refl _ _) (Nat.le_refl _) (by simp) ?_; (case hd => rfl); (case hg => rfl); (case hr => first | (go_simp; done) | (go_simp; rfl)); (case hp => exact (Reps.none _ _)); intro v9 w3 ho hb hg_ hnew_; clear hg_ hnew_; have HO3 := Aside0.mk ho; have HU3 := Aside0.mk (Kd.R_below HU.out hb); have BI3 := Aside0.mk (blk_below BI2.out hb); have HB3 := Aside0.mk (below_on HB2.out HB2.out.size hb); have HSZ := Aside0.mk hb.size; clear ho hb))
  obtain ⟨B2, hB2⟩ : ∃ b, b = w2.heap.size := ⟨_, rfl⟩
  rw [← hB2] at HO3 HU3
  have HBB := Aside0.mk (show w.heap.size ≤ B2 ∧ gi < B2 from ⟨by rw [hB2]; exact HB2.out.size, by rw [hB2]; exact blk_lt BI2.out⟩)
  have HUL := Aside0.mk (show (List.replicate (sh.length : Int).toNat false).length = sh.length by simp)
  have HSZ2 := Aside0.mk (show B2 ≤ w3.heap.size by rw [hB2]; exact HSZ.out)
  clear HU BI BI2 HB1 HB2 HGI hB2 HSZ
  rw [Int.toNat_natCast] at HU3 HUL
  obtain ⟨Au, cu, hvu⟩ : ∃ Au cu, vu = .slice Au sh.length cu := by
    obtain ⟨A', c', e⟩ := Kd.R_slice HU3.out
    exact ⟨A', c', by rw [e]; simp⟩
  subst hvu
  go_loopg [9, 24] l.length (fun gk v9 v24 wr => ∃ (pre suf : List S58) (us : List Bool) (outs : List Int), Aside0 (l = pre ++ suf) ∧ v24 = .int .i64 (pre.length : Int) ∧ Aside0 (gk = suf.length) ∧ Aside0 (us.length = sh.length ∧ outs.length = pre.length ∧ holesOf x.f0 sh l = outs ++ (matchTo x.f0 sh suf us).1 ∧ usedOf x.f0 sh l = (matchTo x.f0 sh suf us).2) ∧ Aside0 (Kd.R Kd.bool 4 wr w.heap.size (fun k => k < B2) (.slice Au sh.length cu) us) ∧ Aside0 (Kd.R (Kd.int .i64) 3 wr B2 (fun _ => True) v9 outs) ∧ Aside0 (wr.heap[gi]? = some (.cells #[.slice Ap x.f0.length cp, .int .i64 x.f1] 40 (0, 0))) ∧ Aside0 (Below w.heap.size w wr) ∧ Aside0 (B2 ≤ wr.heap.size))
  case atStart => exact ⟨[], l, List.replicate sh.length false, [], ⟨rfl⟩, rfl, ⟨rfl⟩, ⟨HUL.out, rfl, rfl, rfl⟩, HU3, HO3, BI3, HB3, HSZ2⟩
  case round =>
    clear HU3 HO3 BI3 HB3 HSZ2
    obtain ⟨pre, suf, us, outs, HE, rfl, HG, HM, HU, HO, BI, HB, HSZ⟩ := hrel
    cases suf with
    | nil =>
      have hlt : ¬ pre.length < l.length := by have := HE.out; rw [this]; simp
      have hle : pre.length ≤ l.length := by have := HE.out; rw [this]; simp
      go_upto_region 18 with (first | ((with_reducible refine gate_dst (N := 65) rfl ?_); refine Kd.R_lit (Kd.int .i64) _ 3 ?hg (N := 65) ?hd (xs := ([] : List Int)) (inner := []) (ok := fun _ => True) (okp := fun _ => True) ?hr ?hp (fun _ hk => hk) trivial (Below.refl _ _) (Nat.le_refl _) (by simp) ?_; (case hd => rfl); (case hg => rfl); (case hr => first | (go_simp; done) | (go_simp; rfl)); (case hp => exact (Reps.none _ _)); intro v16 w5 ho hb hg_ hnew_; clear hg_ hnew_; have HX := Aside0.mk ho; have HU5 := Aside0.mk (Kd.R_below HU.out hb); have HO5 := Aside0.mk (Kd.R_below HO.out hb); have HX5 := Aside0.mk hb; have HB5 := Aside0.mk (below_on HB.out HB.out.size hb); clear ho hb))
      obtain ⟨B3, hB3⟩ : ∃ b, b = wr.heap.size := ⟨_, rfl⟩
      rw [← hB3] at HX
      have HB3 := Aside0.mk (show B2 ≤ B3 by rw [hB3]; exact HSZ.out)
      have HW3 := Aside0.mk (show w.heap.size ≤ B3 from Nat.le_trans HBB.out.1 HB3.out)
      have HO6 := Aside0.mk (Kd.R_step (Kd.R_mono (Kd.R_bound HO.out) (fun k hk => (show k < B3 by rw [hB3]; exact hk.2.2.1))) (fun k hk hlt => by
        have h := (Kd.R_below HO.out (Below.refl _ _))
        exact (HX5.out.block k hlt)))
      have HS5 := Aside0.mk (show B3 ≤ w5.heap.size by rw [hB3]; exact HX5.out.size)
      clear hB3 HO5 HX5 HU HO HB BI
      have HFin := Aside0.mk (show holesOf x.f0 sh l = outs ∧ usedOf x.f0 sh l = us from by have h := HM.out.2.2; simpa [matchTo] using h)
      have HUL := Aside0.mk HM.out.1
      clear HM HSZ
      go_wp2_with fail
      go_loopg [16, 68] sh.length (fun gk3 v16 v68 wr => ∃ (upre usuf : List Bool) (ex : List Int), Aside0 (us = upre ++ usuf) ∧ v68 = .int .i64 (upre.length : Int) ∧ Aside0 (gk3 = usuf.length) ∧ Aside0 (freeFrom 0 us = ex ++ freeFrom upre.length usuf ∧ ex.length ≤ upre.length) ∧ Aside0 (Kd.R Kd.bool 4 wr w.heap.size (fun k => k < B2) (.slice Au sh.length cu) us) ∧ Aside0 (Kd.R (Kd.int .i64) 3 wr B2 (fun k => k < B3) u9 outs) ∧ Aside0 (Kd.R (Kd.int .i64) 3 wr B3 (fun _ => True) v16 ex) ∧ Aside0 (Below w.heap.size w wr) ∧ Aside0 (B3 ≤ wr.heap.size))
      case atStart => exact ⟨[], us, [], ⟨rfl⟩, rfl, ⟨by rw [HUL.out]⟩, ⟨rfl, Nat.le_refl _⟩, HU5, HO6, HX, HB5, HS5⟩
      case round =>
        clear HU5 HO6 HX HB5 HS5
        obtain ⟨upre, usuf, ex, HE3, rfl, HG3, HF3, HU, HO, HX, HB, HSZ⟩ := hrel
        cases usuf with
        | nil =>
          have hlt3 : ¬ upre.length < sh.length := by have := HE3.out; have h2 := HUL.out; rw [this] at h2; simp at h2; omega
          have hle3 : upre.length ≤ sh.length := by have := HE3.out; have h2 := HUL.out; rw [this] at h2; simp at h2; omega
          have HFx := Aside0.mk (show freeFrom 0 us = ex from by have h := HF3.out.1; simpa [freeFrom] using h)
          go_wp2_with fail
          go_ret2
          exact ⟨u9, u16, rfl, by rw [HFin.out.1]; exact Kd.R_mono (Kd.R_lower HO.out HBB.out.1) (fun _ _ => trivial), by rw [HFin.out.2, HFx.out]; exact Kd.R_lower HX.out HW3.out, HB.out⟩
        | cons u usuf =>
          have hul : us.length = upre.length + usuf.length + 1 := by have := HE3.out; rw [this]; simp; omega
          have hlt3 : upre.length < sh.length := by have h2 := HUL.out; omega
          obtain ⟨adu, e, hcu⟩ := Kd.at_bool (Kd.R_reads' HU.out).2.2 (upre.length : Int) (by omega) (by omega)
          cases e
          rw [show rdOf false us (upre.length : Int) = u by rw [HE3.out]; simp [rdOf], Int.toNat_natCast] at hcu
          clear hul
          cases u with
          | true =>
            have HF4 := Aside0.mk (show freeFrom 0 us = ex ++ freeFrom (upre ++ [true]).length usuf ∧ ex.length ≤ (upre ++ [true]).length from ⟨by rw [HF3.out.1]; simp [freeFrom], by have := HF3.out.2; simp; omega⟩)
            go_wp2_with fail
            go_roundg usuf.length
            case measure => have := HG3.out; simp at this; omega
            case rel => exact ⟨upre ++ [true], usuf, ex, ⟨by rw [HE3.out]; simp⟩, by simp, ⟨rfl⟩, HF4, HU, HO, HX, HB, HSZ⟩
          | false =>
            have HF4 := Aside0.mk (show freeFrom 0 us = (ex ++ [(upre.length : Int)]) ++ freeFrom (upre ++ [false]).length usuf ∧ (ex ++ [(upre.length : Int)]).length ≤ (upre ++ [false]).length from ⟨by rw [HF3.out.1]; simp [freeFrom], by have := HF3.out.2; simp; omega⟩)
            obtain ⟨Av, cv, rfl⟩ := Kd.R_slice HX.out
            have HLx := Aside0.mk HF3.out.2
            have hus := hlt3
            go_wp2_with (first | (at_builtin; refine Kd.R_append (Kd.int .i64) (w0 := wr) B3 rfl (.tmp 76) (.tmp 78) 24 3 (.int .i64 0) 8 rfl Try.underlying24 info3 rfl (by decide) (by omega) _ ex (upre.length : Int) [.int .i64 (upre.length : Int)] (fun _ => True) (fun _ => False) rfl rfl ?aP (fun _ hk => hk.elim) ?aF ?aO ?aB ?aS ?aL ?_; (case aP => exact rfl); (case aB => exact Below.refl _ _); (case aF => exact (fun _ _ => trivial)); (case aO => exact HX.out); (case aS => exact HSZ.out); (case aL => have := HLx.out; omega); intro v16' w16 ho hb _ _; have HX2 := Aside0.mk ho; have HU2 := Aside0.mk (Kd.R_step HU.out (fun k hk _ => hb.block k (Nat.lt_of_lt_of_le hk HB3.out))); have HO2 := Aside0.mk (Kd.R_step HO.out (fun k hk _ => hb.block k hk)); have HBx := Aside0.mk (HB.out.trans (hb.mono HW3.out)); have HSx := Aside0.mk (Nat.le_trans HSZ.out hb.size); clear ho hb))
            go_roundg usuf.length
            case measure => have := HG3.out; simp at this; omega
            case rel => exact ⟨upre ++ [false], usuf, ex ++ [(upre.length : Int)], ⟨by rw [HE3.out]; simp⟩, by simp, ⟨rfl⟩, HF4, HU2, HO2, HX2, HBx, HSx⟩
    | cons y suf =>
      have hlt : pre.length < l.length := by have := HE.out; rw [this]; simp
      obtain ⟨ad, e, hx0, hx1, hx2⟩ := at_T58 HR1.out (pre.length : Int) (by omega) (by omega)
      cases e
      rw [show rd_T58 l (pre.length : Int) = y by rw [HE.out]; exact rd58_at pre suf y] at hx0 hx1 hx2
      replace hx0 := (HB.out.cell (World.block_lt_of_cell? w _ hx0)).trans hx0
      replace hx1 := (HB.out.cell (World.block_lt_of_cell? w _ hx1)).trans hx1
      replace hx2 := (HB.out.cell (World.block_lt_of_cell? w _ hx2)).trans hx2
      rw [Int.toNat_natCast] at hx0 hx1 hx2
      go_upto_region 6 with (first | ((with_reducible refine gate_dst (N := 11) rfl ?_); refine box_event ?hg (N := 11) ?hd (cs := #[.int .i64 0, .int .i64 0, .int .i64 0]) (t := 58) ?hr ?_; (case hd => rfl); (case hg => rfl); (case hr => first | (go_simp; done) | (go_simp; rfl)); intro gn hg w8 hbox hb; have HGN := Aside0.mk hg; have BN := Aside0.mk hbox; have HB8 := Aside0.mk hb; have hz0 : w8.cell? ⟨gn, 0, none⟩ = some (.int .i64 0) := (blk_cell BN.out 0).trans rfl; have hz1 : w8.cell? ⟨gn, 1, none⟩ = some (.int .i64 0) := (blk_cell BN.out 1).trans rfl; have hz2 : w8.cell? ⟨gn, 2, none⟩ = some (.int .i64 0) := (blk_cell BN.out 2).trans rfl; have hf0 := blk_frozen BN.out 0; have hf1 := blk_frozen BN.out 1; have hf2 := blk_frozen BN.out 2; clear hg hbox hb))
      refine wp_world (F := fun wz => Aside0 (wz.heap[gn]? = some (.cells #[.int .i64 y.f0, .int .i64 y.f1, .int .i64 y.f2] 58 (0, 0))) ∧ Aside0 (Below wr.heap.size wr wz)) ?facts ?_
      case facts =>
        have hge : wr.heap.size ≤ gn := by rw [HGN.out]; exact Nat.le_refl _
        exact ⟨⟨blk_put (blk_put (blk_put BN.out 0 _ rfl) 1 _ rfl) 2 _ rfl⟩, ⟨below_set (below_set (below_set HB8.out hge) hge) hge⟩⟩
      clear hz0 hz1 hz2 hf0 hf1 hf2 BN HB8 hx0 hx1 hx2
      intro wz ⟨BN, HBZ⟩
      have HBW := Aside0.mk (below_on HB.out HB.out.size HBZ.out)
      have HUZ := Aside0.mk (Kd.R_below HU.out HBZ.out)
      have HOZ := Aside0.mk (Kd.R_below HO.out HBZ.out)
      have BIZ := Aside0.mk (blk_below BI.out HBZ.out)
      have HSZZ := Aside0.mk (Nat.le_trans HSZ.out HBZ.out.size)
      have hn0 : wz.cell? ⟨gn, 0, none⟩ = some (.int .i64 y.f0) := (blk_cell BN.out 0).trans rfl
      have hi0 : wz.cell? ⟨gi, 0, none⟩ = some (.slice Ap x.f0.length cp) := (blk_cell BIZ.out 0).trans rfl
      clear HB HU HO BI HSZ HBZ
      go_wp2_with fail
      refine (idx_c Ap cp x.f0 y.f0 wz (Kd.C_below HP.out HBW.out) hcp (by omega)).mono ?_
      rintro e wi ⟨rfl, hb⟩
      have HBW2 := Aside0.mk (below_on HBW.out HBW.out.size hb)
      have HU2 := Aside0.mk (Kd.R_below HUZ.out hb)
      have HO2 := Aside0.mk (Kd.R_below HOZ.out hb)
      have BI2 := Aside0.mk (blk_below BIZ.out hb)
      have HSZ2 := Aside0.mk (Nat.le_trans HSZZ.out hb.size)
      clear hb hn0 hi0 HBW HUZ HOZ BIZ HSZZ BN
      obtain ⟨t, ht⟩ : ∃ t : Int, t = idx x.f0 y.f0 := ⟨_, rfl⟩
      rw [← ht]
      have HT := Aside0.mk ht
      clear ht
      go_wp2_with fail
      have HLo := Aside0.mk (show outs.length ≤ 1000 by have h := HM.out.2.1; omega)
      have HUL := Aside0.mk HM.out.1
      have hsl : sh.length ≤ 1000 := hs
      go_loopg [13, 35] sh.length (fun gk2 v13 v35 wr => ∃ (spre ssuf : List S80) (upre usuf : List Bool), Aside0 (sh = spre ++ ssuf) ∧ Aside0 (us = upre ++ usuf) ∧ Aside0 (upre.length = spre.length) ∧ v13 = .int .i64 (-1) ∧ v35 = .int .i64 (spre.length : Int) ∧ Aside0 (gk2 = ssuf.length) ∧ Aside0 (pickTo t 0 sh us = pickTo t (spre.length : Int) ssuf usuf) ∧ Aside0 (Below wi.heap.size wi wr))
      case atStart => exact ⟨[], sh, [], us, ⟨rfl⟩, ⟨rfl⟩, ⟨rfl⟩, rfl, rfl, ⟨rfl⟩, ⟨rfl⟩, ⟨Below.refl _ _⟩⟩
      case round =>
        obtain ⟨spre, ssuf, upre, usuf, HES, HEU, HEL, rfl, rfl, HGS, HK, HBI⟩ := hrel
        have HUI := Aside0.mk (Kd.R_below HU2.out HBI.out)
        have HOI := Aside0.mk (Kd.R_below HO2.out HBI.out)
        have BII := Aside0.mk (blk_below BI2.out HBI.out)
        have HSI := Aside0.mk (Nat.le_trans HSZ2.out HBI.out.size)
        have HBWI := Aside0.mk (below_on HBW2.out HBW2.out.size HBI.out)
        cases ssuf with
        | nil =>
          have hlt2 : ¬ spre.length < sh.length := by have := HES.out; rw [this]; simp
          have hle2 : spre.length ≤ sh.length := by have := HES.out; rw [this]; simp
          have hpk : pickTo t 0 sh us = -1 := by rw [HK.out]; simp [pickTo]
          have HM2 := Aside0.mk (show us.length = sh.length ∧ (outs ++ [-1]).length = (pre ++ [y]).length ∧ holesOf x.f0 sh l = (outs ++ [-1]) ++ (matchTo x.f0 sh suf us).1 ∧ usedOf x.f0 sh l = (matchTo x.f0 sh suf us).2 from by
            have h := HM.out
            refine ⟨h.1, by simp [h.2.1], ?_, ?_⟩
            · rw [h.2.2.1]; simp only [matchTo]; rw [← HT.out, hpk]; simp [useAt]
            · rw [h.2.2.2]; simp only [matchTo]; rw [← HT.out, hpk]; simp [useAt])
          clear hpk
          obtain ⟨Av, cv, rfl⟩ := Kd.R_slice HOI.out
          go_wp2_with (first | (at_builtin; refine Kd.R_append (Kd.int .i64) (w0 := wr) B2 rfl (.tmp 60) (.tmp 62) 24 3 (.int .i64 0) 8 rfl Try.underlying24 info3 rfl (by decide) (by omega) _ outs (-1) [.int .i64 (-1)] (fun _ => True) (fun _ => False) rfl rfl ?aP (fun _ hk => hk.elim) ?aF ?aO ?aB ?aS ?aL ?_; (case aP => exact rfl); (case aB => exact Below.refl _ _); (case aF => exact (fun _ _ => trivial)); (case aO => exact HOI.out); (case aS => exact HSI.out); (case aL => have := HLo.out; omega); intro v9' w9 ho hb _ _; have HO9 := Aside0.mk ho; have HB9 := Aside0.mk hb; clear ho hb))
          go_roundg suf.length
          case measure => have := HG.out; simp at this; omega
          case rel => exact ⟨pre ++ [y], suf, us, outs ++ [-1], ⟨by rw [HE.out]; simp⟩, by simp, ⟨rfl⟩, HM2, ⟨Kd.R_step HUI.out (fun k hk _ => HB9.out.block k hk)⟩, HO9, ⟨(HB9.out.block gi HBB.out.2).trans BII.out⟩, ⟨HBWI.out.trans (HB9.out.mono HBB.out.1)⟩, ⟨Nat.le_trans HSI.out HB9.out.size⟩⟩
        | cons h ssuf =>
          have hlt2 : spre.length < sh.length := by have := HES.out; rw [this]; simp
          cases usuf with
          | nil => exact absurd HUL.out (by have h1 := HEU.out; have h2 := HEL.out; rw [h1]; simp; omega)
          | cons u usuf =>
            obtain ⟨ads, e, hx0, hx1, hx2⟩ := at_T80 HR2.out (spre.length : Int) (by omega) (by omega)
            cases e
            rw [show rd_T80 sh (spre.length : Int) = h by rw [HES.out]; exact rd80_at spre ssuf h] at hx0 hx1 hx2
            replace hx0 := (HBWI.out.cell (World.block_lt_of_cell? w _ hx0)).trans hx0
            replace hx1 := (HBWI.out.cell (World.block_lt_of_cell? w _ hx1)).trans hx1
            replace hx2 := (HBWI.out.cell (World.block_lt_of_cell? w _ hx2)).trans hx2
            rw [Int.toNat_natCast] at hx0 hx1 hx2
            go_upto_region 11 with (first | ((with_reducible refine gate_dst (N := 15) rfl ?_); refine box_event ?hg (N := 15) ?hd (cs := #[.int .i64 0, .int .i64 0, .int .i64 0]) (t := 80) ?hr ?_; (case hd => rfl); (case hg => rfl); (case hr => first | (go_simp; done) | (go_simp; rfl)); intro gh hg w8 hbox hb; have HGH := Aside0.mk hg; have BH := Aside0.mk hbox; have HB8 := Aside0.mk hb; have hz0 : w8.cell? ⟨gh, 0, none⟩ = some (.int .i64 0) := (blk_cell BH.out 0).trans rfl; have hz1 : w8.cell? ⟨gh, 1, none⟩ = some (.int .i64 0) := (blk_cell BH.out 1).trans rfl; have hz2 : w8.cell? ⟨gh, 2, none⟩ = some (.int .i64 0) := (blk_cell BH.out 2).trans rfl; have hf0 := blk_frozen BH.out 0; have hf1 := blk_frozen BH.out 1; have hf2 := blk_frozen BH.out 2; clear hg hbox hb))
            refine wp_world (F := fun wz => Aside0 (wz.heap[gh]? = some (.cells #[.int .i64 h.f0, .int .i64 h.f1, .int .i64 h.f2] 80 (0, 0))) ∧ Aside0 (Below wr.heap.size wr wz)) ?facts ?_
            case facts =>
              have hge : wr.heap.size ≤ gh := by rw [HGH.out]; exact Nat.le_refl _
              exact ⟨⟨blk_put (blk_put (blk_put BH.out 0 _ rfl) 1 _ rfl) 2 _ rfl⟩, ⟨below_set (below_set (below_set HB8.out hge) hge) hge⟩⟩
            clear hz0 hz1 hz2 hf0 hf1 hf2 BH HB8 hx0 hx1 hx2
            intro wz ⟨BH, HBZ⟩
            have HBIZ := Aside0.mk (below_on HBI.out HBI.out.size HBZ.out)
            have HUZ := Aside0.mk (Kd.R_below HUI.out HBZ.out)
            have hh0 : wz.cell? ⟨gh, 0, none⟩ = some (.int .i64 h.f0) := (blk_cell BH.out 0).trans rfl
            have hul : us.length = sh.length := HUL.out
            obtain ⟨gu, cu', hgu, hgub, hgul, cellsu, hcellsu⟩ := Kd.R_form HUZ.out (by omega)
            obtain ⟨adu, e, hcu⟩ := Kd.at_bool (Kd.R_reads' HUZ.out).2.2 (spre.length : Int) (by omega) (by omega)
            cases e
            have hadu : adu = ⟨gu, 0, none⟩ := by injection hgu with e1 _ _; injection e1
            subst hadu
            rw [show rdOf false us (spre.length : Int) = u by rw [HEU.out, ← HEL.out]; simp [rdOf], Int.toNat_natCast] at hcu
            have hfu := blk_frozen hcellsu spre.length
            have hp0 : 0 ≤ h.f0 := HPos.out h (by rw [HES.out]; simp)
            have hcu2 := hcu
            rw [add_plain] at hcu2
            clear hcu
            by_cases hcase : h.f0 = t ∧ u = false
            · obtain ⟨h1, rfl⟩ := hcase
              have ht0 : 0 ≤ t := by omega
              have d0 : decide (0 ≤ t) = true := decide_eq_true ht0
              have d1 : (h.f0 == t) = true := beq_iff_eq.mpr h1
              have hpk : pickTo t 0 sh us = (spre.length : Int) := by rw [HK.out]; simp [pickTo, h1]
              have hset : useAt us (spre.length : Int) = us.set spre.length true := by simp [useAt]
              have HM2 := Aside0.mk (show (us.set spre.length true).length = sh.length ∧ (outs ++ [(spre.length : Int)]).length = (pre ++ [y]).length ∧ holesOf x.f0 sh l = (outs ++ [(spre.length : Int)]) ++ (matchTo x.f0 sh suf (us.set spre.length true)).1 ∧ usedOf x.f0 sh l = (matchTo x.f0 sh suf (us.set spre.length true)).2 from by
                have h := HM.out
                refine ⟨by simp [h.1], by simp [h.2.1], ?_, ?_⟩
                · rw [h.2.2.1]; simp only [matchTo]; rw [← HT.out, hpk, hset]; simp
                · rw [h.2.2.2]; simp only [matchTo]; rw [← HT.out, hpk, hset])
              have HGU := Aside0.mk (show gu < B2 from by
                have h := HUZ.out.1 gu (by simp [Value.ownBlock])
                exact h)
              have HH1 := Aside0.mk h1
              have hgub' := hgub
              clear hpk hset h1 ht0 hgu hgub hgul
              go_upto_region 15 with (fail)
              refine wp_world (F := fun wq => Aside0 (Kd.R Kd.bool 4 wq w.heap.size (fun k => k < B2) (.slice (some ⟨gu, 0, none⟩) sh.length cu) (us.set spre.length true)) ∧ Aside0 (Kd.R (Kd.int .i64) 3 wq B2 (fun _ => True) u9 outs) ∧ Aside0 (wq.heap[gi]? = some (.cells #[.slice Ap x.f0.length cp, .int .i64 x.f1] 40 (0, 0))) ∧ Aside0 (Below w.heap.size w wq) ∧ Aside0 (B2 ≤ wq.heap.size)) ?facts ?_
              case facts =>
                have hB1 := below_on HBW2.out HBW2.out.size HBIZ.out
                refine ⟨⟨?_⟩, ⟨?_⟩, ⟨?_⟩, ⟨?_⟩, ⟨?_⟩⟩
                · have h := Kd.R_putn HUZ.out (spre.length : Int) true
                  exact h
                · have h0 := Kd.R_below HO2.out HBIZ.out
                  exact Kd.R_mono (Kd.R_far (p := ⟨gu, spre.length, none⟩) (Kd.R_bound h0) (fun k hk => by have h1 := hk.2.1; have h2 := HGU.out; show k ≠ gu; omega) _) (fun _ _ => trivial)
                · exact blk_far (blk_below BI2.out HBIZ.out) (by
                    have hne := blk_ne (blk_below BI2.out HBIZ.out) hcellsu (by decide)
                    exact hne) _
                · exact hB1.setCell hgub' _
                · exact Nat.le_trans (Nat.le_trans HSZ2.out HBIZ.out.size) (by simp)
              intro wq ⟨HUQ, HOQ, BIQ, HBQ, HSQ⟩
              obtain ⟨Av, cv, rfl⟩ := Kd.R_slice HOQ.out
              go_wp2_with (first | (at_builtin; refine Kd.R_append (Kd.int .i64) (w0 := wq) B2 rfl (.tmp 60) (.tmp 62) 24 3 (.int .i64 0) 8 rfl Try.underlying24 info3 rfl (by decide) (by omega) _ outs ((spre.length : Int)) [.int .i64 ((spre.length : Int))] (fun _ => True) (fun _ => False) rfl rfl ?aP (fun _ hk => hk.elim) ?aF ?aO ?aB ?aS ?aL ?_; (case aP => exact rfl); (case aB => exact Below.refl _ _); (case aF => exact (fun _ _ => trivial)); (case aO => exact HOQ.out); (case aS => exact HSQ.out); (case aL => have := HLo.out; omega); intro v9' w9 ho hb _ _; have HO9 := Aside0.mk ho; have HB9 := Aside0.mk hb; clear ho hb))
              go_roundg suf.length
              case measure => have := HG.out; simp at this; omega
              case rel => exact ⟨pre ++ [y], suf, us.set spre.length true, outs ++ [(spre.length : Int)], ⟨by rw [HE.out]; simp⟩, by simp, ⟨rfl⟩, HM2, ⟨Kd.R_step HUQ.out (fun k hk _ => HB9.out.block k hk)⟩, HO9, ⟨(HB9.out.block gi HBB.out.2).trans BIQ.out⟩, ⟨HBQ.out.trans (HB9.out.mono HBB.out.1)⟩, ⟨Nat.le_trans HSQ.out HB9.out.size⟩⟩
            · have HKN := Aside0.mk (show pickTo t 0 sh us = pickTo t ((spre ++ [h]).length : Int) ssuf usuf from by
                rw [HK.out]; simp only [pickTo]; rw [if_neg hcase]; simp)
              by_cases ht0 : 0 ≤ t
              · have d0 : decide (0 ≤ t) = true := decide_eq_true ht0
                by_cases h1 : h.f0 = t
                · have d1 : (h.f0 == t) = true := beq_iff_eq.mpr h1
                  have hu : u = true := by cases u with | true => rfl | false => exact absurd ⟨h1, rfl⟩ hcase
                  subst hu
                  clear hcase ht0 h1 hgu hgub hgul
                  skip
                  go_wp2_with fail
                  go_roundg ssuf.length
                  case measure => have := HGS.out; simp at this; omega
                  case rel => exact ⟨spre ++ [h], ssuf, upre ++ [true], usuf, ⟨by rw [HES.out]; simp⟩, ⟨by rw [HEU.out]; simp⟩, ⟨by simp [HEL.out]⟩, rfl, by simp, ⟨rfl⟩, HKN, HBIZ⟩
                · have d1 : (h.f0 == t) = false := by simpa using h1
                  clear hcase ht0 h1 hgu hgub hgul
                  skip
                  go_wp2_with fail
                  go_roundg ssuf.length
                  case measure => have := HGS.out; simp at this; omega
                  case rel => exact ⟨spre ++ [h], ssuf, upre ++ [u], usuf, ⟨by rw [HES.out]; simp⟩, ⟨by rw [HEU.out]; simp⟩, ⟨by simp [HEL.out]⟩, rfl, by simp, ⟨rfl⟩, HKN, HBIZ⟩
              · have d0 : decide (0 ≤ t) = false := decide_eq_false ht0
                clear hcase ht0 hgu hgub hgul
                skip
                go_wp2_with fail
                go_roundg ssuf.length
                case measure => have := HGS.out; simp at this; omega
                case rel => exact ⟨spre ++ [h], ssuf, upre ++ [u], usuf, ⟨by rw [HES.out]; simp⟩, ⟨by rw [HEU.out]; simp⟩, ⟨by simp [HEL.out]⟩, rfl, by simp, ⟨rfl⟩, HKN, HBIZ⟩
end Go.Proofs.Ythhlmjcfhfkmdaa.Cx
