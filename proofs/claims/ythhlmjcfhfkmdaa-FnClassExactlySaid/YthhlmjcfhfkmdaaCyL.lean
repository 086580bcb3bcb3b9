/- The walk of the reference's pyAll, in closed words. -/
import Derived.Test.YthhlmjcfhfkmdaaCyK
import Derived.IntWalk
namespace Go.Proofs.Ythhlmjcfhfkmdaa.Cx
open Go.RowKit Go.Proofs.Ythhlmjcfhfkmdaa.PFnClassExactly Go.Proofs.YthhlmjcfhfkmdaaW.PrintWords Go.Proofs.YthhlmjcfhfkmdaaW.PrintLast Go.Proofs.YthhlmjcfhfkmdaaW.PrintMore
set_option linter.unusedVariables false
set_option linter.unusedSimpArgs false

theorem okH_bd {h : S80} (k : okH h = true) : 0 ≤ h.f0 ∧ h.f0 ≤ 19 ∧ 0 ≤ h.f1 ∧ h.f1 < h.f2 ∧ h.f2 ≤ 2000 := by
  simp [okH] at k; omega
set_option maxHeartbeats 8000000 in
set_option maxRecDepth 100000 in
theorem spy_c (Ap : Option Addr) (cp : Nat) (x : S40) (A1 : Option Addr) (c1 : Nat) (sh : List S80) (a0 a1 a2 : Int) (w : World)
    (hp : Kd.C (Kd.int .i64) w Ap x.f0.length x.f0) (hcp : x.f0.length ≤ cp) (hr1 : Kd.C k80 w A1 sh.length sh) (hc1 : sh.length ≤ c1)
    (hx : x.f0.length ≤ 20) (hrep : 0 ≤ x.f1 ∧ x.f1 ≤ 20) (hs : sh.length ≤ 1000) (hok : ∀ h ∈ sh, okH h = true) (ha0 : 0 ≤ a0 ∧ a0 ≤ 40) (ha1 : 0 ≤ a1 ∧ a1 ≤ 40) :
    Calls Try.prog 75 #[.agg #[.slice Ap x.f0.length cp, .int .i64 x.f1], .slice A1 sh.length c1, .agg #[.int .i64 a0, .int .i64 a1, .int .i64 a2]] w fun e w' => ∃ v1 v2, e = .returned (.tuple #[v1, v2]) ∧ Kd.R k107 107 w' w.heap.size (fun _ => True) v1 (spoke x a0 a1 a2 sh).1 ∧ Kd.R (Kd.int .i64) 3 w' w.heap.size (fun _ => True) v2 (spoke x a0 a1 a2 sh).2 ∧ Below w.heap.size w w' := by
  have HP := Aside0.mk hp
  have HR1 := Aside0.mk hr1
  have HOk := Aside0.mk hok
  have HB := Aside0.mk (And.intro hrep (And.intro ha0 ha1))
  clear hp hr1 hok hrep ha0 ha1
  have hu40 := Try.underlying40
  have hu37 := Try.underlying37
  have hu80 := Try.underlying80
  go_enter Try.func75, Try.ntmps75
  go_wp2_with (first | ((with_reducible refine gate_dst (N := 3) rfl ?_); refine box_event ?hg (N := 3) ?hd (cs := #[.slice Ap x.f0.length cp, .int .i64 x.f1]) (t := 40) ?hr ?_; (case hd => rfl); (case hg => rfl); (case hr => first | (go_simp; done) | (go_simp; rfl)); intro gi hg w1 hbox hb; have BI := Aside0.mk hbox; have HB1 := Aside0.mk hb; clear hg hbox hb) | ((with_reducible refine gate_dst (N := 5) rfl ?_); refine box_event ?hg (N := 5) ?hd (cs := #[.int .i64 a0, .int .i64 a1, .int .i64 a2]) (t := 37) ?hr ?_; (case hd => rfl); (case hg => rfl); (case hr => first | (go_simp; done) | (go_simp; rfl)); intro ga hg w2 hbox hb; have BA := Aside0.mk hbox; have BI2 := Aside0.mk (blk_below BI.out hb); have HB2 := Aside0.mk (below_on HB1.out HB1.out.size hb); clear hg hbox hb) | ((with_reducible refine gate_dst (N := 16) rfl ?_); refine Kd.R_make (Kd.int .i64) _ 3 rfl (N := 16) rfl 24 _ _ rfl (20 : Int) rfl rfl Try.underlying24 (.int .i64 0) 8 info3 rfl (by decide) (by omega) (0 : Int) (ok := fun _ => True) (okp := fun _ => True) rfl (fun _ hk => hk) trivial (by omega) (by decide) (Below.refl _ _) (Nat.le_refl _) ?_; intro vl w3 ho hb hg_ hnew_; clear hg_ hnew_; have HL := Aside0.mk (Kd.R_lower (Kd.R_mono (Kd.R_bound ho) (fun k hk => (hk.2.2.1 : k < w3.heap.size))) HB2.out.size); have BI3 := Aside0.mk (blk_below BI2.out hb); have BA3 := Aside0.mk (blk_below BA.out hb); have HB3 := Aside0.mk (below_on HB2.out HB2.out.size hb); clear ho hb; (obtain ⟨Al, cl, hvl⟩ : ∃ Al cl, vl = Value.slice Al 20 cl := (by obtain ⟨A', c', e⟩ := Kd.R_slice HL.out; exact ⟨A', c', by rw [e]; rfl⟩)); subst hvl))
  obtain ⟨B2, hB2⟩ : ∃ b, b = w3.heap.size := ⟨_, rfl⟩
  rw [← hB2] at HL
  have HBB := Aside0.mk (show w.heap.size ≤ B2 ∧ gi < B2 ∧ ga < B2 from ⟨by rw [hB2]; exact HB3.out.size, by rw [hB2]; exact blk_lt BI3.out, by rw [hB2]; exact blk_lt BA3.out⟩)
  have HS3 := Aside0.mk (show B2 ≤ w3.heap.size by rw [hB2]; exact Nat.le_refl _)
  clear hB2 BI BI2 BA HB1 HB2
  have HL0 := Aside0.mk (show Kd.R (Kd.int .i64) 3 w3 w.heap.size (fun k => k < B2) (.slice Al 20 cl) (List.replicate 0 (-40) ++ List.replicate (20 - 0) 0) from HL.out)
  clear HL
  go_loopg [19] 20 (fun gk v19 wr => ∃ p : Nat, p ≤ 20 ∧ v19 = .int .i64 (p : Int) ∧ Aside0 (gk = 20 - p) ∧ Aside0 (Kd.R (Kd.int .i64) 3 wr w.heap.size (fun k => k < B2) (.slice Al 20 cl) (List.replicate p (-40) ++ List.replicate (20 - p) 0)) ∧ Aside0 (wr.heap[gi]? = some (.cells #[.slice Ap x.f0.length cp, .int .i64 x.f1] 40 (0, 0))) ∧ Aside0 (wr.heap[ga]? = some (.cells #[.int .i64 a0, .int .i64 a1, .int .i64 a2] 37 (0, 0))) ∧ Aside0 (Below w.heap.size w wr) ∧ Aside0 (B2 ≤ wr.heap.size))
  case atStart => exact ⟨0, by omega, rfl, ⟨rfl⟩, HL0, BI3, BA3, HB3, HS3⟩
  case round =>
    clear HL0 BI3 BA3 HB3 HS3
    obtain ⟨p, hp20, rfl, HG, HL, BI, BA, HBW, HSZ⟩ := hrel
    by_cases hlt : p < 20
    · obtain ⟨gl, cl', hgl, hglb, _, cellsl, hcellsl⟩ := Kd.R_form HL.out (by simp; omega)
      obtain ⟨adl, e, hcl⟩ := Kd.at_int (Kd.R_reads' HL.out).2.2 (p : Int) (by omega) (by simp; omega)
      cases e
      have hadl : adl = ⟨gl, 0, none⟩ := by injection hgl with e1 _ _; injection e1
      subst hadl
      rw [Int.toNat_natCast, add_plain] at hcl
      have hfl := blk_frozen hcellsl p
      have HGL := Aside0.mk (show gl < B2 from HL.out.1 gl (by simp [Value.ownBlock]))
      have hne1 := blk_ne BI.out hcellsl (by decide)
      have hne2 := blk_ne BA.out hcellsl (by decide)
      have HGB := Aside0.mk hglb
      clear hgl hglb
      have hset : (List.replicate p (-40 : Int) ++ List.replicate (20 - p) 0).set p (-40) = List.replicate (p + 1) (-40) ++ List.replicate (20 - (p + 1)) 0 := by
        rw [show 20 - p = (20 - (p + 1)) + 1 by omega, List.replicate_succ, List.set_append_right _ _ (by simp)]
        simp [List.replicate_succ']
      have HSet := Aside0.mk hset
      clear hset
      go_upto_region 8 with (fail)
      refine wp_world (F := fun wq => Aside0 (Kd.R (Kd.int .i64) 3 wq w.heap.size (fun k => k < B2) (.slice (some ⟨gl, 0, none⟩) 20 cl) (List.replicate (p + 1) (-40) ++ List.replicate (20 - (p + 1)) 0)) ∧ Aside0 (wq.heap[gi]? = some (.cells #[.slice Ap x.f0.length cp, .int .i64 x.f1] 40 (0, 0))) ∧ Aside0 (wq.heap[ga]? = some (.cells #[.int .i64 a0, .int .i64 a1, .int .i64 a2] 37 (0, 0))) ∧ Aside0 (Below w.heap.size w wq) ∧ Aside0 (B2 ≤ wq.heap.size)) ?facts ?_
      case facts =>
        refine ⟨⟨?_⟩, ⟨blk_far BI.out hne1 _⟩, ⟨blk_far BA.out hne2 _⟩, ⟨HBW.out.setCell HGB.out _⟩, ⟨Nat.le_trans HSZ.out (by simp)⟩⟩
        have h := Kd.R_putn HL.out (p : Int) (-40)
        rw [← HSet.out]
        exact h
      clear HL BI BA HBW HSZ hcl hfl hne1 hne2 hcellsl
      intro wq ⟨HL, BI, BA, HBW, HSZ⟩
      go_wp2_with fail
      go_roundg (20 - (p + 1))
      case measure => have := HG.out; omega
      case rel => exact ⟨p + 1, by omega, by simp, ⟨rfl⟩, HL, BI, BA, HBW, HSZ⟩
    · obtain rfl : p = 20 := by omega
      have HL2 := Aside0.mk (show Kd.R (Kd.int .i64) 3 wr w.heap.size (fun k => k < B2) (.slice Al 20 cl) (List.replicate 20 (-40)) from by have h := HL.out; simpa using h)
      have HO2 := Aside0.mk (Kd.R_nil k107 107 wr B2 (fun _ => True))
      have HX2 := Aside0.mk (Kd.R_nil (Kd.int .i64) 3 wr B2 (fun _ => True))
      clear HL
      go_wp2_with fail
      go_loopg [8, 9, 28] sh.length (fun gk2 v8 v9 v28 wr => ∃ (pre suf : List S80) (last : List Int) (outs : List S107) (sil : List Int), Aside0 (sh = pre ++ suf) ∧ v28 = .int .i64 (pre.length : Int) ∧ Aside0 (gk2 = suf.length) ∧ Aside0 (last.length = 20 ∧ outs.length + sil.length = pre.length ∧ (spoke x a0 a1 a2 sh).1 = outs ++ (speak x a0 a1 a2 last pre.length suf).1 ∧ (spoke x a0 a1 a2 sh).2 = sil ++ (speak x a0 a1 a2 last pre.length suf).2) ∧ Aside0 (∀ t : Int, -40 ≤ rd last t ∧ rd last t ≤ 2000) ∧ Aside0 (Kd.R (Kd.int .i64) 3 wr w.heap.size (fun k => k < B2) (.slice Al 20 cl) last) ∧ Aside0 (Kd.R k107 107 wr B2 (fun _ => True) v8 outs) ∧ Aside0 (Kd.R (Kd.int .i64) 3 wr B2 (fun _ => True) v9 sil) ∧ Aside0 (wr.heap[gi]? = some (.cells #[.slice Ap x.f0.length cp, .int .i64 x.f1] 40 (0, 0))) ∧ Aside0 (wr.heap[ga]? = some (.cells #[.int .i64 a0, .int .i64 a1, .int .i64 a2] 37 (0, 0))) ∧ Aside0 (Below w.heap.size w wr) ∧ Aside0 (B2 ≤ wr.heap.size))
      case atStart => exact ⟨[], sh, List.replicate 20 (-40), [], [], ⟨rfl⟩, rfl, ⟨rfl⟩, ⟨rfl, rfl, rfl, rfl⟩, ⟨fun t => by
        unfold rd
        rw [List.getD_eq_getElem?_getD, List.getElem?_replicate]
        split <;> simp⟩, HL2, HO2, HX2, BI, BA, HBW, HSZ⟩
      case round =>
        clear HL2 HO2 HX2 BI BA HBW HSZ
        obtain ⟨pre, suf, last, outs, sil, HE, rfl, HG2, HM, HLast, HL, HO, HX, BI, BA, HBW, HSZ⟩ := hrel
        cases suf with
        | nil =>
          have hlt2 : ¬ pre.length < sh.length := by have := HE.out; rw [this]; simp
          have hle2 : pre.length ≤ sh.length := by have := HE.out; rw [this]; simp
          have HFin := Aside0.mk (show (spoke x a0 a1 a2 sh).1 = outs ∧ (spoke x a0 a1 a2 sh).2 = sil from by have h := HM.out.2.2; simpa [speak] using h)
          go_wp2_with fail
          go_ret2
          exact ⟨u8, u9, rfl, by rw [HFin.out.1]; exact Kd.R_lower HO.out HBB.out.1, by rw [HFin.out.2]; exact Kd.R_lower HX.out HBB.out.1, HBW.out⟩
        | cons h suf =>
          have hlt2 : pre.length < sh.length := by have := HE.out; rw [this]; simp
          obtain ⟨ads, e, hx0, hx1, hx2⟩ := at_T80 HR1.out (pre.length : Int) (by omega) (by omega)
          cases e
          rw [show rd_T80 sh (pre.length : Int) = h by rw [HE.out]; exact rd80_at pre suf h] at hx0 hx1 hx2
          replace hx0 := (HBW.out.cell (World.block_lt_of_cell? w _ hx0)).trans hx0
          replace hx1 := (HBW.out.cell (World.block_lt_of_cell? w _ hx1)).trans hx1
          replace hx2 := (HBW.out.cell (World.block_lt_of_cell? w _ hx2)).trans hx2
          rw [Int.toNat_natCast] at hx0 hx1 hx2
          go_upto_region 12 with (first | ((with_reducible refine gate_dst (N := 13) rfl ?_); refine box_event ?hg (N := 13) ?hd (cs := #[.int .i64 0, .int .i64 0, .int .i64 0]) (t := 80) ?hr ?_; (case hd => rfl); (case hg => rfl); (case hr => first | (go_simp; done) | (go_simp; rfl)); intro gh hg w8 hbox hb; have HGH := Aside0.mk hg; have BH := Aside0.mk hbox; have HB8 := Aside0.mk hb; have hz0 : w8.cell? ⟨gh, 0, none⟩ = some (.int .i64 0) := (blk_cell BH.out 0).trans rfl; have hz1 : w8.cell? ⟨gh, 1, none⟩ = some (.int .i64 0) := (blk_cell BH.out 1).trans rfl; have hz2 : w8.cell? ⟨gh, 2, none⟩ = some (.int .i64 0) := (blk_cell BH.out 2).trans rfl; have hf0 := blk_frozen BH.out 0; have hf1 := blk_frozen BH.out 1; have hf2 := blk_frozen BH.out 2; clear hg hbox hb))
          refine wp_world (F := fun wy => Aside0 (wy.heap[gh]? = some (.cells #[.int .i64 h.f0, .int .i64 h.f1, .int .i64 h.f2] 80 (0, 0))) ∧ Aside0 (Below wr.heap.size wr wy)) ?facts ?_
          case facts =>
            have hge : wr.heap.size ≤ gh := by rw [HGH.out]; exact Nat.le_refl _
            exact ⟨⟨blk_put (blk_put (blk_put BH.out 0 _ rfl) 1 _ rfl) 2 _ rfl⟩, ⟨below_set (below_set (below_set HB8.out hge) hge) hge⟩⟩
          clear hz0 hz1 hz2 hf0 hf1 hf2 BH HB8 hx0 hx1 hx2
          intro wy ⟨BH, HBY⟩
          have HLY := Aside0.mk (Kd.R_below HL.out HBY.out)
          have HOY := Aside0.mk (Kd.R_below HO.out HBY.out)
          have HXY := Aside0.mk (Kd.R_below HX.out HBY.out)
          have BIY := Aside0.mk (blk_below BI.out HBY.out)
          have BAY := Aside0.mk (blk_below BA.out HBY.out)
          have HBWY := Aside0.mk (below_on HBW.out HBW.out.size HBY.out)
          have HSY := Aside0.mk (Nat.le_trans HSZ.out HBY.out.size)
          clear HL HO HX BI BA HBW HSZ HBY
          have bd := okH_bd (HOk.out h (by rw [HE.out]; simp))
          have hlast := HLast.out h.f0
          have hb := HB.out
          have hh0 : wy.cell? ⟨gh, 0, none⟩ = some (.int .i64 h.f0) := (blk_cell BH.out 0).trans rfl
          have hh1 : wy.cell? ⟨gh, 1, none⟩ = some (.int .i64 h.f1) := (blk_cell BH.out 1).trans rfl
          have hh2 : wy.cell? ⟨gh, 2, none⟩ = some (.int .i64 h.f2) := (blk_cell BH.out 2).trans rfl
          have hA0 : wy.cell? ⟨ga, 0, none⟩ = some (.int .i64 a0) := (blk_cell BAY.out 0).trans rfl
          have hA1 : wy.cell? ⟨ga, 1, none⟩ = some (.int .i64 a1) := (blk_cell BAY.out 1).trans rfl
          have hA2 : wy.cell? ⟨ga, 2, none⟩ = some (.int .i64 a2) := (blk_cell BAY.out 2).trans rfl
          have hI0 : wy.cell? ⟨gi, 0, none⟩ = some (.slice Ap x.f0.length cp) := (blk_cell BIY.out 0).trans rfl
          have hI1 : wy.cell? ⟨gi, 1, none⟩ = some (.int .i64 x.f1) := (blk_cell BIY.out 1).trans rfl
          have hl20 : last.length = 20 := HM.out.1
          obtain ⟨adl, e, hcl⟩ := Kd.at_int (Kd.R_reads' HLY.out).2.2 h.f0 bd.1 (by omega)
          cases e
          have e1 : IntKind.i64.wrap (h.f1 + a0) = h.f1 + a0 := IntWalk.i64_in _ (by omega)
          have e2 : IntKind.i64.wrap (h.f2 + a1) = h.f2 + a1 := IntWalk.i64_in _ (by omega)
          have e3 : IntKind.i64.wrap (h.f2 - h.f1) = h.f2 - h.f1 := IntWalk.i64_in _ (by omega)
          have e4 : IntKind.i64.wrap (h.f1 - rd last h.f0) = h.f1 - rd last h.f0 := IntWalk.i64_in _ (by omega)
          have e5 : IntKind.i64.wrap (2 * x.f1) = 2 * x.f1 := IntWalk.i64_in _ (by omega)
          have hq0 : 0 ≤ h.f0 := bd.1
          have hq1 : h.f0 < (20 : Int) := by omega
          have BD := Aside0.mk bd
          clear bd hlast hb hl20
          go_quiet (fail)
          go_upto_region 13 with (fail)
          by_cases k1 : (x.f0.length : Int) ≤ h.f0
          · have d1 : decide ((x.f0.length : Int) ≤ h.f0) = true := decide_eq_true k1
            have hmu : mute x a0 a1 a2 (rd last h.f0) h = true := by simp only [mute, d1]; simp
            clear k1
            go_quiet (fail)
            have HMU := Aside0.mk hmu
            have HM2 := Aside0.mk (show last.length = 20 ∧ outs.length + (sil ++ [(pre.length : Int)]).length = (pre ++ [h]).length ∧ (spoke x a0 a1 a2 sh).1 = outs ++ (speak x a0 a1 a2 last (pre ++ [h]).length suf).1 ∧ (spoke x a0 a1 a2 sh).2 = (sil ++ [(pre.length : Int)]) ++ (speak x a0 a1 a2 last (pre ++ [h]).length suf).2 from by
              have hm := HM.out
              refine ⟨hm.1, by have := hm.2.1; simp; omega, ?_, ?_⟩
              · rw [hm.2.2.1]; simp only [speak]; rw [if_pos HMU.out]; simp
              · rw [hm.2.2.2]; simp only [speak]; rw [if_pos HMU.out]; simp)
            have HSl := Aside0.mk (show sil.length ≤ 1000 by have := HM.out.2.1; omega)
            clear hmu hh0 hh1 hh2 hA0 hA1 hA2 hI0 hI1 hcl
            obtain ⟨Av, cv, rfl⟩ := Kd.R_slice HXY.out
            go_wp2_with (first | (at_builtin; refine Kd.R_append (Kd.int .i64) (w0 := wy) B2 rfl (.tmp 78) (.tmp 80) 24 3 (.int .i64 0) 8 rfl Try.underlying24 info3 rfl (by decide) (by omega) _ sil (pre.length : Int) [.int .i64 (pre.length : Int)] (fun _ => True) (fun _ => False) rfl rfl ?aP (fun _ hk => hk.elim) ?aF ?aO ?aB ?aS ?aL ?_; (case aP => exact rfl); (case aB => exact (by (repeat apply pw_below_drewN); exact Below.refl _ _)); (case aF => exact (fun _ _ => trivial)); (case aO => exact (by (with_reducible repeat apply Kd.R_drewN); exact HXY.out)); (case aS => exact HSY.out); (case aL => have := HSl.out; omega); intro v9' w9 ho hb9 hg9 _; have HX9 := Aside0.mk ho; have HB9 := Aside0.mk hb9; have HO9 := Aside0.mk (Kd.R_mono (Kd.R_grown (Kd.R_apartR (show Kd.R k107 107 _ B2 (fun _ => True) u8 outs from by (with_reducible repeat apply Kd.R_drewN); exact HOY.out) (show Kd.R (Kd.int .i64) 3 _ B2 (fun _ => True) _ sil from by (with_reducible repeat apply Kd.R_drewN); exact HXY.out) (by decide)) hg9 (fun k hk => hk.2)) (fun _ _ => (trivial : (fun _ : Nat => True) _))); clear ho hb9 hg9))
            go_roundg suf.length
            case measure => have := HG2.out; simp at this; omega
            case rel => exact ⟨pre ++ [h], suf, last, outs, sil ++ [(pre.length : Int)], ⟨by rw [HE.out]; simp⟩, by simp, ⟨rfl⟩, HM2, HLast, ⟨Kd.R_step HLY.out (fun k hk _ => HB9.out.block k hk)⟩, HO9, HX9, ⟨(HB9.out.block gi HBB.out.2.1).trans BIY.out⟩, ⟨(HB9.out.block ga HBB.out.2.2).trans BAY.out⟩, ⟨HBWY.out.trans (HB9.out.mono HBB.out.1)⟩, ⟨Nat.le_trans HSY.out HB9.out.size⟩⟩
          · have d1 : decide ((x.f0.length : Int) ≤ h.f0) = false := decide_eq_false k1
            by_cases k2 : h.f2 - h.f1 < a2
            · have d2 : decide (h.f2 - h.f1 < a2) = true := decide_eq_true k2
              have hmu : mute x a0 a1 a2 (rd last h.f0) h = true := by simp only [mute, d1, d2]; simp
              clear k2
              go_quiet (fail)
              have HMU := Aside0.mk hmu
              have HM2 := Aside0.mk (show last.length = 20 ∧ outs.length + (sil ++ [(pre.length : Int)]).length = (pre ++ [h]).length ∧ (spoke x a0 a1 a2 sh).1 = outs ++ (speak x a0 a1 a2 last (pre ++ [h]).length suf).1 ∧ (spoke x a0 a1 a2 sh).2 = (sil ++ [(pre.length : Int)]) ++ (speak x a0 a1 a2 last (pre ++ [h]).length suf).2 from by
                have hm := HM.out
                refine ⟨hm.1, by have := hm.2.1; simp; omega, ?_, ?_⟩
                · rw [hm.2.2.1]; simp only [speak]; rw [if_pos HMU.out]; simp
                · rw [hm.2.2.2]; simp only [speak]; rw [if_pos HMU.out]; simp)
              have HSl := Aside0.mk (show sil.length ≤ 1000 by have := HM.out.2.1; omega)
              clear hmu hh0 hh1 hh2 hA0 hA1 hA2 hI0 hI1 hcl
              obtain ⟨Av, cv, rfl⟩ := Kd.R_slice HXY.out
              go_wp2_with (first | (at_builtin; refine Kd.R_append (Kd.int .i64) (w0 := wy) B2 rfl (.tmp 78) (.tmp 80) 24 3 (.int .i64 0) 8 rfl Try.underlying24 info3 rfl (by decide) (by omega) _ sil (pre.length : Int) [.int .i64 (pre.length : Int)] (fun _ => True) (fun _ => False) rfl rfl ?aP (fun _ hk => hk.elim) ?aF ?aO ?aB ?aS ?aL ?_; (case aP => exact rfl); (case aB => exact (by (repeat apply pw_below_drewN); exact Below.refl _ _)); (case aF => exact (fun _ _ => trivial)); (case aO => exact (by (with_reducible repeat apply Kd.R_drewN); exact HXY.out)); (case aS => exact HSY.out); (case aL => have := HSl.out; omega); intro v9' w9 ho hb9 hg9 _; have HX9 := Aside0.mk ho; have HB9 := Aside0.mk hb9; have HO9 := Aside0.mk (Kd.R_mono (Kd.R_grown (Kd.R_apartR (show Kd.R k107 107 _ B2 (fun _ => True) u8 outs from by (with_reducible repeat apply Kd.R_drewN); exact HOY.out) (show Kd.R (Kd.int .i64) 3 _ B2 (fun _ => True) _ sil from by (with_reducible repeat apply Kd.R_drewN); exact HXY.out) (by decide)) hg9 (fun k hk => hk.2)) (fun _ _ => (trivial : (fun _ : Nat => True) _))); clear ho hb9 hg9))
              go_roundg suf.length
              case measure => have := HG2.out; simp at this; omega
              case rel => exact ⟨pre ++ [h], suf, last, outs, sil ++ [(pre.length : Int)], ⟨by rw [HE.out]; simp⟩, by simp, ⟨rfl⟩, HM2, HLast, ⟨Kd.R_step HLY.out (fun k hk _ => HB9.out.block k hk)⟩, HO9, HX9, ⟨(HB9.out.block gi HBB.out.2.1).trans BIY.out⟩, ⟨(HB9.out.block ga HBB.out.2.2).trans BAY.out⟩, ⟨HBWY.out.trans (HB9.out.mono HBB.out.1)⟩, ⟨Nat.le_trans HSY.out HB9.out.size⟩⟩
            · have d2 : decide (h.f2 - h.f1 < a2) = false := decide_eq_false k2
              by_cases k3 : h.f1 - rd last h.f0 < 2 * x.f1
              · have d3 : decide (h.f1 - rd last h.f0 < 2 * x.f1) = true := decide_eq_true k3
                have hmu : mute x a0 a1 a2 (rd last h.f0) h = true := by simp only [mute, d1, d2, d3]; simp
                clear k3
                go_quiet (fail)
                have HMU := Aside0.mk hmu
                have HM2 := Aside0.mk (show last.length = 20 ∧ outs.length + (sil ++ [(pre.length : Int)]).length = (pre ++ [h]).length ∧ (spoke x a0 a1 a2 sh).1 = outs ++ (speak x a0 a1 a2 last (pre ++ [h]).length suf).1 ∧ (spoke x a0 a1 a2 sh).2 = (sil ++ [(pre.length : Int)]) ++ (speak x a0 a1 a2 last (pre ++ [h]).length suf).2 from by
                  have hm := HM.out
                  refine ⟨hm.1, by have := hm.2.1; simp; omega, ?_, ?_⟩
                  · rw [hm.2.2.1]; simp only [speak]; rw [if_pos HMU.out]; simp
                  · rw [hm.2.2.2]; simp only [speak]; rw [if_pos HMU.out]; simp)
                have HSl := Aside0.mk (show sil.length ≤ 1000 by have := HM.out.2.1; omega)
                clear hmu hh0 hh1 hh2 hA0 hA1 hA2 hI0 hI1 hcl
                obtain ⟨Av, cv, rfl⟩ := Kd.R_slice HXY.out
                go_wp2_with (first | (at_builtin; refine Kd.R_append (Kd.int .i64) (w0 := wy) B2 rfl (.tmp 78) (.tmp 80) 24 3 (.int .i64 0) 8 rfl Try.underlying24 info3 rfl (by decide) (by omega) _ sil (pre.length : Int) [.int .i64 (pre.length : Int)] (fun _ => True) (fun _ => False) rfl rfl ?aP (fun _ hk => hk.elim) ?aF ?aO ?aB ?aS ?aL ?_; (case aP => exact rfl); (case aB => exact (by (repeat apply pw_below_drewN); exact Below.refl _ _)); (case aF => exact (fun _ _ => trivial)); (case aO => exact (by (with_reducible repeat apply Kd.R_drewN); exact HXY.out)); (case aS => exact HSY.out); (case aL => have := HSl.out; omega); intro v9' w9 ho hb9 hg9 _; have HX9 := Aside0.mk ho; have HB9 := Aside0.mk hb9; have HO9 := Aside0.mk (Kd.R_mono (Kd.R_grown (Kd.R_apartR (show Kd.R k107 107 _ B2 (fun _ => True) u8 outs from by (with_reducible repeat apply Kd.R_drewN); exact HOY.out) (show Kd.R (Kd.int .i64) 3 _ B2 (fun _ => True) _ sil from by (with_reducible repeat apply Kd.R_drewN); exact HXY.out) (by decide)) hg9 (fun k hk => hk.2)) (fun _ _ => (trivial : (fun _ : Nat => True) _))); clear ho hb9 hg9))
                go_roundg suf.length
                case measure => have := HG2.out; simp at this; omega
                case rel => exact ⟨pre ++ [h], suf, last, outs, sil ++ [(pre.length : Int)], ⟨by rw [HE.out]; simp⟩, by simp, ⟨rfl⟩, HM2, HLast, ⟨Kd.R_step HLY.out (fun k hk _ => HB9.out.block k hk)⟩, HO9, HX9, ⟨(HB9.out.block gi HBB.out.2.1).trans BIY.out⟩, ⟨(HB9.out.block ga HBB.out.2.2).trans BAY.out⟩, ⟨HBWY.out.trans (HB9.out.mono HBB.out.1)⟩, ⟨Nat.le_trans HSY.out HB9.out.size⟩⟩
              · have d3 : decide (h.f1 - rd last h.f0 < 2 * x.f1) = false := decide_eq_false k3
                by_cases k4 : h.f2 + a1 ≤ h.f1 + a0
                · have d4 : decide (h.f2 + a1 ≤ h.f1 + a0) = true := decide_eq_true k4
                  have hmu : mute x a0 a1 a2 (rd last h.f0) h = true := by simp only [mute, d1, d2, d3, d4]; simp
                  clear k4
                  go_quiet (fail)
                  have HMU := Aside0.mk hmu
                  have HM2 := Aside0.mk (show last.length = 20 ∧ outs.length + (sil ++ [(pre.length : Int)]).length = (pre ++ [h]).length ∧ (spoke x a0 a1 a2 sh).1 = outs ++ (speak x a0 a1 a2 last (pre ++ [h]).length suf).1 ∧ (spoke x a0 a1 a2 sh).2 = (sil ++ [(pre.length : Int)]) ++ (speak x a0 a1 a2 last (pre ++ [h]).length suf).2 from by
                    have hm := HM.out
                    refine ⟨hm.1, by have := hm.2.1; simp; omega, ?_, ?_⟩
                    · rw [hm.2.2.1]; simp only [speak]; rw [if_pos HMU.out]; simp
                    · rw [hm.2.2.2]; simp only [speak]; rw [if_pos HMU.out]; simp)
                  have HSl := Aside0.mk (show sil.length ≤ 1000 by have := HM.out.2.1; omega)
                  clear hmu hh0 hh1 hh2 hA0 hA1 hA2 hI0 hI1 hcl
                  obtain ⟨Av, cv, rfl⟩ := Kd.R_slice HXY.out
                  go_wp2_with (first | (at_builtin; refine Kd.R_append (Kd.int .i64) (w0 := wy) B2 rfl (.tmp 78) (.tmp 80) 24 3 (.int .i64 0) 8 rfl Try.underlying24 info3 rfl (by decide) (by omega) _ sil (pre.length : Int) [.int .i64 (pre.length : Int)] (fun _ => True) (fun _ => False) rfl rfl ?aP (fun _ hk => hk.elim) ?aF ?aO ?aB ?aS ?aL ?_; (case aP => exact rfl); (case aB => exact (by (repeat apply pw_below_drewN); exact Below.refl _ _)); (case aF => exact (fun _ _ => trivial)); (case aO => exact (by (with_reducible repeat apply Kd.R_drewN); exact HXY.out)); (case aS => exact HSY.out); (case aL => have := HSl.out; omega); intro v9' w9 ho hb9 hg9 _; have HX9 := Aside0.mk ho; have HB9 := Aside0.mk hb9; have HO9 := Aside0.mk (Kd.R_mono (Kd.R_grown (Kd.R_apartR (show Kd.R k107 107 _ B2 (fun _ => True) u8 outs from by (with_reducible repeat apply Kd.R_drewN); exact HOY.out) (show Kd.R (Kd.int .i64) 3 _ B2 (fun _ => True) _ sil from by (with_reducible repeat apply Kd.R_drewN); exact HXY.out) (by decide)) hg9 (fun k hk => hk.2)) (fun _ _ => (trivial : (fun _ : Nat => True) _))); clear ho hb9 hg9))
                  go_roundg suf.length
                  case measure => have := HG2.out; simp at this; omega
                  case rel => exact ⟨pre ++ [h], suf, last, outs, sil ++ [(pre.length : Int)], ⟨by rw [HE.out]; simp⟩, by simp, ⟨rfl⟩, HM2, HLast, ⟨Kd.R_step HLY.out (fun k hk _ => HB9.out.block k hk)⟩, HO9, HX9, ⟨(HB9.out.block gi HBB.out.2.1).trans BIY.out⟩, ⟨(HB9.out.block ga HBB.out.2.2).trans BAY.out⟩, ⟨HBWY.out.trans (HB9.out.mono HBB.out.1)⟩, ⟨Nat.le_trans HSY.out HB9.out.size⟩⟩
                · have d4 : decide (h.f2 + a1 ≤ h.f1 + a0) = false := decide_eq_false k4
                  have hmu : mute x a0 a1 a2 (rd last h.f0) h = false := by simp only [mute, d1, d2, d3, d4]; simp
                  have HMU := Aside0.mk hmu
                  have hh0l : h.f0 < (x.f0.length : Int) := by omega
                  obtain ⟨adp, e, hcp2⟩ := Kd.at_int HP.out h.f0 hq0 hh0l
                  cases e
                  replace hcp2 := (HBWY.out.cell (World.block_lt_of_cell? w _ hcp2)).trans hcp2
                  have hl20 : last.length = 20 := HM.out.1
                  obtain ⟨gl, cl', hgl, hglb, _, cellsl, hcellsl⟩ := Kd.R_form HLY.out (by omega)
                  have hadl : adl = ⟨gl, 0, none⟩ := by injection hgl with e1 _ _; injection e1
                  subst hadl
                  rw [add_plain] at hcl
                  have hfl := blk_frozen hcellsl h.f0.toNat
                  have HGL := Aside0.mk (show gl < B2 from HLY.out.1 gl (by simp [Value.ownBlock]))
                  have HGB := Aside0.mk hglb
                  have HNE := Aside0.mk (And.intro (blk_ne BIY.out hcellsl (by decide)) (And.intro (blk_ne BAY.out hcellsl (by decide)) (blk_ne BH.out hcellsl (by decide))))
                  clear k1 k2 k3 k4 hmu hgl hglb hl20
                  go_quiet (fail)
                  go_upto_region 16 with (fail)
                  refine wp_world (F := fun wq => Aside0 (Kd.R (Kd.int .i64) 3 wq w.heap.size (fun k => k < B2) (.slice (some ⟨gl, 0, none⟩) 20 cl) (last.set h.f0.toNat h.f1)) ∧ Aside0 (Kd.R k107 107 wq B2 (fun _ => True) u8 outs) ∧ Aside0 (Kd.R (Kd.int .i64) 3 wq B2 (fun _ => True) u9 sil) ∧ Aside0 (wq.heap[gi]? = some (.cells #[.slice (some adp) x.f0.length cp, .int .i64 x.f1] 40 (0, 0))) ∧ Aside0 (wq.heap[ga]? = some (.cells #[.int .i64 a0, .int .i64 a1, .int .i64 a2] 37 (0, 0))) ∧ Aside0 (wq.heap[gh]? = some (.cells #[.int .i64 h.f0, .int .i64 h.f1, .int .i64 h.f2] 80 (0, 0))) ∧ Aside0 (Below w.heap.size w wq) ∧ Aside0 (B2 ≤ wq.heap.size)) ?facts ?_
                  case facts =>
                    refine ⟨⟨Kd.R_putn (Kd.R_drewN HLY.out _) h.f0 h.f1⟩, ⟨?_⟩, ⟨?_⟩, ⟨blk_far (blk_drewN BIY.out _) HNE.out.1 _⟩, ⟨blk_far (blk_drewN BAY.out _) HNE.out.2.1 _⟩, ⟨blk_far (blk_drewN BH.out _) HNE.out.2.2 _⟩, ⟨(pw_below_drewN HBWY.out _).setCell HGB.out _⟩, ⟨Nat.le_trans HSY.out (by simp)⟩⟩
                    · exact Kd.R_mono (Kd.R_far (p := ⟨gl, h.f0.toNat, none⟩) (Kd.R_bound (Kd.R_drewN HOY.out _)) (fun k hk => by have h1 := hk.2.1; have h2 := HGL.out; show k ≠ gl; omega) _) (fun _ _ => trivial)
                    · exact Kd.R_mono (Kd.R_far (p := ⟨gl, h.f0.toNat, none⟩) (Kd.R_bound (Kd.R_drewN HXY.out _)) (fun k hk => by have h1 := hk.2.1; have h2 := HGL.out; show k ≠ gl; omega) _) (fun _ _ => trivial)
                  have HOkM := Aside0.mk (HP.out)
                  clear hh0 hh1 hh2 hA0 hA1 hA2 hI0 hI1 hcl hfl hcp2 hcellsl
                  intro wq ⟨HL9, HO9, HX9, BI9, BA9, BH9, HBW9, HS9⟩
                  have hg0 : wq.cell? ⟨gi, 0, none⟩ = some (.slice (some adp) x.f0.length cp) := (blk_cell BI9.out 0).trans rfl
                  have hg1 : wq.cell? ⟨gh, 0, none⟩ = some (.int .i64 h.f0) := (blk_cell BH9.out 0).trans rfl
                  obtain ⟨adq, e, hcq⟩ := Kd.at_int HOkM.out h.f0 hq0 hh0l
                  cases e
                  replace hcq := (HBW9.out.cell (World.block_lt_of_cell? w _ hcq)).trans hcq
                  have HM2 := Aside0.mk (show (last.set h.f0.toNat h.f1).length = 20 ∧ (outs ++ [voice x a0 a1 h]).length + sil.length = (pre ++ [h]).length ∧ (spoke x a0 a1 a2 sh).1 = (outs ++ [voice x a0 a1 h]) ++ (speak x a0 a1 a2 (last.set h.f0.toNat h.f1) (pre ++ [h]).length suf).1 ∧ (spoke x a0 a1 a2 sh).2 = sil ++ (speak x a0 a1 a2 (last.set h.f0.toNat h.f1) (pre ++ [h]).length suf).2 from by
                    have hm := HM.out
                    have hn : ¬ (mute x a0 a1 a2 (rd last h.f0) h = true) := by rw [HMU.out]; simp
                    refine ⟨by simp [hm.1], by have := hm.2.1; simp; omega, ?_, ?_⟩
                    · rw [hm.2.2.1]; simp only [speak]; rw [if_neg hn]; simp
                    · rw [hm.2.2.2]; simp only [speak]; rw [if_neg hn]; simp)
                  have HLast2 := Aside0.mk (show ∀ t : Int, -40 ≤ rd (last.set h.f0.toNat h.f1) t ∧ rd (last.set h.f0.toNat h.f1) t ≤ 2000 from fun t => by
                    have h1 := HLast.out t
                    have h2 := BD.out
                    unfold rd at *
                    rw [List.getD_eq_getElem?_getD, List.getElem?_set]
                    rw [List.getD_eq_getElem?_getD] at h1
                    split
                    · split
                      · simp; omega
                      · simp
                    · exact h1)
                  have HOl := Aside0.mk (show outs.length ≤ 1000 by have := HM.out.2.1; omega)
                  obtain ⟨Av, cv, rfl⟩ := Kd.R_slice HO9.out
                  go_wp2_with (first | (at_builtin; refine Kd.R_append k107 (w0 := wq) B2 rfl (.tmp 88) (.tmp 98) 94 107 (.agg #[(.int .i64 0), (.int .i64 0), (.int .i64 0)]) 24 rfl Try.underlying94 info107 rfl (by decide) (by omega) _ outs (voice x a0 a1 h) [.int .i64 (rd x.f0 h.f0), .int .i64 (h.f1 + a0), .int .i64 (h.f2 + a1)] (fun _ => True) (fun _ => False) rfl rfl ?aP (fun _ hk => hk.elim) ?aF ?aO ?aB ?aS ?aL ?_; (case aP => exact k107_mkM _ _ _ (voice x a0 a1 h)); (case aB => exact Below.refl _ _); (case aF => exact (fun _ _ => trivial)); (case aO => exact HO9.out); (case aS => exact HS9.out); (case aL => have := HOl.out; omega); intro v8' w10 ho hb10 hg10 _; have HO10 := Aside0.mk ho; have HB10 := Aside0.mk hb10; have HX10 := Aside0.mk (Kd.R_mono (Kd.R_grown (Kd.R_apartR HX9.out HO9.out (by decide)) hg10 (fun k hk => hk.2)) (fun _ _ => (trivial : (fun _ : Nat => True) _))); clear ho hb10 hg10))
                  go_roundg suf.length
                  case measure => have := HG2.out; simp at this; omega
                  case rel => exact ⟨pre ++ [h], suf, last.set h.f0.toNat h.f1, outs ++ [voice x a0 a1 h], sil, ⟨by rw [HE.out]; simp⟩, by simp, ⟨rfl⟩, HM2, HLast2, ⟨Kd.R_step HL9.out (fun k hk _ => HB10.out.block k hk)⟩, HO10, HX10, ⟨(HB10.out.block gi HBB.out.2.1).trans BI9.out⟩, ⟨(HB10.out.block ga HBB.out.2.2).trans BA9.out⟩, ⟨HBW9.out.trans (HB10.out.mono HBB.out.1)⟩, ⟨Nat.le_trans HS9.out HB10.out.size⟩⟩
end Go.Proofs.Ythhlmjcfhfkmdaa.Cx
