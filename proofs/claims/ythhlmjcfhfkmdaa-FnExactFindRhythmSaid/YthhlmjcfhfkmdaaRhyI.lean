/- The walk of impl.FindRhythm, in closed words. -/
import Derived.Test.YthhlmjcfhfkmdaaRhyC
import Derived.Deep.RegionHeld3
import Derived.Deep.QuietTactic
import Derived.BigQuiet
namespace Go.Proofs.Ythhlmjcfhfkmdaa.Rhy
open Go.RowKit Go.Proofs.Ythhlmjcfhfkmdaa.PFnExactFindRhythm Go.Proofs.YthhlmjcfhfkmdaaW.PrintWords Go.Proofs.YthhlmjcfhfkmdaaW.PrintLast Go.Proofs.YthhlmjcfhfkmdaaW.PrintMore
set_option linter.unusedVariables false
set_option linter.unusedSimpArgs false

theorem wp_world {P : Program} {c : Code} {Q : Exit → Act → World → Prop} {a : Act} {w : World} (F : World → Prop) (hf : F w) (h : ∀ w', F w' → Code.wp P c Q a w') : Code.wp P c Q a w := h w hf
theorem info3 : (Try.prog.info? 3).map (fun i => (i.zero, i.size, i.bytes)) = some (some (.int .i64 0), 1, 8) := by kernel_rfl
theorem iscore_c (A : Option Addr) (c : Nat) (l : List S58) (w : World) (hr : Kd.C k58 w A l.length l) (hc : l.length ≤ c) (hl : l.length ≤ 1048576) :
    Calls Try.prog 31 #[.slice A l.length c] w fun e w' => e = .returned (.bool (score l)) ∧ Below w.heap.size w w' := by
  obtain ⟨k, hk⟩ := (impl_score l hl).rounds
  exact impl_IsScore.calls k A c l _ w hr hc hk
theorem itheme_c (A : Option Addr) (c : Nat) (l : List S58) (w : World) (hr : Kd.C k58 w A l.length l) (hc : l.length ≤ c) (hl : l.length ≤ 1048576) :
    Calls Try.prog 32 #[.slice A l.length c] w fun e w' => e = .returned (.bool (okTheme l)) ∧ Below w.heap.size w w' := by
  obtain ⟨k, hk⟩ := (impl_theme l hl).rounds
  exact impl_isTheme.calls k A c l _ w hr hc hk
set_option maxHeartbeats 8000000 in
set_option maxRecDepth 100000 in
theorem irhythm_c (A0 : Option Addr) (c0 : Nat) (l : List S58) (A1 : Option Addr) (c1 : Nat) (t : List S58) (w : World) (hr0 : Kd.C k58 w A0 l.length l) (hc0 : l.length ≤ c0) (hr1 : Kd.C k58 w A1 t.length t) (hc1 : t.length ≤ c1) (hl : l.length ≤ 1048576) (ht : t.length ≤ 1048576) :
    Calls Try.prog 9 #[.slice A0 l.length c0, .slice A1 t.length c1] w fun e w' => ∃ v, e = .returned (.tuple #[v, .bool (asked l t)]) ∧ Kd.R (Kd.int .i64) 3 w' w.heap.size (fun _ => True) v (rhythmRes l t).1 ∧ Below w.heap.size w w' := by
  have HR0 := Aside0.mk hr0
  have HR1 := Aside0.mk hr1
  clear hr0 hr1
  have hu58 := Try.underlying58
  go_enter Try.func9, Try.ntmps9
  go_wp2_with fail
  refine (iscore_c A0 c0 l w HR0.out hc0 hl).mono ?_
  rintro e w1 ⟨rfl, hb⟩
  have HB1 := Aside0.mk hb
  clear hb
  cases hs : score l with
  | false =>
    have HA := Aside0.mk (show asked l t = false by simp [asked, hs])
    have HRes := Aside0.mk (show (rhythmRes l t).1 = [] by simp [rhythmRes, HA.out])
    clear hs
    go_wp2_with fail
    go_ret2
    exact ⟨.slice none 0 0, by rw [HA.out]; rfl, by rw [HRes.out]; exact Kd.R_nil _ _ _ _ _, HB1.out⟩
  | true =>
    have HS := Aside0.mk hs
    clear hs
    go_wp2_with fail
    refine (itheme_c A1 c1 t w1 (Kd.C_below HR1.out HB1.out) hc1 ht).mono ?_
    rintro e w2 ⟨rfl, hb⟩
    have HB2 := Aside0.mk (below_on HB1.out HB1.out.size hb)
    clear hb HB1
    cases hs : okTheme t with
    | false =>
      have HA := Aside0.mk (show asked l t = false by simp [asked, hs])
      have HRes := Aside0.mk (show (rhythmRes l t).1 = [] by simp [rhythmRes, HA.out])
      clear hs
      go_wp2_with fail
      go_ret2
      exact ⟨.slice none 0 0, by rw [HA.out]; rfl, by rw [HRes.out]; exact Kd.R_nil _ _ _ _ _, HB2.out⟩
    | true =>
      have HA := Aside0.mk (show asked l t = true by simp [asked, HS.out, hs])
      have HRes := Aside0.mk (show (rhythmRes l t).1 = sorted (gets l t l) by simp [rhythmRes, HA.out])
      have h1 := (okTheme_len hs).1
      have h8 := (okTheme_len hs).2
      have h30 := score_len HS.out
      clear hs
      go_wp2_with (first | ((with_reducible refine gate_dst (N := 21) rfl ?_); refine Kd.R_lit (Kd.int .i64) _ 3 ?hg (N := 21) ?hd (xs := ([] : List Int)) (inner := []) (ok := fun _ => True) (okp := fun _ => True) ?hr ?hp (fun _ hk => hk) trivial (Below.refl _ _) (Nat.le_refl _) (by simp) ?_; (case hd => rfl); (case hg => rfl); (case hr => first | (go_simp; done) | (go_simp; rfl)); (case hp => exact (Reps.none _ _)); intro v6 w3 ho hb hg_ hnew_; clear hg_ hnew_; have HO := Aside0.mk (Kd.R_lower ho HB2.out.size); have HB := Aside0.mk (below_on HB2.out HB2.out.size hb); clear ho hb))
      go_loopg [6, 24] l.length (fun gk v6 v24 wr => ∃ pre suf : List S58, Aside0 (l = pre ++ suf) ∧ v24 = .int .i64 (pre.length : Int) ∧ Aside0 (gk = suf.length) ∧ Aside0 (Kd.R (Kd.int .i64) 3 wr w.heap.size (fun _ => True) v6 (gets l t pre)) ∧ Aside0 (Below w.heap.size w wr))
      case atStart => exact ⟨[], l, ⟨rfl⟩, rfl, ⟨rfl⟩, HO, HB⟩
      case round =>
        clear HO HB HB2
        obtain ⟨pre, suf, HE, rfl, HG, HO, HB⟩ := hrel
        cases suf with
        | nil =>
          have hlt : ¬ pre.length < l.length := by have := HE.out; rw [this]; simp
          have hle : pre.length ≤ l.length := by have := HE.out; rw [this]; simp
          have HQ := Aside0.mk (show l = pre by rw [HE.out]; simp)
          have hgl := gets_len l t pre
          have HGL := Aside0.mk (show (gets l t pre).length ≤ 1048576 by omega)
          clear hgl
          go_wp2_with fail
          refine (set_c _ _ u6 _ wr HO.out HGL.out).mono ?_
          rintro e w5 ⟨v5, rfl, hR, hb⟩
          have HR5 := Aside0.mk (Kd.R_lower hR HB.out.size)
          have HB5 := Aside0.mk (below_on HB.out HB.out.size hb)
          clear hR hb
          go_wp2_with fail
          go_ret2
          exact ⟨v5, by rw [HA.out]; rfl, by rw [HRes.out]; have h := HR5.out; rw [← HQ.out] at h; exact h, HB5.out⟩
        | cons x suf =>
          have hlt : pre.length < l.length := by have := HE.out; rw [this]; simp
          obtain ⟨ad, e, hx0, hx1, hx2⟩ := at_T58 HR0.out (pre.length : Int) (by omega) (by omega)
          cases e
          rw [show rd_T58 l (pre.length : Int) = x by rw [HE.out]; exact rd58_at pre suf x] at hx0 hx1 hx2
          replace hx0 := (HB.out.cell (World.block_lt_of_cell? w _ hx0)).trans hx0
          replace hx1 := (HB.out.cell (World.block_lt_of_cell? w _ hx1)).trans hx1
          replace hx2 := (HB.out.cell (World.block_lt_of_cell? w _ hx2)).trans hx2
          rw [Int.toNat_natCast] at hx0 hx1 hx2
          go_upto_region 7 with (first | ((with_reducible refine gate_dst (N := 8) rfl ?_); refine box_event ?hg (N := 8) ?hd (cs := #[.int .i64 0, .int .i64 0, .int .i64 0]) (t := 58) ?hr ?_; (case hd => rfl); (case hg => rfl); (case hr => first | (go_simp; done) | (go_simp; rfl)); intro gx hg w8 hbox hb; have HGX := Aside0.mk hg; have BX := Aside0.mk hbox; have HB8 := Aside0.mk hb; clear hg hbox hb; have hz0 : w8.cell? ⟨gx, 0, none⟩ = some (.int .i64 0) := (blk_cell BX.out 0).trans rfl; have hz1 : w8.cell? ⟨gx, 1, none⟩ = some (.int .i64 0) := (blk_cell BX.out 1).trans rfl; have hz2 : w8.cell? ⟨gx, 2, none⟩ = some (.int .i64 0) := (blk_cell BX.out 2).trans rfl; have hf0 := blk_frozen BX.out 0; have hf1 := blk_frozen BX.out 1; have hf2 := blk_frozen BX.out 2))
          refine wp_world (F := fun wz => Aside0 (wz.heap[gx]? = some (.cells #[.int .i64 x.f0, .int .i64 x.f1, .int .i64 x.f2] 58 (0, 0))) ∧ Aside0 (Below wr.heap.size wr wz)) ?facts ?_
          case facts =>
            have hge : wr.heap.size ≤ gx := by rw [HGX.out]; exact Nat.le_refl _
            exact ⟨⟨blk_put (blk_put (blk_put BX.out 0 _ rfl) 1 _ rfl) 2 _ rfl⟩, ⟨below_set (below_set (below_set HB8.out hge) hge) hge⟩⟩
          clear hz0 hz1 hz2 hf0 hf1 hf2 BX HB8 hx0 hx1 hx2
          intro wz ⟨BX, HBZ⟩
          have HBW := Aside0.mk (below_on HB.out HB.out.size HBZ.out)
          have hx1 : wz.cell? ⟨gx, 1, none⟩ = some (.int .i64 x.f1) := (blk_cell BX.out 1).trans rfl
          obtain ⟨at0, e, _, ht1, _⟩ := at_T58 HR1.out 0 (by omega) (by omega)
          cases e
          replace ht1 := (HBW.out.cell (World.block_lt_of_cell? w _ ht1)).trans ht1
          have ht1' : wz.cell? ⟨at0.block, at0.off + 1, none⟩ = some (.int .i64 (rd_T58 t 0).f1) := ht1
          clear ht1
          have hp0 : 0 < t.length := by omega
          have hz := HBZ.out
          have hne1 : gx ≠ wz.heap.size := by have := blk_lt BX.out; omega
          have hne2 : at0.block ≠ wz.heap.size := by have := World.block_lt_of_cell? wz _ ht1'; exact Nat.ne_of_lt this
          go_region_held3 (fun w' => w'.cell? ⟨gx, 1, none⟩ = some (.int .i64 x.f1) ∧ w'.cell? ⟨at0.block, at0.off + 1, none⟩ = some (.int .i64 (rd_T58 t 0).f1)) (go_keep) (fail)
          go_upto_region 8 with (fail)
          obtain ⟨a, ha⟩ : ∃ a : Int, a = at_ t x := ⟨_, rfl⟩
          obtain ⟨gb, hgb⟩ : ∃ gb : Nat, gb = wz.heap.size := ⟨_, rfl⟩
          have hw : IntKind.i64.wrap (x.f1 - (rd_T58 t 0).f1) = a := by rw [ha, IntWalk.i64_left]; rfl
          rw [hw, ← hgb]
          refine wp_world (F := fun wq => Aside0 (wq.heap[gx]? = some (.cells #[.int .i64 x.f0, .int .i64 x.f1, .int .i64 x.f2] 58 (0, 0))) ∧ Aside0 (wq.heap[gb]? = some (.cells #[.int .i64 a] 3 (0, 0))) ∧ Aside0 (Below wr.heap.size wr wq)) ?facts ?_
          case facts => exact ⟨⟨blk_alloc BX.out _⟩, ⟨by rw [hgb]; exact blk_new wz _⟩, ⟨(below_alloc HBZ.out _).drew⟩⟩
          have HAT := Aside0.mk ha
          clear hw ha hgb hx1 ht1' hz hne1 hne2 BX HBZ HBW
          intro wq ⟨BX, BB, HBQ⟩
          have HBW := Aside0.mk (below_on HB.out HB.out.size HBQ.out)
          have HOQ := Aside0.mk (Kd.R_below HO.out HBQ.out)
          go_wp2_with fail
          go_loopg [10, 37] t.length (fun gk2 v10 v37 wv => ∃ (b : Bool) (pre2 suf2 : List S58), Aside0 (t = pre2 ++ suf2) ∧ v10 = .bool b ∧ v37 = .int .i64 (pre2.length : Int) ∧ Aside0 (gk2 = suf2.length) ∧ Aside0 (allHit l t a = (b && allHit l suf2 a)) ∧ Aside0 (Below wq.heap.size wq wv))
          case atStart => exact ⟨true, [], t, ⟨rfl⟩, rfl, rfl, ⟨rfl⟩, ⟨by simp⟩, ⟨Below.refl _ _⟩⟩
          case round =>
            obtain ⟨b, pre2, suf2, HE2, rfl, rfl, HG2, HT2, HBV⟩ := hrel
            have HBVW := Aside0.mk (below_on HBW.out HBW.out.size HBV.out)
            cases suf2 with
            | nil =>
              have hlt2 : ¬ pre2.length < t.length := by have := HE2.out; rw [this]; simp
              have hle2 : pre2.length ≤ t.length := by have := HE2.out; rw [this]; simp
              have hb : allHit l t a = b := by rw [HT2.out]; simp [allHit]
              have HOV := Aside0.mk (Kd.R_below HOQ.out HBV.out)
              have hgs := gets_snoc l t pre x
              rw [← HAT.out, hb] at hgs
              have HGS := Aside0.mk hgs
              have HGL := Aside0.mk (gets_len l t pre)
              clear hb hgs HT2
              cases b with
              | false =>
                go_wp2_with fail
                go_roundg suf.length
                case measure => have := HG.out; simp at this; omega
                case rel => exact ⟨pre ++ [x], suf, ⟨by rw [HE.out]; simp⟩, by simp, ⟨rfl⟩, ⟨by rw [HGS.out]; exact HOV.out⟩, HBVW⟩
              | true =>
                have hbv := blk_cell (blk_below BB.out HBV.out) 0
                have hbv2 : wr.cell? ⟨gb, 0, none⟩ = some (.int .i64 a) := hbv.trans rfl
                clear hbv
                have HAL := Aside0.mk (show (gets l t pre).length + 1 ≤ 1048576 by have := HGL.out; have := HE.out; have hll : l.length = pre.length + suf.length + 1 := by rw [this]; simp; omega
                                                                                   omega)
                have HBW' := HBVW
                clear HBVW
                obtain ⟨Av, cv, rfl⟩ := Kd.R_slice HOV.out
                go_wp2_with (first | (at_builtin; refine Kd.R_append (Kd.int .i64) (w0 := w) w.heap.size rfl (.tmp 49) (.tmp 51) 24 3 (.int .i64 0) 8 rfl Try.underlying24 info3 rfl (by decide) (by omega) _ (gets l t pre) a [.int .i64 a] (fun _ => True) (fun _ => False) rfl rfl ?aP (fun _ hk => hk.elim) ?aF ?aO ?aB ?aS ?aL ?_; (case aP => exact rfl); (case aB => exact HBW'.out); (case aF => exact (fun _ _ => trivial)); (case aO => exact HOV.out); (case aS => exact HBW'.out.size); (case aL => have := HAL.out; omega); intro v16 w16 ho hb _ _; have HO16 := Aside0.mk ho; have HB16 := Aside0.mk hb; clear ho hb HOV HBW'))
                go_roundg suf.length
                case measure => have := HG.out; simp at this; omega
                case rel => exact ⟨pre ++ [x], suf, ⟨by rw [HE.out]; simp⟩, by simp, ⟨rfl⟩, ⟨by rw [HGS.out]; exact HO16.out⟩, HB16⟩
            | cons y suf2 =>
              have hlt2 : pre2.length < t.length := by have := HE2.out; rw [this]; simp
              obtain ⟨ad2, e, hx0, hx1, hx2⟩ := at_T58 HR1.out (pre2.length : Int) (by omega) (by omega)
              cases e
              rw [show rd_T58 t (pre2.length : Int) = y by rw [HE2.out]; exact rd58_at pre2 suf2 y] at hx0 hx1 hx2
              replace hx0 := (HBVW.out.cell (World.block_lt_of_cell? w _ hx0)).trans hx0
              replace hx1 := (HBVW.out.cell (World.block_lt_of_cell? w _ hx1)).trans hx1
              replace hx2 := (HBVW.out.cell (World.block_lt_of_cell? w _ hx2)).trans hx2
              rw [Int.toNat_natCast] at hx0 hx1 hx2
              go_upto_region 12 with (first | ((with_reducible refine gate_dst (N := 12) rfl ?_); refine box_event ?hg (N := 12) ?hd (cs := #[.int .i64 0, .int .i64 0, .int .i64 0]) (t := 58) ?hr ?_; (case hd => rfl); (case hg => rfl); (case hr => first | (go_simp; done) | (go_simp; rfl)); intro gy hg w8 hbox hb; have HGY := Aside0.mk hg; have BY := Aside0.mk hbox; have HB8 := Aside0.mk hb; clear hg hbox hb; have hz0 : w8.cell? ⟨gy, 0, none⟩ = some (.int .i64 0) := (blk_cell BY.out 0).trans rfl; have hz1 : w8.cell? ⟨gy, 1, none⟩ = some (.int .i64 0) := (blk_cell BY.out 1).trans rfl; have hz2 : w8.cell? ⟨gy, 2, none⟩ = some (.int .i64 0) := (blk_cell BY.out 2).trans rfl; have hf0 := blk_frozen BY.out 0; have hf1 := blk_frozen BY.out 1; have hf2 := blk_frozen BY.out 2))
              refine wp_world (F := fun wz => Aside0 (wz.heap[gy]? = some (.cells #[.int .i64 y.f0, .int .i64 y.f1, .int .i64 y.f2] 58 (0, 0))) ∧ Aside0 (Below wr.heap.size wr wz)) ?facts ?_
              case facts =>
                have hge : wr.heap.size ≤ gy := by rw [HGY.out]; exact Nat.le_refl _
                exact ⟨⟨blk_put (blk_put (blk_put BY.out 0 _ rfl) 1 _ rfl) 2 _ rfl⟩, ⟨below_set (below_set (below_set HB8.out hge) hge) hge⟩⟩
              clear hz0 hz1 hz2 hf0 hf1 hf2 BY HB8 hx0 hx1 hx2
              intro wz ⟨BY, HBZ⟩
              have HBVZ := Aside0.mk (below_on HBV.out HBV.out.size HBZ.out)
              have HBWZ := Aside0.mk (below_on HBVW.out HBVW.out.size HBZ.out)
              cases b with
              | false =>
                go_wp2_with fail
                go_roundg suf2.length
                case measure => have := HG2.out; simp at this; omega
                case rel => exact ⟨false, pre2 ++ [y], suf2, ⟨by rw [HE2.out]; simp⟩, rfl, by simp, ⟨rfl⟩, ⟨by rw [HT2.out]; simp⟩, HBVZ⟩
              | true =>
                have HCC := Aside0.mk (contains_c (some ad) c0 l gy gb y.f1 y.f2 a wz (Kd.C_below HR0.out HBWZ.out) hc0 hl ((blk_cell BY.out 1).trans rfl) ((blk_cell BY.out 2).trans rfl) ((blk_cell (blk_below BB.out HBVZ.out) 0).trans rfl))
                go_wp2_with fail
                refine HCC.out.mono ?_
                rintro e wc ⟨rfl, hb⟩
                have HBVC := Aside0.mk (below_on HBVZ.out HBVZ.out.size hb)
                clear hb HCC
                have HT3 := Aside0.mk (show allHit l t a = (hit l (wrap64 (y.f1 + a)) y.f2 && allHit l suf2 a) from by rw [HT2.out]; simp only [allHit, List.all_cons, Bool.true_and])
                generalize hit l (wrap64 (y.f1 + a)) y.f2 = hv at *
                go_wp2_with fail
                go_roundg suf2.length
                case measure => have := HG2.out; simp at this; omega
                case rel => exact ⟨hv, pre2 ++ [y], suf2, ⟨by rw [HE2.out]; simp⟩, rfl, by simp, ⟨rfl⟩, HT3, HBVC⟩
end Go.Proofs.Ythhlmjcfhfkmdaa.Rhy
