/- The law ClassExactly, walked: it answers true. -/
import Derived.Test.YthhlmjcfhfkmdaaCyU
namespace Go.Proofs.Ythhlmjcfhfkmdaa.Cx
open Go.RowKit Go.Proofs.Ythhlmjcfhfkmdaa.PFnClassExactly Go.Proofs.YthhlmjcfhfkmdaaW.PrintWords Go.Proofs.YthhlmjcfhfkmdaaW.PrintLast Go.Proofs.YthhlmjcfhfkmdaaW.PrintMore
set_option linter.unusedVariables false
set_option linter.unusedSimpArgs false

theorem same_ev (l : List Int) (hl : l.length ≤ 1048576) : Ev (fun k => laws_sameInts.f k l l) true := by
  have key : ∀ suf pre : List Int, l = pre ++ suf → Ev (fun k => laws_sameInts.l0 k l l (l.length : Int) (pre.length : Int)) true := by
    intro suf
    induction suf with
    | nil =>
      intro pre he
      refine Ev.step (f := fun _ => some true) (fun k => ?_) (Ev.now _)
      simp only [laws_sameInts.l0]
      rw [if_neg (by rw [he]; simp)]
    | cons x suf ih =>
      intro pre he
      have hlen : l.length = pre.length + suf.length + 1 := by rw [he]; simp; omega
      have hw : wrap64 ((pre.length : Int) + 1) = ((pre ++ [x]).length : Int) := by
        rw [w64 (by omega) (by omega)]; simp
      have hi := ih (pre ++ [x]) (by rw [he]; simp)
      refine Ev.step (fun k => ?_) hi
      simp only [laws_sameInts.l0]
      rw [if_pos (by omega), if_pos (by omega), if_pos (by omega), if_pos (by omega), if_pos trivial, hw]
  refine (key l [] rfl).congr fun k => ?_
  unfold laws_sameInts.f
  rw [if_pos rfl]; rfl
theorem same_c (A0 : Option Addr) (c0 : Nat) (A1 : Option Addr) (c1 : Nat) (l : List Int) (hl : l.length ≤ 1048576) (w : World) (hr0 : Kd.C (Kd.int .i64) w A0 l.length l) (hc0 : l.length ≤ c0) (hr1 : Kd.C (Kd.int .i64) w A1 l.length l) (hc1 : l.length ≤ c1) :
    Calls Try.prog 17 #[.slice A0 l.length c0, .slice A1 l.length c1] w fun e w' => e = .returned (.bool true) ∧ Below w.heap.size w w' := by
  obtain ⟨k, hk⟩ := (same_ev l hl).rounds
  exact (laws_sameInts.calls k A0 c0 l A1 c1 l true w hr0 hc0 hr1 hc1 hk).mono fun e w' ⟨h1, h2⟩ => ⟨h1, drawn_below h2⟩
theorem pass_ge (l : List S58) (sh : List S80) (a0 a1 a2 m : Int) : ∀ (L : List S40) (i : Nat), ∀ q ∈ passFrom l sh a0 a1 a2 m i L, (i : Int) ≤ q
  | [], _, q, h => by simp [passFrom] at h
  | x :: r, i, q, h => by
    unfold passFrom at h
    rcases List.mem_append.1 h with h | h
    · split at h
      · simp at h; omega
      · simp at h
    · have := pass_ge l sh a0 a1 a2 m r (i + 1) q h
      omega
theorem passed_len (L : List S40) (l : List S58) (sh : List S80) (a0 a1 a2 m : Int) : (passed L l sh a0 a1 a2 m).length ≤ L.length := by
  unfold passed
  split
  · exact pass_len l sh a0 a1 a2 m L 0
  · simp
set_option maxHeartbeats 8000000 in
set_option maxRecDepth 100000 in
theorem walk (A0 : Option Addr) (c0 : Nat) (L : List S40) (A1 : Option Addr) (c1 : Nat) (l : List S58) (A2 : Option Addr) (c2 : Nat) (sh : List S80) (a0 a1 a2 m : Int) (w : World)
    (hr0 : Kd.C k40 w A0 L.length L) (hc0 : L.length ≤ c0) (hr1 : Kd.C k58 w A1 l.length l) (hc1 : l.length ≤ c1) (hr2 : Kd.C k80 w A2 sh.length sh) (hc2 : sh.length ≤ c2) :
    Calls Try.prog 4 #[.slice A0 L.length c0, .slice A1 l.length c1, .slice A2 sh.length c2, .agg #[.int .i64 a0, .int .i64 a1, .int .i64 a2], .int .i64 m] w fun e w' => e = .returned (.bool true) ∧ Below w.heap.size w w' := by
  have HR0 := Aside0.mk hr0
  have HR1 := Aside0.mk hr1
  have HR2 := Aside0.mk hr2
  clear hr0 hr1 hr2
  have hu40 := Try.underlying40
  have hu37 := Try.underlying37
  go_enter Try.func4, Try.ntmps4
  go_upto_region 1 with (first | ((with_reducible refine gate_dst (N := 8) rfl ?_); refine box_event ?hg (N := 8) ?hd (cs := #[.int .i64 a0, .int .i64 a1, .int .i64 a2]) (t := 37) ?hr ?_; (case hd => rfl); (case hg => rfl); (case hr => first | (go_simp; done) | (go_simp; rfl)); intro ga hg wb0 hbox hb; have Bga := Aside0.mk hbox; have HBa := Aside0.mk hb; clear hg hbox hb))
  by_cases g0 : 65536 < L.length
  · have d0 : decide ((65536 : Int) < (L.length : Int)) = true := decide_eq_true (by omega)
    clear g0
    go_wp2_with fail
    go_ret
    exact ⟨rfl, HBa.out⟩
  have d0 : decide ((65536 : Int) < (L.length : Int)) = false := decide_eq_false (by omega)
  by_cases g1 : 65536 < l.length
  · have d1 : decide ((65536 : Int) < (l.length : Int)) = true := decide_eq_true (by omega)
    clear g1 g0
    go_wp2_with fail
    go_ret
    exact ⟨rfl, HBa.out⟩
  have d1 : decide ((65536 : Int) < (l.length : Int)) = false := decide_eq_false (by omega)
  by_cases g2 : 65536 < sh.length
  · have d2 : decide ((65536 : Int) < (sh.length : Int)) = true := decide_eq_true (by omega)
    clear g2 g1 g0
    go_wp2_with fail
    go_ret
    exact ⟨rfl, HBa.out⟩
  have d2 : decide ((65536 : Int) < (sh.length : Int)) = false := decide_eq_false (by omega)
  have hL0 : L.length ≤ 65536 := by omega
  have hl : l.length ≤ 65536 := by omega
  have hs : sh.length ≤ 65536 := by omega
  clear g0 g1 g2
  have hA0 : wb0.cell? ⟨ga, 0, none⟩ = some (.int .i64 a0) := (blk_cell Bga.out 0).trans rfl
  have hA1 : wb0.cell? ⟨ga, 1, none⟩ = some (.int .i64 a1) := (blk_cell Bga.out 1).trans rfl
  have hA2 : wb0.cell? ⟨ga, 2, none⟩ = some (.int .i64 a2) := (blk_cell Bga.out 2).trans rfl
  go_wp2_with fail
  refine (iclass_c A1 c1 l A2 c2 sh a0 a1 a2 m wb0 A0 c0 L (Kd.C_below HR0.out HBa.out) hc0 (by omega) (Kd.C_below HR1.out HBa.out) hc1 (by omega) (Kd.C_below HR2.out HBa.out) hc2 (by omega)).mono ?_
  rintro e w1 ⟨v11, rfl, hv, hb⟩
  have HI := Aside0.mk hv
  have HB1 := Aside0.mk (below_on HBa.out HBa.out.size hb)
  have Bg1 := Aside0.mk (blk_below Bga.out hb)
  clear hv hb hA0 hA1 hA2 d0 d1 d2
  obtain ⟨Ai, ci, rfl⟩ := Kd.R_slice HI.out
  have hA0 : w1.cell? ⟨ga, 0, none⟩ = some (.int .i64 a0) := (blk_cell Bg1.out 0).trans rfl
  have hA1 : w1.cell? ⟨ga, 1, none⟩ = some (.int .i64 a1) := (blk_cell Bg1.out 1).trans rfl
  have hA2 : w1.cell? ⟨ga, 2, none⟩ = some (.int .i64 a2) := (blk_cell Bg1.out 2).trans rfl
  go_wp2_with fail
  refine (sclass_c A1 c1 l A2 c2 sh a0 a1 a2 m w1 A0 c0 L (Kd.C_below HR0.out HB1.out) hc0 (by omega) (Kd.C_below HR1.out HB1.out) hc1 (by omega) (Kd.C_below HR2.out HB1.out) hc2 (by omega)).mono ?_
  rintro e w2 ⟨v13, rfl, hv, hb⟩
  have HS := Aside0.mk hv
  have HI2 := Aside0.mk (Kd.R_below HI.out hb)
  have HB2 := Aside0.mk (below_on HB1.out HB1.out.size hb)
  have Bg2 := Aside0.mk (blk_below Bg1.out hb)
  clear hv hb hA0 hA1 hA2 HI HB1 Bg1 HBa Bga
  obtain ⟨As, cs, rfl⟩ := Kd.R_slice HS.out
  have HIC := Aside0.mk (Kd.R_reads' HI2.out).2
  have HSC := Aside0.mk (Kd.R_reads' HS.out).2
  have HPl := Aside0.mk (passed_len L l sh a0 a1 a2 m)
  obtain ⟨c, hcp⟩ : ∃ c, c = passed L l sh a0 a1 a2 m := ⟨_, rfl⟩
  rw [← hcp] at HIC HSC HPl ⊢
  obtain ⟨b, hba⟩ : ∃ b, b = asked L l sh a0 a1 a2 m := ⟨_, rfl⟩
  rw [← hba]
  have HC := Aside0.mk hcp
  have HA := Aside0.mk hba
  clear hcp hba HI2 HS
  have hcl : c.length ≤ 65536 := Nat.le_trans HPl.out hL0
  cases b with
  | false =>
    go_wp2_with fail
    refine (same_c Ai ci As cs c (by omega) w2 HIC.out.2 HIC.out.1 HSC.out.2 HSC.out.1).mono ?_
    rintro e w3 ⟨rfl, hb⟩
    have HB3 := Aside0.mk (below_on HB2.out HB2.out.size hb)
    clear hb
    go_wp2_with fail
    go_ret
    exact ⟨rfl, HB3.out⟩
  | true =>
    go_wp2_with fail
    refine (same_c Ai ci As cs c (by omega) w2 HIC.out.2 HIC.out.1 HSC.out.2 HSC.out.1).mono ?_
    rintro e w3 ⟨rfl, hb⟩
    have HB3 := Aside0.mk (below_on HB2.out HB2.out.size hb)
    have Bg3 := Aside0.mk (blk_below Bg2.out hb)
    have HIC3 := Aside0.mk (Kd.C_below HIC.out.2 hb)
    clear hb HB2 Bg2
    have HCe := Aside0.mk (show c = passFrom l sh a0 a1 a2 m 0 L by rw [HC.out]; unfold passed; rw [← HA.out]; rfl)
    have HAs := Aside0.mk (show cls L = true ∧ score l = true ∧ sheet sh = true ∧ okA a0 a1 a2 = true ∧ okT m = true from by
      have h := HA.out
      unfold asked at h
      simp only [eq_comm (a := true), Bool.and_eq_true] at h
      exact ⟨h.1, h.2.1, h.2.2.1, h.2.2.2.1, h.2.2.2.2⟩)
    go_wp2_with fail
    go_loopg [15, 65] L.length (fun gk v15 v65 wr => ∃ (pre suf : List S40) (pp : List Int), Aside0 (L = pre ++ suf) ∧ v65 = .int .i64 (pre.length : Int) ∧ v15 = .int .i64 (pp.length : Int) ∧ Aside0 (gk = suf.length) ∧ Aside0 (c = pp ++ passFrom l sh a0 a1 a2 m pre.length suf) ∧ Aside0 (Below w3.heap.size w3 wr))
    case atStart => exact ⟨[], L, [], ⟨rfl⟩, rfl, rfl, ⟨rfl⟩, HCe, ⟨Below.refl _ _⟩⟩
    case round =>
      obtain ⟨pre, suf, pp, HE, rfl, rfl, HG, HM, HBR⟩ := hrel
      cases suf with
      | nil =>
        have hlt2 : ¬ pre.length < L.length := by have := HE.out; rw [this]; simp
        have hle2 : pre.length ≤ L.length := by have := HE.out; rw [this]; simp
        have hpc : pp.length = c.length := by rw [HM.out]; simp [passFrom]
        go_wp2_with fail
        go_ret
        exact ⟨by first | rfl | (simp [hpc]), HB3.out.trans (HBR.out.mono HB3.out.size)⟩
      | cons x suf =>
        have hlt2 : pre.length < L.length := by have := HE.out; rw [this]; simp
        obtain ⟨ad, Ap, cp, e, hx0, hx1, hcp, hp⟩ := at_T40 HR0.out (pre.length : Int) (by omega) (by omega)
        cases e
        rw [show rd_T40 L (pre.length : Int) = x by rw [HE.out]; exact rd40_at pre suf x] at hx0 hx1 hcp hp
        have HP := Aside0.mk hp
        clear hp
        have hbw := HB3.out.trans (HBR.out.mono HB3.out.size)
        replace hx0 := (hbw.cell (World.block_lt_of_cell? w _ hx0)).trans hx0
        replace hx1 := (hbw.cell (World.block_lt_of_cell? w _ hx1)).trans hx1
        rw [Int.toNat_natCast] at hx0 hx1
        have HV := Aside0.mk (show verdict x l sh a0 a1 a2 m = true from by
          obtain ⟨h1, h2, h3, h4, h5⟩ := HAs.out
          have hI := (cls_bd h1).2 x (by rw [HE.out]; simp)
          unfold verdict
          rw [hI, h2, h3, h4, h5]; rfl)
        have hppl : pp.length ≤ 65536 := by have := congrArg List.length HM.out; simp at this; omega
        clear hbw
        go_upto_region 13 with (first | ((with_reducible refine gate_dst (N := 17) rfl ?_); refine box_event ?hg (N := 17) ?hd (cs := #[.slice none 0 0, .int .i64 0]) (t := 40) ?hr ?_; (case hd => rfl); (case hg => rfl); (case hr => first | (go_simp; done) | (go_simp; rfl)); intro gh hg w8 hbox hb; have HGH := Aside0.mk hg; have BH := Aside0.mk hbox; have HB8 := Aside0.mk hb; have hz0 : w8.cell? ⟨gh, 0, none⟩ = some (.slice none 0 0) := (blk_cell BH.out 0).trans rfl; have hz1 : w8.cell? ⟨gh, 1, none⟩ = some (.int .i64 0) := (blk_cell BH.out 1).trans rfl; have hf0 := blk_frozen BH.out 0; have hf1 := blk_frozen BH.out 1; clear hg hbox hb))
        refine wp_world (F := fun wy => Aside0 (wy.heap[gh]? = some (.cells #[.slice Ap x.f0.length cp, .int .i64 x.f1] 40 (0, 0))) ∧ Aside0 (Below wr.heap.size wr wy)) ?facts ?_
        case facts =>
          have hge : wr.heap.size ≤ gh := by rw [HGH.out]; exact Nat.le_refl _
          exact ⟨⟨blk_put (blk_put BH.out 0 _ rfl) 1 _ rfl⟩, ⟨below_set (below_set HB8.out hge) hge⟩⟩
        clear hz0 hz1 hf0 hf1 BH HB8 hx0 hx1
        intro wy ⟨BH, HBY⟩
        have HBRY := Aside0.mk (below_on HBR.out HBR.out.size HBY.out)
        have BgY := Aside0.mk (blk_below Bg3.out HBRY.out)
        have hI0 : wy.cell? ⟨gh, 0, none⟩ = some (.slice Ap x.f0.length cp) := (blk_cell BH.out 0).trans rfl
        have hI1 : wy.cell? ⟨gh, 1, none⟩ = some (.int .i64 x.f1) := (blk_cell BH.out 1).trans rfl
        have hA0 : wy.cell? ⟨ga, 0, none⟩ = some (.int .i64 a0) := (blk_cell BgY.out 0).trans rfl
        have hA1 : wy.cell? ⟨ga, 1, none⟩ = some (.int .i64 a1) := (blk_cell BgY.out 1).trans rfl
        have hA2 : wy.cell? ⟨ga, 2, none⟩ = some (.int .i64 a2) := (blk_cell BgY.out 2).trans rfl
        have HW := Aside0.mk (HB3.out.trans (HBRY.out.mono HB3.out.size))
        clear BH HBY HBR
        go_wp2_with fail
        refine (passes_c Ap cp x A1 c1 l A2 c2 sh a0 a1 a2 m wy (Kd.C_below HP.out HW.out) hcp (Kd.C_below HR1.out HW.out) hc1 (by omega) (Kd.C_below HR2.out HW.out) hc2 (by omega)).mono ?_
        rintro e w9 ⟨rfl, hb⟩
        have HB9 := Aside0.mk (below_on HBRY.out HBRY.out.size hb)
        clear hb hI0 hI1 hA0 hA1 hA2 HBRY BgY
        rw [HV.out]
        have HIC9 := Aside0.mk (Kd.C_below HIC3.out HB9.out)
        obtain ⟨z, hz⟩ : ∃ z, z = clean x l sh a0 a1 a2 m := ⟨_, rfl⟩
        rw [← hz]
        have HZ := Aside0.mk hz
        clear hz
        cases z with
        | true =>
          have HM2 := Aside0.mk (show c = pp ++ (pre.length : Int) :: passFrom l sh a0 a1 a2 m (pre.length + 1) suf from by rw [HM.out]; simp [passFrom, ← HZ.out])
          have hkc : pp.length < c.length := by rw [HM2.out]; simp
          obtain ⟨ads, e, hq⟩ := Kd.at_int HIC9.out (pp.length : Int) (by omega) (by omega)
          cases e
          rw [show rd c (pp.length : Int) = (pre.length : Int) by rw [HM2.out]; exact rd_at pp _ _, Int.toNat_natCast] at hq
          go_wp2_with fail
          go_roundg suf.length
          case measure => have := HG.out; simp at this; omega
          case rel => exact ⟨pre ++ [x], suf, pp ++ [(pre.length : Int)], ⟨by rw [HE.out]; simp⟩, by simp, by simp, ⟨rfl⟩, ⟨by rw [HM2.out]; simp⟩, HB9⟩
        | false =>
          have HM2 := Aside0.mk (show c = pp ++ passFrom l sh a0 a1 a2 m (pre.length + 1) suf from by rw [HM.out]; simp [passFrom, ← HZ.out])
          by_cases hkc : pp.length < c.length
          · obtain ⟨q, rest, hqr⟩ : ∃ q rest, passFrom l sh a0 a1 a2 m (pre.length + 1) suf = q :: rest := by
              cases hh : passFrom l sh a0 a1 a2 m (pre.length + 1) suf with
              | nil => rw [HM2.out, hh] at hkc; simp at hkc
              | cons q rest => exact ⟨q, rest, rfl⟩
            have hge := pass_ge l sh a0 a1 a2 m suf (pre.length + 1) q (by rw [hqr]; simp)
            obtain ⟨ads, e, hq⟩ := Kd.at_int HIC9.out (pp.length : Int) (by omega) (by omega)
            cases e
            rw [show rd c (pp.length : Int) = q by rw [HM2.out, hqr]; exact rd_at pp _ _, Int.toNat_natCast] at hq
            have hne : (q == (pre.length : Int)) = false := by simp; omega
            clear hge hqr
            go_wp2_with fail
            go_roundg suf.length
            case measure => have := HG.out; simp at this; omega
            case rel => exact ⟨pre ++ [x], suf, pp, ⟨by rw [HE.out]; simp⟩, by simp, rfl, ⟨rfl⟩, ⟨by rw [HM2.out]; simp⟩, HB9⟩
          · have dk : decide ((pp.length : Int) < (c.length : Int)) = false := decide_eq_false (by omega)
            go_wp2_with fail
            go_roundg suf.length
            case measure => have := HG.out; simp at this; omega
            case rel => exact ⟨pre ++ [x], suf, pp, ⟨by rw [HE.out]; simp⟩, by simp, rfl, ⟨rfl⟩, ⟨by rw [HM2.out]; simp⟩, HB9⟩
end Go.Proofs.Ythhlmjcfhfkmdaa.Cx
