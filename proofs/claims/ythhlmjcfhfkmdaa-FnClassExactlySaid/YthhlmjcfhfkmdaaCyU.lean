/- The verifier's answer for one instrument and for a class of them. -/
import Derived.Test.YthhlmjcfhfkmdaaCyT
namespace Go.Proofs.Ythhlmjcfhfkmdaa.Cx
open Go.RowKit Go.Proofs.Ythhlmjcfhfkmdaa.PFnClassExactly Go.Proofs.YthhlmjcfhfkmdaaW.PrintWords Go.Proofs.YthhlmjcfhfkmdaaW.PrintLast Go.Proofs.YthhlmjcfhfkmdaaW.PrintMore
set_option linter.unusedVariables false
set_option linter.unusedSimpArgs false
attribute [local go_sem] calm calmUpon

def clean (x : S40) (l : List S58) (sh : List S80) (a0 a1 a2 m : Int) : Bool := decide ((faultRows m x l sh a0 a1 a2).length = 0)
def passFrom (l : List S58) (sh : List S80) (a0 a1 a2 m : Int) : Nat → List S40 → List Int
  | _, [] => []
  | i, x :: r => (if clean x l sh a0 a1 a2 m then [(i : Int)] else []) ++ passFrom l sh a0 a1 a2 m (i + 1) r
theorem pass_len (l : List S58) (sh : List S80) (a0 a1 a2 m : Int) : ∀ (L : List S40) (i : Nat), (passFrom l sh a0 a1 a2 m i L).length ≤ L.length
  | [], _ => by simp [passFrom]
  | x :: r, i => by
    have := pass_len l sh a0 a1 a2 m r (i + 1)
    unfold passFrom
    split <;> simp <;> omega
/-- All that is asked for a class is valid. -/
def asked (L : List S40) (l : List S58) (sh : List S80) (a0 a1 a2 m : Int) : Bool := cls L && (score l && (sheet sh && (okA a0 a1 a2 && okT m)))
def passed (L : List S40) (l : List S58) (sh : List S80) (a0 a1 a2 m : Int) : List Int := if asked L l sh a0 a1 a2 m then passFrom l sh a0 a1 a2 m 0 L else []
theorem cls_bd {L : List S40} (h : cls L = true) : (1 ≤ L.length ∧ L.length ≤ 6) ∧ ∀ x ∈ L, okI x = true := by
  simp only [cls, Bool.and_eq_true, decide_eq_true_eq, List.all_eq_true] at h
  exact ⟨h.2, h.1⟩
section
variable (Ap : Option Addr) (cp : Nat) (x : S40) (A1 : Option Addr) (c1 : Nat) (l : List S58) (A2 : Option Addr) (c2 : Nat) (sh : List S80) (a0 a1 a2 m : Int) (w : World)
theorem addr_zero (a : Addr) : a.add 0 = a := by
  unfold Addr.add; split <;> simp_all
set_option maxHeartbeats 8000000 in
set_option maxRecDepth 100000 in
theorem passes_c (hp : Kd.C (Kd.int .i64) w Ap x.f0.length x.f0) (hcp : x.f0.length ≤ cp) (hr1 : Kd.C k58 w A1 l.length l) (hc1 : l.length ≤ c1) (hl : l.length ≤ 1048576) (hr2 : Kd.C k80 w A2 sh.length sh) (hc2 : sh.length ≤ c2) (hs : sh.length ≤ 1048576) :
    Calls Try.prog 18 #[.agg #[.slice Ap x.f0.length cp, .int .i64 x.f1], .slice A1 l.length c1, .slice A2 sh.length c2, .agg #[.int .i64 a0, .int .i64 a1, .int .i64 a2], .int .i64 m] w fun e w' => e = .returned (.tuple #[.bool (verdict x l sh a0 a1 a2 m && clean x l sh a0 a1 a2 m), .bool (verdict x l sh a0 a1 a2 m)]) ∧ Below w.heap.size w w' := by
  have HP := Aside0.mk hp
  have HR1 := Aside0.mk hr1
  have HR2 := Aside0.mk hr2
  clear hp hr1 hr2
  have hu40 := Try.underlying40
  have hu37 := Try.underlying37
  go_enter Try.func18, Try.ntmps18
  go_upto_region 1 with (first | ((with_reducible refine gate_dst (N := 5) rfl ?_); refine box_event ?hg (N := 5) ?hd (cs := #[.slice Ap x.f0.length cp, .int .i64 x.f1]) (t := 40) ?hr ?_; (case hd => rfl); (case hg => rfl); (case hr => first | (go_simp; done) | (go_simp; rfl)); intro gi hg wb0 hbox hb; have Bgi := Aside0.mk hbox; have HBa := Aside0.mk hb; clear hg hbox hb) | ((with_reducible refine gate_dst (N := 8) rfl ?_); refine box_event ?hg (N := 8) ?hd (cs := #[.int .i64 a0, .int .i64 a1, .int .i64 a2]) (t := 37) ?hr ?_; (case hd => rfl); (case hg => rfl); (case hr => first | (go_simp; done) | (go_simp; rfl)); intro ga hg wb1 hbox hb; have Bgi' := Aside0.mk (blk_below Bgi.out hb); clear Bgi; have Bgi := Bgi'; clear Bgi'; have Bga := Aside0.mk hbox; have HBb := Aside0.mk (below_on HBa.out HBa.out.size hb); clear HBa; have HBa := HBb; clear HBb; clear hg hbox hb))
  have hI0 : wb1.cell? ⟨gi, 0, none⟩ = some (.slice Ap x.f0.length cp) := (blk_cell Bgi.out 0).trans rfl
  have hI1 : wb1.cell? ⟨gi, 1, none⟩ = some (.int .i64 x.f1) := (blk_cell Bgi.out 1).trans rfl
  have hA0 : wb1.cell? ⟨ga, 0, none⟩ = some (.int .i64 a0) := (blk_cell Bga.out 0).trans rfl
  have hA1 : wb1.cell? ⟨ga, 1, none⟩ = some (.int .i64 a1) := (blk_cell Bga.out 1).trans rfl
  have hA2 : wb1.cell? ⟨ga, 2, none⟩ = some (.int .i64 a2) := (blk_cell Bga.out 2).trans rfl
  go_wp2_with fail
  refine (faultsof_c Ap cp x A1 c1 l A2 c2 sh a0 a1 a2 m wb1 (Kd.C_below HP.out HBa.out) hcp (Kd.C_below HR1.out HBa.out) hc1 hl (Kd.C_below HR2.out HBa.out) hc2 hs).mono ?_
  rintro e w5 ⟨A, n, c, b, rfl, hv, hn, hb⟩
  have HB5 := Aside0.mk (below_on HBa.out HBa.out.size hb)
  have HV := Aside0.mk (And.intro hv hn)
  clear hv hn hb hI0 hI1 hA0 hA1 hA2
  cases b with
  | false =>
    go_wp2_with fail
    go_ret2
    exact ⟨by rw [← HV.out.1]; rfl, HB5.out⟩
  | true =>
    obtain ⟨z, hz⟩ : ∃ z, z = clean x l sh a0 a1 a2 m := ⟨_, rfl⟩
    have hzn : decide ((n : Int) = 0) = z := by
      rw [hz, clean, ← HV.out.2 rfl]
      simp
    have HZ := Aside0.mk hz
    clear hz
    cases z with
    | false =>
      have hne : ((n : Int) == 0) = false := by simpa using hzn
      go_wp2_with fail
      go_ret2
      exact ⟨by rw [← HV.out.1, ← HZ.out]; rfl, HB5.out⟩
    | true =>
      have hne : n = 0 := by simpa using hzn
      subst hne
      go_wp2_with fail
      go_ret2
      exact ⟨by rw [← HV.out.1, ← HZ.out]; rfl, HB5.out⟩
set_option maxHeartbeats 8000000 in
set_option maxRecDepth 100000 in
theorem iclass_c (A0 : Option Addr) (c0 : Nat) (L : List S40) (hr0 : Kd.C k40 w A0 L.length L) (hc0 : L.length ≤ c0) (hL0 : L.length ≤ 1048576) (hr1 : Kd.C k58 w A1 l.length l) (hc1 : l.length ≤ c1) (hl : l.length ≤ 1048576) (hr2 : Kd.C k80 w A2 sh.length sh) (hc2 : sh.length ≤ c2) (hs : sh.length ≤ 1048576) :
    Calls Try.prog 15 #[.slice A0 L.length c0, .slice A1 l.length c1, .slice A2 sh.length c2, .agg #[.int .i64 a0, .int .i64 a1, .int .i64 a2], .int .i64 m] w fun e w' => ∃ v, e = .returned (.tuple #[v, .bool (asked L l sh a0 a1 a2 m)]) ∧ Kd.R (Kd.int .i64) 3 w' w.heap.size (fun _ => True) v (passed L l sh a0 a1 a2 m) ∧ Below w.heap.size w w' := by
  have HR0 := Aside0.mk hr0
  have HR1 := Aside0.mk hr1
  have HR2 := Aside0.mk hr2
  clear hr0 hr1 hr2
  have hu40 := Try.underlying40
  have hu37 := Try.underlying37
  go_enter Try.func15, Try.ntmps15
  go_upto_region 1 with (first | ((with_reducible refine gate_dst (N := 8) rfl ?_); refine box_event ?hg (N := 8) ?hd (cs := #[.int .i64 a0, .int .i64 a1, .int .i64 a2]) (t := 37) ?hr ?_; (case hd => rfl); (case hg => rfl); (case hr => first | (go_simp; done) | (go_simp; rfl)); intro ga hg wb0 hbox hb; have Bga := Aside0.mk hbox; have HBa := Aside0.mk hb; clear hg hbox hb))
  have hA0 : wb0.cell? ⟨ga, 0, none⟩ = some (.int .i64 a0) := (blk_cell Bga.out 0).trans rfl
  have hA1 : wb0.cell? ⟨ga, 1, none⟩ = some (.int .i64 a1) := (blk_cell Bga.out 1).trans rfl
  have hA2 : wb0.cell? ⟨ga, 2, none⟩ = some (.int .i64 a2) := (blk_cell Bga.out 2).trans rfl
  go_wp2_with fail
  refine (icls_c A0 c0 L wb0 (Kd.C_below HR0.out HBa.out) hc0 hL0).mono ?_
  rintro e w10 ⟨rfl, hb⟩
  have HBn := Aside0.mk (below_on HBa.out HBa.out.size hb)
  have NBga := Aside0.mk (blk_below Bga.out hb)
  clear hb HBa Bga hA0 hA1 hA2
  have HBa := HBn
  have Bga := NBga
  clear HBn NBga
  obtain ⟨b0, h0⟩ : ∃ b, b = cls L := ⟨_, rfl⟩
  rw [← h0]
  have H0 := Aside0.mk h0
  clear h0
  cases b0 with
  | false =>
    have HAs := Aside0.mk (show asked L l sh a0 a1 a2 m = false by unfold asked; rw [← H0.out]; simp)
    go_wp2_with fail
    go_ret2
    exact ⟨_, by rw [HAs.out]; rfl, by unfold passed; rw [HAs.out]; exact Kd.R_nil _ _ _ _ _, HBa.out⟩
  | true =>
    have hA0 : w10.cell? ⟨ga, 0, none⟩ = some (.int .i64 a0) := (blk_cell Bga.out 0).trans rfl
    have hA1 : w10.cell? ⟨ga, 1, none⟩ = some (.int .i64 a1) := (blk_cell Bga.out 1).trans rfl
    have hA2 : w10.cell? ⟨ga, 2, none⟩ = some (.int .i64 a2) := (blk_cell Bga.out 2).trans rfl
    go_wp2_with fail
    refine (iscore_c A1 c1 l w10 (Kd.C_below HR1.out HBa.out) hc1 hl).mono ?_
    rintro e w11 ⟨rfl, hb⟩
    have HBn := Aside0.mk (below_on HBa.out HBa.out.size hb)
    have NBga := Aside0.mk (blk_below Bga.out hb)
    clear hb HBa Bga hA0 hA1 hA2
    have HBa := HBn
    have Bga := NBga
    clear HBn NBga
    obtain ⟨b1, h1⟩ : ∃ b, b = score l := ⟨_, rfl⟩
    rw [← h1]
    have H1 := Aside0.mk h1
    clear h1
    cases b1 with
    | false =>
      have HAs := Aside0.mk (show asked L l sh a0 a1 a2 m = false by unfold asked; rw [← H0.out, ← H1.out]; simp)
      go_wp2_with fail
      go_ret2
      exact ⟨_, by rw [HAs.out]; rfl, by unfold passed; rw [HAs.out]; exact Kd.R_nil _ _ _ _ _, HBa.out⟩
    | true =>
      have hA0 : w11.cell? ⟨ga, 0, none⟩ = some (.int .i64 a0) := (blk_cell Bga.out 0).trans rfl
      have hA1 : w11.cell? ⟨ga, 1, none⟩ = some (.int .i64 a1) := (blk_cell Bga.out 1).trans rfl
      have hA2 : w11.cell? ⟨ga, 2, none⟩ = some (.int .i64 a2) := (blk_cell Bga.out 2).trans rfl
      go_wp2_with fail
      refine (isheet_c A2 c2 sh w11 (Kd.C_below HR2.out HBa.out) hc2 hs).mono ?_
      rintro e w12 ⟨rfl, hb⟩
      have HBn := Aside0.mk (below_on HBa.out HBa.out.size hb)
      have NBga := Aside0.mk (blk_below Bga.out hb)
      clear hb HBa Bga hA0 hA1 hA2
      have HBa := HBn
      have Bga := NBga
      clear HBn NBga
      obtain ⟨b2, h2⟩ : ∃ b, b = sheet sh := ⟨_, rfl⟩
      rw [← h2]
      have H2 := Aside0.mk h2
      clear h2
      cases b2 with
      | false =>
        have HAs := Aside0.mk (show asked L l sh a0 a1 a2 m = false by unfold asked; rw [← H0.out, ← H1.out, ← H2.out]; simp)
        go_wp2_with fail
        go_ret2
        exact ⟨_, by rw [HAs.out]; rfl, by unfold passed; rw [HAs.out]; exact Kd.R_nil _ _ _ _ _, HBa.out⟩
      | true =>
        have hA0 : w12.cell? ⟨ga, 0, none⟩ = some (.int .i64 a0) := (blk_cell Bga.out 0).trans rfl
        have hA1 : w12.cell? ⟨ga, 1, none⟩ = some (.int .i64 a1) := (blk_cell Bga.out 1).trans rfl
        have hA2 : w12.cell? ⟨ga, 2, none⟩ = some (.int .i64 a2) := (blk_cell Bga.out 2).trans rfl
        go_wp2_with fail
        refine (iact_c a0 a1 a2 w12).mono ?_
        rintro e w13 ⟨rfl, hb⟩
        have HBn := Aside0.mk (below_on HBa.out HBa.out.size hb)
        have NBga := Aside0.mk (blk_below Bga.out hb)
        clear hb HBa Bga hA0 hA1 hA2
        have HBa := HBn
        have Bga := NBga
        clear HBn NBga
        obtain ⟨b3, h3⟩ : ∃ b, b = okA a0 a1 a2 := ⟨_, rfl⟩
        rw [← h3]
        have H3 := Aside0.mk h3
        clear h3
        cases b3 with
        | false =>
          have HAs := Aside0.mk (show asked L l sh a0 a1 a2 m = false by unfold asked; rw [← H0.out, ← H1.out, ← H2.out, ← H3.out]; simp)
          go_wp2_with fail
          go_ret2
          exact ⟨_, by rw [HAs.out]; rfl, by unfold passed; rw [HAs.out]; exact Kd.R_nil _ _ _ _ _, HBa.out⟩
        | true =>
          have hA0 : w13.cell? ⟨ga, 0, none⟩ = some (.int .i64 a0) := (blk_cell Bga.out 0).trans rfl
          have hA1 : w13.cell? ⟨ga, 1, none⟩ = some (.int .i64 a1) := (blk_cell Bga.out 1).trans rfl
          have hA2 : w13.cell? ⟨ga, 2, none⟩ = some (.int .i64 a2) := (blk_cell Bga.out 2).trans rfl
          go_wp2_with fail
          refine (itol_c m w13).mono ?_
          rintro e w14 ⟨rfl, hb⟩
          have HBn := Aside0.mk (below_on HBa.out HBa.out.size hb)
          have NBga := Aside0.mk (blk_below Bga.out hb)
          clear hb HBa Bga hA0 hA1 hA2
          have HBa := HBn
          have Bga := NBga
          clear HBn NBga
          obtain ⟨b4, h4⟩ : ∃ b, b = okT m := ⟨_, rfl⟩
          rw [← h4]
          have H4 := Aside0.mk h4
          clear h4
          cases b4 with
          | false =>
            have HAs := Aside0.mk (show asked L l sh a0 a1 a2 m = false by unfold asked; rw [← H0.out, ← H1.out, ← H2.out, ← H3.out, ← H4.out]; simp)
            go_wp2_with fail
            go_ret2
            exact ⟨_, by rw [HAs.out]; rfl, by unfold passed; rw [HAs.out]; exact Kd.R_nil _ _ _ _ _, HBa.out⟩
          | true =>
            have hA0 : w14.cell? ⟨ga, 0, none⟩ = some (.int .i64 a0) := (blk_cell Bga.out 0).trans rfl
            have hA1 : w14.cell? ⟨ga, 1, none⟩ = some (.int .i64 a1) := (blk_cell Bga.out 1).trans rfl
            have hA2 : w14.cell? ⟨ga, 2, none⟩ = some (.int .i64 a2) := (blk_cell Bga.out 2).trans rfl
            have hcb := cls_bd H0.out.symm
            have HCB := Aside0.mk hcb.2
            have hL6 : L.length ≤ 6 := hcb.1.2
            have HLA := Aside0.mk (And.intro (score_all H1.out.symm) (And.intro (sheet_all H2.out.symm) (okA_bd H3.out.symm)))
            have HAs := Aside0.mk (show asked L l sh a0 a1 a2 m = true by unfold asked; rw [← H0.out, ← H1.out, ← H2.out, ← H3.out, ← H4.out]; rfl)
            clear hcb
            obtain ⟨B2, hB2⟩ : ∃ b, b = w14.heap.size := ⟨_, rfl⟩
            have HBE := Aside0.mk hB2
            have HBB := Aside0.mk (show w.heap.size ≤ B2 ∧ ga < B2 from ⟨by rw [hB2]; exact HBa.out.size, by rw [hB2]; exact blk_lt Bga.out⟩)
            go_upto_region 4 with (((with_reducible refine gate_dst (N := 38) rfl ?_); refine Kd.R_lit (Kd.int .i64) _ 3 ?hg (N := 38) ?hd (xs := ([] : List Int)) (inner := []) (ok := fun _ => True) (okp := fun _ => True) ?hr ?hp (fun _ hk => hk) trivial (Below.refl _ _) (Nat.le_refl _) (by simp) ?_; (case hd => rfl); (case hg => rfl); (case hr => first | (go_simp; done) | (go_simp; rfl)); (case hp => exact (Reps.none _ _)); intro v12 wn ho hb hg_ hnew_; clear hg_ hnew_; have HO := Aside0.mk ho; have HBN := Aside0.mk hb; clear ho hb))
            rw [← hB2] at HO HBN
            have HSN := Aside0.mk (show B2 ≤ wn.heap.size by rw [hB2]; exact hB2 ▸ HBN.out.size)
            clear hB2 hA0 hA1 hA2
            go_wp2_with fail
            go_loopg [12, 41] L.length (fun gk v12 vi wr => ∃ (pre suf : List S40) (outs : List Int), Aside0 (L = pre ++ suf) ∧ vi = .int .i64 (pre.length : Int) ∧ Aside0 (gk = suf.length) ∧ Aside0 (outs.length ≤ pre.length ∧ passFrom l sh a0 a1 a2 m 0 L = outs ++ passFrom l sh a0 a1 a2 m pre.length suf) ∧ Aside0 (Kd.R (Kd.int .i64) 3 wr B2 (fun _ => True) v12 outs) ∧ Aside0 (Below B2 w14 wr) ∧ Aside0 (B2 ≤ wr.heap.size))
            case atStart => exact ⟨[], L, [], ⟨rfl⟩, rfl, ⟨rfl⟩, ⟨by simp, rfl⟩, HO, HBN, HSN⟩
            case round =>
              clear HO HBN HSN
              obtain ⟨pre, suf, outs, HE, rfl, HG, HM, HO, HBR, HSZ⟩ := hrel
              cases suf with
              | nil =>
                have hlt2 : ¬ pre.length < L.length := by have := HE.out; rw [this]; simp
                have hle2 : pre.length ≤ L.length := by have := HE.out; rw [this]; simp
                have HT := Aside0.mk (show passed L l sh a0 a1 a2 m = outs from by unfold passed; rw [if_pos HAs.out, HM.out.2]; simp [passFrom])
                go_wp2_with fail
                go_ret2
                exact ⟨u12, by rw [HAs.out]; rfl, by rw [HT.out]; exact Kd.R_lower HO.out HBB.out.1, HBa.out.trans (HBR.out.mono HBB.out.1)⟩
              | cons x suf =>
                have hlt2 : pre.length < L.length := by have := HE.out; rw [this]; simp
                obtain ⟨ad, Ap, cp, e, hx0, hx1, hcp, hp⟩ := at_T40 HR0.out (pre.length : Int) (by omega) (by omega)
                cases e
                rw [show rd_T40 L (pre.length : Int) = x by rw [HE.out]; exact rd40_at pre suf x] at hx0 hx1 hcp hp
                have HP := Aside0.mk hp
                clear hp
                have hbw := HBa.out.trans (HBR.out.mono HBB.out.1)
                replace hx0 := (hbw.cell (World.block_lt_of_cell? w _ hx0)).trans hx0
                replace hx1 := (hbw.cell (World.block_lt_of_cell? w _ hx1)).trans hx1
                rw [Int.toNat_natCast] at hx0 hx1
                have HOK := Aside0.mk (okI_bd (HCB.out x (by rw [HE.out]; simp)))
                clear hbw
                go_upto_region 7 with (first | ((with_reducible refine gate_dst (N := 14) rfl ?_); refine box_event ?hg (N := 14) ?hd (cs := #[.slice none 0 0, .int .i64 0]) (t := 40) ?hr ?_; (case hd => rfl); (case hg => rfl); (case hr => first | (go_simp; done) | (go_simp; rfl)); intro gh hg w8 hbox hb; have HGH := Aside0.mk hg; have BH := Aside0.mk hbox; have HB8 := Aside0.mk hb; have hz0 : w8.cell? ⟨gh, 0, none⟩ = some (.slice none 0 0) := (blk_cell BH.out 0).trans rfl; have hz1 : w8.cell? ⟨gh, 1, none⟩ = some (.int .i64 0) := (blk_cell BH.out 1).trans rfl; have hf0 := blk_frozen BH.out 0; have hf1 := blk_frozen BH.out 1; clear hg hbox hb))
                refine wp_world (F := fun wy => Aside0 (wy.heap[gh]? = some (.cells #[.slice Ap x.f0.length cp, .int .i64 x.f1] 40 (0, 0))) ∧ Aside0 (Below wr.heap.size wr wy)) ?facts ?_
                case facts =>
                  have hge : wr.heap.size ≤ gh := by rw [HGH.out]; exact Nat.le_refl _
                  exact ⟨⟨blk_put (blk_put BH.out 0 _ rfl) 1 _ rfl⟩, ⟨below_set (below_set HB8.out hge) hge⟩⟩
                clear hz0 hz1 hf0 hf1 BH HB8 hx0 hx1
                intro wy ⟨BH, HBY⟩
                have HOY := Aside0.mk (Kd.R_below HO.out HBY.out)
                have HBRY := Aside0.mk (below_on HBR.out HSZ.out HBY.out)
                have HSY := Aside0.mk (show B2 ≤ wy.heap.size from Nat.le_trans HSZ.out HBY.out.size)
                have BgaY := Aside0.mk ((HBRY.out.block ga HBB.out.2).trans Bga.out)
                have hI0 : wy.cell? ⟨gh, 0, none⟩ = some (.slice Ap x.f0.length cp) := (blk_cell BH.out 0).trans rfl
                have hI1 : wy.cell? ⟨gh, 1, none⟩ = some (.int .i64 x.f1) := (blk_cell BH.out 1).trans rfl
                have hA0 : wy.cell? ⟨ga, 0, none⟩ = some (.int .i64 a0) := (blk_cell BgaY.out 0).trans rfl
                have hA1 : wy.cell? ⟨ga, 1, none⟩ = some (.int .i64 a1) := (blk_cell BgaY.out 1).trans rfl
                have hA2 : wy.cell? ⟨ga, 2, none⟩ = some (.int .i64 a2) := (blk_cell BgaY.out 2).trans rfl
                have HW := Aside0.mk (HBa.out.trans (HBRY.out.mono HBB.out.1))
                clear BH HBY HO HBR HSZ
                go_wp2_with fail
                refine (faults_c Ap cp x A1 c1 l A2 c2 sh a0 a1 a2 m wy (Kd.C_below HP.out HW.out) hcp (Kd.C_below HR1.out HW.out) hc1 (Kd.C_below HR2.out HW.out) hc2 HOK.out.1 HOK.out.2 (by have := HLA.out.1.1; omega) HLA.out.1.2 (by have := HLA.out.2.1.1; omega) HLA.out.2.1.2 HLA.out.2.2.1 HLA.out.2.2.2).mono ?_
                rintro e w9 ⟨A9, c9, rfl, hb⟩
                have HO9 := Aside0.mk (Kd.R_below HOY.out hb)
                have HB9 := Aside0.mk (below_on HBRY.out HSY.out hb)
                have HS9 := Aside0.mk (show B2 ≤ w9.heap.size from Nat.le_trans HSY.out hb.size)
                clear hb hI0 hI1 hA0 hA1 hA2 HOY HBRY HSY
                obtain ⟨n, hn⟩ : ∃ n, n = (faultRows m x l sh a0 a1 a2).length := ⟨_, rfl⟩
                rw [← hn]
                have HN := Aside0.mk hn
                clear hn
                by_cases hz : n = 0
                · subst hz
                  have hcl : clean x l sh a0 a1 a2 m = true := by unfold clean; rw [← HN.out]; rfl
                  have HM2 := Aside0.mk (show (outs ++ [(pre.length : Int)]).length ≤ (pre ++ [x]).length ∧ passFrom l sh a0 a1 a2 m 0 L = (outs ++ [(pre.length : Int)]) ++ passFrom l sh a0 a1 a2 m (pre ++ [x]).length suf from by
                    refine ⟨by have := HM.out.1; simp; omega, ?_⟩
                    rw [HM.out.2]; simp [passFrom, hcl])
                  have HOl := Aside0.mk (show outs.length ≤ 6 by have := HM.out.1; omega)
                  clear hcl
                  obtain ⟨Av, cv, rfl⟩ := Kd.R_slice HO9.out
                  go_wp2_with (first | (at_builtin; refine Kd.R_append (Kd.int .i64) (w0 := w14) B2 rfl (.tmp 54) (.tmp 56) 24 3 (.int .i64 0) 8 rfl Try.underlying24 info3 rfl (by decide) (by omega) _ outs (pre.length : Int) [.int .i64 (pre.length : Int)] (fun _ => True) (fun _ => False) rfl rfl ?aP (fun _ hk => hk.elim) ?aF ?aO ?aB ?aS ?aL ?_; (case aP => exact rfl); (case aB => exact HB9.out); (case aF => exact (fun _ _ => trivial)); (case aO => exact HO9.out); (case aS => exact HS9.out); (case aL => have := HOl.out; omega); intro vo' wo ho hb9 _ _; have HOo := Aside0.mk ho; have HBo := Aside0.mk hb9; have HSo := Aside0.mk (show B2 ≤ wo.heap.size by rw [HBE.out]; exact Below.size hb9); clear ho hb9))
                  go_roundg suf.length
                  case measure => have := HG.out; simp at this; omega
                  case rel => exact ⟨pre ++ [x], suf, outs ++ [(pre.length : Int)], ⟨by rw [HE.out]; simp⟩, by simp, ⟨rfl⟩, HM2, HOo, HBo, HSo⟩
                · have hcl : clean x l sh a0 a1 a2 m = false := by unfold clean; rw [← HN.out]; simpa using hz
                  have hnz : ((n : Int) == 0) = false := by simpa using hz
                  have HM2 := Aside0.mk (show outs.length ≤ (pre ++ [x]).length ∧ passFrom l sh a0 a1 a2 m 0 L = outs ++ passFrom l sh a0 a1 a2 m (pre ++ [x]).length suf from by
                    refine ⟨by have := HM.out.1; simp; omega, ?_⟩
                    rw [HM.out.2]; simp [passFrom, hcl])
                  clear hcl
                  go_wp2_with fail
                  go_roundg suf.length
                  case measure => have := HG.out; simp at this; omega
                  case rel => exact ⟨pre ++ [x], suf, outs, ⟨by rw [HE.out]; simp⟩, by simp, ⟨rfl⟩, HM2, HO9, HB9, HS9⟩
set_option maxHeartbeats 8000000 in
set_option maxRecDepth 100000 in
theorem sclass_c (A0 : Option Addr) (c0 : Nat) (L : List S40) (hr0 : Kd.C k40 w A0 L.length L) (hc0 : L.length ≤ c0) (hL0 : L.length ≤ 1048576) (hr1 : Kd.C k58 w A1 l.length l) (hc1 : l.length ≤ c1) (hl : l.length ≤ 1048576) (hr2 : Kd.C k80 w A2 sh.length sh) (hc2 : sh.length ≤ c2) (hs : sh.length ≤ 1048576) :
    Calls Try.prog 16 #[.slice A0 L.length c0, .slice A1 l.length c1, .slice A2 sh.length c2, .agg #[.int .i64 a0, .int .i64 a1, .int .i64 a2], .int .i64 m] w fun e w' => ∃ v, e = .returned (.tuple #[v, .bool (asked L l sh a0 a1 a2 m)]) ∧ Kd.R (Kd.int .i64) 3 w' w.heap.size (fun _ => True) v (passed L l sh a0 a1 a2 m) ∧ Below w.heap.size w w' := by
  have HR0 := Aside0.mk hr0
  have HR1 := Aside0.mk hr1
  have HR2 := Aside0.mk hr2
  clear hr0 hr1 hr2
  have hu40 := Try.underlying40
  have hu37 := Try.underlying37
  go_enter Try.func16, Try.ntmps16
  go_upto_region 1 with (first | ((with_reducible refine gate_dst (N := 8) rfl ?_); refine box_event ?hg (N := 8) ?hd (cs := #[.int .i64 a0, .int .i64 a1, .int .i64 a2]) (t := 37) ?hr ?_; (case hd => rfl); (case hg => rfl); (case hr => first | (go_simp; done) | (go_simp; rfl)); intro ga hg wb0 hbox hb; have Bga := Aside0.mk hbox; have HBa := Aside0.mk hb; clear hg hbox hb))
  refine wp_region_mid 4 11 (by kernel_rfl) (by kernel_rfl) (fun _ _ d _ _ h => by cases d <;> exact h) ?_
  simp only [List.take_succ_cons, List.take_zero, List.drop_succ_cons, List.drop_zero]
  intro Q2 hQ2
  change wpList _ _ _ _ _ wb0.drew
  have HQ2 := Aside0.mk hQ2
  clear hQ2
  have hbd : Below w.heap.size w wb0.drew := below_drew1 HBa.out
  have hbg : wb0.drew.heap[ga]? = some (.cells #[.int .i64 a0, .int .i64 a1, .int .i64 a2] 37 (0, 0)) := Bga.out
  obtain ⟨wq, hwq⟩ : ∃ wq, wq = wb0.drew := ⟨_, rfl⟩
  rw [← hwq] at hbd hbg ⊢
  have HBd := Aside0.mk hbd
  have Bgd := Aside0.mk hbg
  clear hwq hbd hbg HBa Bga
  go_wp2_with fail
  refine (scls_c A0 c0 L wq (Kd.C_below HR0.out HBd.out) hc0 hL0).mono ?_
  rintro e w10 ⟨rfl, hb⟩
  have HBa := Aside0.mk (below_on HBd.out HBd.out.size hb)
  have Bga := Aside0.mk (blk_below Bgd.out hb)
  clear hb HBd Bgd
  obtain ⟨b0, h0⟩ : ∃ b, b = cls L := ⟨_, rfl⟩
  rw [← h0]
  have H0 := Aside0.mk h0
  clear h0
  have hA0 : w10.cell? ⟨ga, 0, none⟩ = some (.int .i64 a0) := (blk_cell Bga.out 0).trans rfl
  have hA1 : w10.cell? ⟨ga, 1, none⟩ = some (.int .i64 a1) := (blk_cell Bga.out 1).trans rfl
  have hA2 : w10.cell? ⟨ga, 2, none⟩ = some (.int .i64 a2) := (blk_cell Bga.out 2).trans rfl
  cases b0 with
  | false =>
    go_wp2_with fail
    refine HQ2.out _ _ ?_
    iterate 7 (refine wpCalm_step (fun K hK => ?_); go_simp; refine hK _ ?_; clear hK K)
    refine wpCalm_nil ?_
    have HAs := Aside0.mk (show asked L l sh a0 a1 a2 m = false by unfold asked; rw [← H0.out]; simp)
    go_wp2_with fail
    go_ret2
    exact ⟨_, by rw [HAs.out]; rfl, by unfold passed; rw [HAs.out]; exact Kd.R_nil _ _ _ _ _, HBa.out⟩
  | true =>
    have hcb0 := cls_bd H0.out.symm
    obtain ⟨x0, L', hL0e⟩ : ∃ x0 L', L = x0 :: L' := by
      cases L with
      | nil => have := hcb0.1.1; simp at this
      | cons x r => exact ⟨x, r, rfl⟩
    obtain ⟨ad, Ap, cp, e, hx0, hx1, hcp, hp⟩ := at_T40 HR0.out (0 : Int) (by omega) (by omega)
    cases e
    rw [show rd_T40 L (0 : Int) = x0 by rw [hL0e]; rfl] at hx0 hx1 hcp hp
    have HP := Aside0.mk hp
    have HI0 := Aside0.mk (hcb0.2 x0 (by rw [hL0e]; simp))
    have hlen : 0 < L.length := hcb0.1.1
    replace hx0 := (HBa.out.cell (World.block_lt_of_cell? w _ hx0)).trans hx0
    replace hx1 := (HBa.out.cell (World.block_lt_of_cell? w _ hx1)).trans hx1
    clear hp hcb0 hL0e
    rw [show (0 : Int).toNat * 2 = 0 from rfl, addr_zero] at hx0 hx1
    have HX := Aside0.mk (And.intro hx0 hx1)
    clear hx0 hx1
    go_wp2_with fail
    obtain ⟨hx0, hx1⟩ := HX.out
    refine HQ2.out _ _ ?_
    iterate 7 (refine wpCalm_step (fun K hK => ?_); go_simp; refine hK _ ?_; clear hK K)
    refine wpCalm_nil ?_
    go_wp2_with fail
    refine (vfall_c Ap cp x0 A1 c1 l A2 c2 sh a0 a1 a2 m w10 (Kd.C_below HP.out HBa.out) hcp (Kd.C_below HR1.out HBa.out) hc1 hl (Kd.C_below HR2.out HBa.out) hc2 hs).mono ?_
    rintro e w11 ⟨rfl, hb⟩
    have HBn := Aside0.mk (below_on HBa.out HBa.out.size hb)
    have NBga := Aside0.mk (blk_below Bga.out hb)
    clear hb HBa Bga hA0 hA1 hA2 hx0 hx1
    have HBa := HBn
    have Bga := NBga
    clear HBn NBga
    obtain ⟨b1, h1⟩ : ∃ b, b = (((okI x0 && score l) && sheet sh) && (okA a0 a1 a2 && okT m)) := ⟨_, rfl⟩
    rw [← h1]
    have HV := Aside0.mk h1
    clear h1
    cases b1 with
    | false =>
      have HAs := Aside0.mk (show asked L l sh a0 a1 a2 m = false by
        have h := HV.out
        rw [HI0.out] at h
        unfold asked
        rw [← H0.out]
        revert h
        cases score l <;> cases sheet sh <;> cases okA a0 a1 a2 <;> cases okT m <;> simp)
      go_wp2_with fail
      go_ret2
      exact ⟨_, by rw [HAs.out]; rfl, by unfold passed; rw [HAs.out]; exact Kd.R_nil _ _ _ _ _, HBa.out⟩
    | true =>
      obtain ⟨k1, k2, k3, k4⟩ : true = score l ∧ true = sheet sh ∧ true = okA a0 a1 a2 ∧ true = okT m := by
        have h := HV.out
        revert h
        cases okI x0 <;> cases score l <;> cases sheet sh <;> cases okA a0 a1 a2 <;> cases okT m <;> simp
      have H1 := Aside0.mk k1
      have H2 := Aside0.mk k2
      have H3 := Aside0.mk k3
      have H4 := Aside0.mk k4
      clear k1 k2 k3 k4
      have hA0 : w11.cell? ⟨ga, 0, none⟩ = some (.int .i64 a0) := (blk_cell Bga.out 0).trans rfl
      have hA1 : w11.cell? ⟨ga, 1, none⟩ = some (.int .i64 a1) := (blk_cell Bga.out 1).trans rfl
      have hA2 : w11.cell? ⟨ga, 2, none⟩ = some (.int .i64 a2) := (blk_cell Bga.out 2).trans rfl
      have hcb := cls_bd H0.out.symm
      have HCB := Aside0.mk hcb.2
      have hL6 : L.length ≤ 6 := hcb.1.2
      have HLA := Aside0.mk (And.intro (score_all H1.out.symm) (And.intro (sheet_all H2.out.symm) (okA_bd H3.out.symm)))
      have HAs := Aside0.mk (show asked L l sh a0 a1 a2 m = true by unfold asked; rw [← H0.out, ← H1.out, ← H2.out, ← H3.out, ← H4.out]; rfl)
      clear hcb
      obtain ⟨B2, hB2⟩ : ∃ b, b = w11.heap.size := ⟨_, rfl⟩
      have HBE := Aside0.mk hB2
      have HBB := Aside0.mk (show w.heap.size ≤ B2 ∧ ga < B2 from ⟨by rw [hB2]; exact HBa.out.size, by rw [hB2]; exact blk_lt Bga.out⟩)
      have HO := Aside0.mk (Kd.R_nil (Kd.int .i64) 3 w11 B2 (fun _ => True))
      have HBN : Aside0 (Below B2 w11 w11) := ⟨Below.refl _ _⟩
      have HSN := Aside0.mk (show B2 ≤ w11.heap.size by rw [hB2]; exact Nat.le_refl _)
      clear hB2 hA0 hA1 hA2
      go_wp2_with fail
      go_loopg [12, 31] L.length (fun gk v12 vi wr => ∃ (pre suf : List S40) (outs : List Int), Aside0 (L = pre ++ suf) ∧ vi = .int .i64 (pre.length : Int) ∧ Aside0 (gk = suf.length) ∧ Aside0 (outs.length ≤ pre.length ∧ passFrom l sh a0 a1 a2 m 0 L = outs ++ passFrom l sh a0 a1 a2 m pre.length suf) ∧ Aside0 (Kd.R (Kd.int .i64) 3 wr B2 (fun _ => True) v12 outs) ∧ Aside0 (Below B2 w11 wr) ∧ Aside0 (B2 ≤ wr.heap.size))
      case atStart => exact ⟨[], L, [], ⟨rfl⟩, rfl, ⟨rfl⟩, ⟨by simp, rfl⟩, HO, HBN, HSN⟩
      case round =>
        clear HO HBN HSN
        obtain ⟨pre, suf, outs, HE, rfl, HG, HM, HO, HBR, HSZ⟩ := hrel
        cases suf with
        | nil =>
          have hlt2 : ¬ pre.length < L.length := by have := HE.out; rw [this]; simp
          have hle2 : pre.length ≤ L.length := by have := HE.out; rw [this]; simp
          have HT := Aside0.mk (show passed L l sh a0 a1 a2 m = outs from by unfold passed; rw [if_pos HAs.out, HM.out.2]; simp [passFrom])
          go_wp2_with fail
          go_ret2
          exact ⟨u12, by rw [HAs.out]; rfl, by rw [HT.out]; exact Kd.R_lower HO.out HBB.out.1, HBa.out.trans (HBR.out.mono HBB.out.1)⟩
        | cons x suf =>
          have hlt2 : pre.length < L.length := by have := HE.out; rw [this]; simp
          obtain ⟨ad, Ap, cp, e, hx0, hx1, hcp, hp⟩ := at_T40 HR0.out (pre.length : Int) (by omega) (by omega)
          cases e
          rw [show rd_T40 L (pre.length : Int) = x by rw [HE.out]; exact rd40_at pre suf x] at hx0 hx1 hcp hp
          have HP := Aside0.mk hp
          clear hp
          have hbw := HBa.out.trans (HBR.out.mono HBB.out.1)
          replace hx0 := (hbw.cell (World.block_lt_of_cell? w _ hx0)).trans hx0
          replace hx1 := (hbw.cell (World.block_lt_of_cell? w _ hx1)).trans hx1
          rw [Int.toNat_natCast] at hx0 hx1
          have HOK := Aside0.mk (okI_bd (HCB.out x (by rw [HE.out]; simp)))
          clear hbw
          go_upto_region 7 with (first | ((with_reducible refine gate_dst (N := 14) rfl ?_); refine box_event ?hg (N := 14) ?hd (cs := #[.slice none 0 0, .int .i64 0]) (t := 40) ?hr ?_; (case hd => rfl); (case hg => rfl); (case hr => first | (go_simp; done) | (go_simp; rfl)); intro gh hg w8 hbox hb; have HGH := Aside0.mk hg; have BH := Aside0.mk hbox; have HB8 := Aside0.mk hb; have hz0 : w8.cell? ⟨gh, 0, none⟩ = some (.slice none 0 0) := (blk_cell BH.out 0).trans rfl; have hz1 : w8.cell? ⟨gh, 1, none⟩ = some (.int .i64 0) := (blk_cell BH.out 1).trans rfl; have hf0 := blk_frozen BH.out 0; have hf1 := blk_frozen BH.out 1; clear hg hbox hb))
          refine wp_world (F := fun wy => Aside0 (wy.heap[gh]? = some (.cells #[.slice Ap x.f0.length cp, .int .i64 x.f1] 40 (0, 0))) ∧ Aside0 (Below wr.heap.size wr wy)) ?facts ?_
          case facts =>
            have hge : wr.heap.size ≤ gh := by rw [HGH.out]; exact Nat.le_refl _
            exact ⟨⟨blk_put (blk_put BH.out 0 _ rfl) 1 _ rfl⟩, ⟨below_set (below_set HB8.out hge) hge⟩⟩
          clear hz0 hz1 hf0 hf1 BH HB8 hx0 hx1
          intro wy ⟨BH, HBY⟩
          have HOY := Aside0.mk (Kd.R_below HO.out HBY.out)
          have HBRY := Aside0.mk (below_on HBR.out HSZ.out HBY.out)
          have HSY := Aside0.mk (show B2 ≤ wy.heap.size from Nat.le_trans HSZ.out HBY.out.size)
          have BgaY := Aside0.mk ((HBRY.out.block ga HBB.out.2).trans Bga.out)
          have hI0 : wy.cell? ⟨gh, 0, none⟩ = some (.slice Ap x.f0.length cp) := (blk_cell BH.out 0).trans rfl
          have hI1 : wy.cell? ⟨gh, 1, none⟩ = some (.int .i64 x.f1) := (blk_cell BH.out 1).trans rfl
          have hA0 : wy.cell? ⟨ga, 0, none⟩ = some (.int .i64 a0) := (blk_cell BgaY.out 0).trans rfl
          have hA1 : wy.cell? ⟨ga, 1, none⟩ = some (.int .i64 a1) := (blk_cell BgaY.out 1).trans rfl
          have hA2 : wy.cell? ⟨ga, 2, none⟩ = some (.int .i64 a2) := (blk_cell BgaY.out 2).trans rfl
          have HW := Aside0.mk (HBa.out.trans (HBRY.out.mono HBB.out.1))
          clear BH HBY HO HBR HSZ
          go_wp2_with fail
          refine (sfaults_c Ap cp x A1 c1 l A2 c2 sh a0 a1 a2 m wy (Kd.C_below HP.out HW.out) hcp (Kd.C_below HR1.out HW.out) hc1 (Kd.C_below HR2.out HW.out) hc2 HOK.out.1 HOK.out.2 (by have := HLA.out.1.1; omega) HLA.out.1.2 (by have := HLA.out.2.1.1; omega) HLA.out.2.1.2 HLA.out.2.2.1 HLA.out.2.2.2).mono ?_
          rintro e w9 ⟨A9, c9, rfl, hb⟩
          have HO9 := Aside0.mk (Kd.R_below HOY.out hb)
          have HB9 := Aside0.mk (below_on HBRY.out HSY.out hb)
          have HS9 := Aside0.mk (show B2 ≤ w9.heap.size from Nat.le_trans HSY.out hb.size)
          clear hb hI0 hI1 hA0 hA1 hA2 HOY HBRY HSY
          obtain ⟨n, hn⟩ : ∃ n, n = (faultRows m x l sh a0 a1 a2).length := ⟨_, rfl⟩
          rw [← hn]
          have HN := Aside0.mk hn
          clear hn
          by_cases hz : n = 0
          · subst hz
            have hcl : clean x l sh a0 a1 a2 m = true := by unfold clean; rw [← HN.out]; rfl
            have HM2 := Aside0.mk (show (outs ++ [(pre.length : Int)]).length ≤ (pre ++ [x]).length ∧ passFrom l sh a0 a1 a2 m 0 L = (outs ++ [(pre.length : Int)]) ++ passFrom l sh a0 a1 a2 m (pre ++ [x]).length suf from by
              refine ⟨by have := HM.out.1; simp; omega, ?_⟩
              rw [HM.out.2]; simp [passFrom, hcl])
            have HOl := Aside0.mk (show outs.length ≤ 6 by have := HM.out.1; omega)
            clear hcl
            obtain ⟨Av, cv, rfl⟩ := Kd.R_slice HO9.out
            go_wp2_with (first | (at_builtin; refine Kd.R_append (Kd.int .i64) (w0 := w11) B2 rfl (.tmp 44) (.tmp 46) 24 3 (.int .i64 0) 8 rfl Try.underlying24 info3 rfl (by decide) (by omega) _ outs (pre.length : Int) [.int .i64 (pre.length : Int)] (fun _ => True) (fun _ => False) rfl rfl ?aP (fun _ hk => hk.elim) ?aF ?aO ?aB ?aS ?aL ?_; (case aP => exact rfl); (case aB => exact HB9.out); (case aF => exact (fun _ _ => trivial)); (case aO => exact HO9.out); (case aS => exact HS9.out); (case aL => have := HOl.out; omega); intro vo' wo ho hb9 _ _; have HOo := Aside0.mk ho; have HBo := Aside0.mk hb9; have HSo := Aside0.mk (show B2 ≤ wo.heap.size by rw [HBE.out]; exact Below.size hb9); clear ho hb9))
            go_roundg suf.length
            case measure => have := HG.out; simp at this; omega
            case rel => exact ⟨pre ++ [x], suf, outs ++ [(pre.length : Int)], ⟨by rw [HE.out]; simp⟩, by simp, ⟨rfl⟩, HM2, HOo, HBo, HSo⟩
          · have hcl : clean x l sh a0 a1 a2 m = false := by unfold clean; rw [← HN.out]; simpa using hz
            have hnz : ((n : Int) == 0) = false := by simpa using hz
            have HM2 := Aside0.mk (show outs.length ≤ (pre ++ [x]).length ∧ passFrom l sh a0 a1 a2 m 0 L = outs ++ passFrom l sh a0 a1 a2 m (pre ++ [x]).length suf from by
              refine ⟨by have := HM.out.1; simp; omega, ?_⟩
              rw [HM.out.2]; simp [passFrom, hcl])
            clear hcl
            go_wp2_with fail
            go_roundg suf.length
            case measure => have := HG.out; simp at this; omega
            case rel => exact ⟨pre ++ [x], suf, outs, ⟨by rw [HE.out]; simp⟩, by simp, ⟨rfl⟩, HM2, HO9, HB9, HS9⟩
end
end Go.Proofs.Ythhlmjcfhfkmdaa.Cx
