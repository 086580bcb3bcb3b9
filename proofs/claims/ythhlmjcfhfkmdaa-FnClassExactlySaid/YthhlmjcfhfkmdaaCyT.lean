/- Contracts of the checks that guard a verdict. -/
import Derived.Test.YthhlmjcfhfkmdaaCyG
namespace Go.Proofs.Ythhlmjcfhfkmdaa.Cx
open Go.RowKit Go.Proofs.Ythhlmjcfhfkmdaa.PFnClassExactly Go.Proofs.YthhlmjcfhfkmdaaW.PrintWords Go.Proofs.YthhlmjcfhfkmdaaW.PrintLast Go.Proofs.YthhlmjcfhfkmdaaW.PrintMore
set_option linter.unusedVariables false
set_option linter.unusedSimpArgs false

theorem hgood_all : ∀ (l pre : List S80), hgood pre l = true → ∀ h ∈ l, okH h = true
  | [], _, _, h, hm => by simp at hm
  | x :: r, pre, h, y, hm => by
    simp only [hgood, hstep, Bool.and_eq_true] at h
    rcases List.mem_cons.1 hm with rfl | hm
    · exact h.1.1.1
    · exact hgood_all r _ h.2 y hm
theorem sheet_all {s : List S80} (h : sheet s = true) : s.length ≤ 60 ∧ ∀ y ∈ s, okH y = true := by
  simp only [sheet, Bool.and_eq_true, decide_eq_true_eq] at h
  exact ⟨h.2, hgood_all s [] h.1⟩
theorem good_all : ∀ (l pre : List S58), goodTo pre l = true → ∀ h ∈ l, okN h = true
  | [], _, _, h, hm => by simp at hm
  | x :: r, pre, h, y, hm => by
    simp only [goodTo, goodStep, Bool.and_eq_true] at h
    rcases List.mem_cons.1 hm with rfl | hm
    · exact h.1.1.1
    · exact good_all r _ h.2 y hm
theorem score_all {s : List S58} (h : score s = true) : s.length ≤ 30 ∧ ∀ y ∈ s, okN y = true := by
  simp only [score, Bool.and_eq_true, decide_eq_true_eq] at h
  exact ⟨h.2, good_all s [] h.1⟩
theorem okI_bd {x : S40} (h : okI x = true) : x.f0.length ≤ 20 ∧ (0 ≤ x.f1 ∧ x.f1 ≤ 20) := by
  simp only [okI, Bool.and_eq_true, decide_eq_true_eq] at h
  omega
theorem okA_bd {a0 a1 a2 : Int} (h : okA a0 a1 a2 = true) : (0 ≤ a0 ∧ a0 ≤ 40) ∧ (0 ≤ a1 ∧ a1 ≤ 40) := by
  simp only [okA, Bool.and_eq_true, decide_eq_true_eq] at h
  omega
section
variable (Ap : Option Addr) (cp : Nat) (x : S40) (A1 : Option Addr) (c1 : Nat) (l : List S58) (A2 : Option Addr) (c2 : Nat) (sh : List S80) (a0 a1 a2 m : Int) (w : World)
set_option maxHeartbeats 8000000 in
set_option maxRecDepth 100000 in
theorem inasked_c (hp : Kd.C (Kd.int .i64) w Ap x.f0.length x.f0) (hcp : x.f0.length ≤ cp) (hr1 : Kd.C k58 w A1 l.length l) (hc1 : l.length ≤ c1) (hl : l.length ≤ 1048576) :
    Calls Try.prog 92 #[.agg #[.slice Ap x.f0.length cp, .int .i64 x.f1], .slice A1 l.length c1] w fun e w' => e = .returned (.bool ((okI x) && (score l))) ∧ Below w.heap.size w w' := by
  have HP := Aside0.mk hp
  clear hp
  have HR1 := Aside0.mk hr1
  clear hr1
  have hu40 := Try.underlying40
  have hu37 := Try.underlying37
  go_enter Try.func92, Try.ntmps92
  go_upto_region 1 with (first | ((with_reducible refine gate_dst (N := 2) rfl ?_); refine box_event ?hg (N := 2) ?hd (cs := #[.slice Ap x.f0.length cp, .int .i64 x.f1]) (t := 40) ?hr ?_; (case hd => rfl); (case hg => rfl); (case hr => first | (go_simp; done) | (go_simp; rfl)); intro gi hg wb0 hbox hb; have Bgi := Aside0.mk hbox; have HBa := Aside0.mk hb; clear hg hbox hb))
  have hI0 : wb0.cell? ⟨gi, 0, none⟩ = some (.slice Ap x.f0.length cp) := (blk_cell Bgi.out 0).trans rfl
  have hI1 : wb0.cell? ⟨gi, 1, none⟩ = some (.int .i64 x.f1) := (blk_cell Bgi.out 1).trans rfl
  go_wp2_with fail
  refine (sinst_c Ap cp x wb0 (Kd.C_below HP.out HBa.out) hcp).mono ?_
  rintro e w10 ⟨rfl, hb⟩
  have HBn := Aside0.mk (below_on HBa.out HBa.out.size hb)
  have NBgi := Aside0.mk (blk_below Bgi.out hb)
  clear hb HBa hI0 hI1 Bgi
  have HBa := HBn
  have Bgi := NBgi
  clear HBn NBgi
  obtain ⟨b0, h0⟩ : ∃ b, b = (okI x) := ⟨_, rfl⟩
  rw [← h0]
  have H0 := Aside0.mk h0
  clear h0
  cases b0 with
  | false =>
    go_wp2_with fail
    go_ret
    exact ⟨by rw [← H0.out]; rfl, HBa.out⟩
  | true =>
    have hI0 : w10.cell? ⟨gi, 0, none⟩ = some (.slice Ap x.f0.length cp) := (blk_cell Bgi.out 0).trans rfl
    have hI1 : w10.cell? ⟨gi, 1, none⟩ = some (.int .i64 x.f1) := (blk_cell Bgi.out 1).trans rfl
    go_wp2_with fail
    refine (sscore_c A1 c1 l w10 (Kd.C_below HR1.out HBa.out) hc1 hl).mono ?_
    rintro e w11 ⟨rfl, hb⟩
    have HBn := Aside0.mk (below_on HBa.out HBa.out.size hb)
    have NBgi := Aside0.mk (blk_below Bgi.out hb)
    clear hb HBa hI0 hI1 Bgi
    have HBa := HBn
    have Bgi := NBgi
    clear HBn NBgi
    obtain ⟨b1, h1⟩ : ∃ b, b = (score l) := ⟨_, rfl⟩
    rw [← h1]
    have H1 := Aside0.mk h1
    clear h1
    cases b1 with
    | false =>
      go_wp2_with fail
      go_ret
      exact ⟨by rw [← H0.out, ← H1.out]; rfl, HBa.out⟩
    | true =>
      go_wp2_with fail
      go_ret
      exact ⟨by rw [← H0.out, ← H1.out]; rfl, HBa.out⟩
set_option maxHeartbeats 8000000 in
set_option maxRecDepth 100000 in
theorem vfasked_c (hp : Kd.C (Kd.int .i64) w Ap x.f0.length x.f0) (hcp : x.f0.length ≤ cp) (hr1 : Kd.C k58 w A1 l.length l) (hc1 : l.length ≤ c1) (hl : l.length ≤ 1048576) (hr2 : Kd.C k80 w A2 sh.length sh) (hc2 : sh.length ≤ c2) (hs : sh.length ≤ 1048576) :
    Calls Try.prog 71 #[.agg #[.slice Ap x.f0.length cp, .int .i64 x.f1], .slice A1 l.length c1, .slice A2 sh.length c2] w fun e w' => e = .returned (.bool ((okI x && score l) && (sheet sh))) ∧ Below w.heap.size w w' := by
  have HP := Aside0.mk hp
  clear hp
  have HR1 := Aside0.mk hr1
  clear hr1
  have HR2 := Aside0.mk hr2
  clear hr2
  have hu40 := Try.underlying40
  have hu37 := Try.underlying37
  go_enter Try.func71, Try.ntmps71
  go_upto_region 1 with (first | ((with_reducible refine gate_dst (N := 3) rfl ?_); refine box_event ?hg (N := 3) ?hd (cs := #[.slice Ap x.f0.length cp, .int .i64 x.f1]) (t := 40) ?hr ?_; (case hd => rfl); (case hg => rfl); (case hr => first | (go_simp; done) | (go_simp; rfl)); intro gi hg wb0 hbox hb; have Bgi := Aside0.mk hbox; have HBa := Aside0.mk hb; clear hg hbox hb))
  have hI0 : wb0.cell? ⟨gi, 0, none⟩ = some (.slice Ap x.f0.length cp) := (blk_cell Bgi.out 0).trans rfl
  have hI1 : wb0.cell? ⟨gi, 1, none⟩ = some (.int .i64 x.f1) := (blk_cell Bgi.out 1).trans rfl
  go_wp2_with fail
  refine (inasked_c Ap cp x A1 c1 l wb0 (Kd.C_below HP.out HBa.out) hcp (Kd.C_below HR1.out HBa.out) hc1 hl).mono ?_
  rintro e w10 ⟨rfl, hb⟩
  have HBn := Aside0.mk (below_on HBa.out HBa.out.size hb)
  have NBgi := Aside0.mk (blk_below Bgi.out hb)
  clear hb HBa hI0 hI1 Bgi
  have HBa := HBn
  have Bgi := NBgi
  clear HBn NBgi
  obtain ⟨b0, h0⟩ : ∃ b, b = (okI x && score l) := ⟨_, rfl⟩
  rw [← h0]
  have H0 := Aside0.mk h0
  clear h0
  cases b0 with
  | false =>
    go_wp2_with fail
    go_ret
    exact ⟨by rw [← H0.out]; rfl, HBa.out⟩
  | true =>
    have hI0 : w10.cell? ⟨gi, 0, none⟩ = some (.slice Ap x.f0.length cp) := (blk_cell Bgi.out 0).trans rfl
    have hI1 : w10.cell? ⟨gi, 1, none⟩ = some (.int .i64 x.f1) := (blk_cell Bgi.out 1).trans rfl
    go_wp2_with fail
    refine (ssheet_c A2 c2 sh w10 (Kd.C_below HR2.out HBa.out) hc2 hs).mono ?_
    rintro e w11 ⟨rfl, hb⟩
    have HBn := Aside0.mk (below_on HBa.out HBa.out.size hb)
    have NBgi := Aside0.mk (blk_below Bgi.out hb)
    clear hb HBa hI0 hI1 Bgi
    have HBa := HBn
    have Bgi := NBgi
    clear HBn NBgi
    obtain ⟨b1, h1⟩ : ∃ b, b = (sheet sh) := ⟨_, rfl⟩
    rw [← h1]
    have H1 := Aside0.mk h1
    clear h1
    cases b1 with
    | false =>
      go_wp2_with fail
      go_ret
      exact ⟨by rw [← H0.out, ← H1.out]; rfl, HBa.out⟩
    | true =>
      go_wp2_with fail
      go_ret
      exact ⟨by rw [← H0.out, ← H1.out]; rfl, HBa.out⟩
set_option maxHeartbeats 8000000 in
set_option maxRecDepth 100000 in
theorem vfall_c (hp : Kd.C (Kd.int .i64) w Ap x.f0.length x.f0) (hcp : x.f0.length ≤ cp) (hr1 : Kd.C k58 w A1 l.length l) (hc1 : l.length ≤ c1) (hl : l.length ≤ 1048576) (hr2 : Kd.C k80 w A2 sh.length sh) (hc2 : sh.length ≤ c2) (hs : sh.length ≤ 1048576) :
    Calls Try.prog 43 #[.agg #[.slice Ap x.f0.length cp, .int .i64 x.f1], .slice A1 l.length c1, .slice A2 sh.length c2, .agg #[.int .i64 a0, .int .i64 a1, .int .i64 a2], .int .i64 m] w fun e w' => e = .returned (.bool (((okI x && score l) && sheet sh) && ((okA a0 a1 a2) && (okT m)))) ∧ Below w.heap.size w w' := by
  have HP := Aside0.mk hp
  clear hp
  have HR1 := Aside0.mk hr1
  clear hr1
  have HR2 := Aside0.mk hr2
  clear hr2
  have hu40 := Try.underlying40
  have hu37 := Try.underlying37
  go_enter Try.func43, Try.ntmps43
  go_upto_region 1 with (first | ((with_reducible refine gate_dst (N := 5) rfl ?_); refine box_event ?hg (N := 5) ?hd (cs := #[.slice Ap x.f0.length cp, .int .i64 x.f1]) (t := 40) ?hr ?_; (case hd => rfl); (case hg => rfl); (case hr => first | (go_simp; done) | (go_simp; rfl)); intro gi hg wb0 hbox hb; have Bgi := Aside0.mk hbox; have HBa := Aside0.mk hb; clear hg hbox hb) | ((with_reducible refine gate_dst (N := 8) rfl ?_); refine box_event ?hg (N := 8) ?hd (cs := #[.int .i64 a0, .int .i64 a1, .int .i64 a2]) (t := 37) ?hr ?_; (case hd => rfl); (case hg => rfl); (case hr => first | (go_simp; done) | (go_simp; rfl)); intro ga hg wb1 hbox hb; have Bgi' := Aside0.mk (blk_below Bgi.out hb); clear Bgi; have Bgi := Bgi'; clear Bgi'; have Bga := Aside0.mk hbox; have HBb := Aside0.mk (below_on HBa.out HBa.out.size hb); clear HBa; have HBa := HBb; clear HBb; clear hg hbox hb))
  have hI0 : wb1.cell? ⟨gi, 0, none⟩ = some (.slice Ap x.f0.length cp) := (blk_cell Bgi.out 0).trans rfl
  have hI1 : wb1.cell? ⟨gi, 1, none⟩ = some (.int .i64 x.f1) := (blk_cell Bgi.out 1).trans rfl
  have hA0 : wb1.cell? ⟨ga, 0, none⟩ = some (.int .i64 a0) := (blk_cell Bga.out 0).trans rfl
  have hA1 : wb1.cell? ⟨ga, 1, none⟩ = some (.int .i64 a1) := (blk_cell Bga.out 1).trans rfl
  have hA2 : wb1.cell? ⟨ga, 2, none⟩ = some (.int .i64 a2) := (blk_cell Bga.out 2).trans rfl
  go_wp2_with fail
  refine (vfasked_c Ap cp x A1 c1 l A2 c2 sh wb1 (Kd.C_below HP.out HBa.out) hcp (Kd.C_below HR1.out HBa.out) hc1 hl (Kd.C_below HR2.out HBa.out) hc2 hs).mono ?_
  rintro e w10 ⟨rfl, hb⟩
  have HBn := Aside0.mk (below_on HBa.out HBa.out.size hb)
  have NBgi := Aside0.mk (blk_below Bgi.out hb)
  have NBga := Aside0.mk (blk_below Bga.out hb)
  clear hb HBa hI0 hI1 hA0 hA1 hA2 Bgi Bga
  have HBa := HBn
  have Bgi := NBgi
  have Bga := NBga
  clear HBn NBgi NBga
  obtain ⟨b0, h0⟩ : ∃ b, b = ((okI x && score l) && sheet sh) := ⟨_, rfl⟩
  rw [← h0]
  have H0 := Aside0.mk h0
  clear h0
  cases b0 with
  | false =>
    go_wp2_with fail
    go_ret
    exact ⟨by rw [← H0.out]; rfl, HBa.out⟩
  | true =>
    have hI0 : w10.cell? ⟨gi, 0, none⟩ = some (.slice Ap x.f0.length cp) := (blk_cell Bgi.out 0).trans rfl
    have hI1 : w10.cell? ⟨gi, 1, none⟩ = some (.int .i64 x.f1) := (blk_cell Bgi.out 1).trans rfl
    have hA0 : w10.cell? ⟨ga, 0, none⟩ = some (.int .i64 a0) := (blk_cell Bga.out 0).trans rfl
    have hA1 : w10.cell? ⟨ga, 1, none⟩ = some (.int .i64 a1) := (blk_cell Bga.out 1).trans rfl
    have hA2 : w10.cell? ⟨ga, 2, none⟩ = some (.int .i64 a2) := (blk_cell Bga.out 2).trans rfl
    go_wp2_with fail
    refine (sact_c a0 a1 a2 w10).mono ?_
    rintro e w11 ⟨rfl, hb⟩
    have HBn := Aside0.mk (below_on HBa.out HBa.out.size hb)
    have NBgi := Aside0.mk (blk_below Bgi.out hb)
    have NBga := Aside0.mk (blk_below Bga.out hb)
    clear hb HBa hI0 hI1 hA0 hA1 hA2 Bgi Bga
    have HBa := HBn
    have Bgi := NBgi
    have Bga := NBga
    clear HBn NBgi NBga
    obtain ⟨b1, h1⟩ : ∃ b, b = (okA a0 a1 a2) := ⟨_, rfl⟩
    rw [← h1]
    have H1 := Aside0.mk h1
    clear h1
    cases b1 with
    | false =>
      go_wp2_with fail
      go_ret
      exact ⟨by rw [← H0.out, ← H1.out]; rfl, HBa.out⟩
    | true =>
      have hI0 : w11.cell? ⟨gi, 0, none⟩ = some (.slice Ap x.f0.length cp) := (blk_cell Bgi.out 0).trans rfl
      have hI1 : w11.cell? ⟨gi, 1, none⟩ = some (.int .i64 x.f1) := (blk_cell Bgi.out 1).trans rfl
      have hA0 : w11.cell? ⟨ga, 0, none⟩ = some (.int .i64 a0) := (blk_cell Bga.out 0).trans rfl
      have hA1 : w11.cell? ⟨ga, 1, none⟩ = some (.int .i64 a1) := (blk_cell Bga.out 1).trans rfl
      have hA2 : w11.cell? ⟨ga, 2, none⟩ = some (.int .i64 a2) := (blk_cell Bga.out 2).trans rfl
      go_wp2_with fail
      refine (stol_c m w11).mono ?_
      rintro e w12 ⟨rfl, hb⟩
      have HBn := Aside0.mk (below_on HBa.out HBa.out.size hb)
      have NBgi := Aside0.mk (blk_below Bgi.out hb)
      have NBga := Aside0.mk (blk_below Bga.out hb)
      clear hb HBa hI0 hI1 hA0 hA1 hA2 Bgi Bga
      have HBa := HBn
      have Bgi := NBgi
      have Bga := NBga
      clear HBn NBgi NBga
      obtain ⟨b2, h2⟩ : ∃ b, b = (okT m) := ⟨_, rfl⟩
      rw [← h2]
      have H2 := Aside0.mk h2
      clear h2
      cases b2 with
      | false =>
        go_wp2_with fail
        go_ret
        exact ⟨by rw [← H0.out, ← H1.out, ← H2.out]; rfl, HBa.out⟩
      | true =>
        go_wp2_with fail
        go_ret
        exact ⟨by rw [← H0.out, ← H1.out, ← H2.out]; rfl, HBa.out⟩
set_option maxHeartbeats 8000000 in
set_option maxRecDepth 100000 in
theorem canmatch_c (hp : Kd.C (Kd.int .i64) w Ap x.f0.length x.f0) (hcp : x.f0.length ≤ cp) (hr1 : Kd.C k58 w A1 l.length l) (hc1 : l.length ≤ c1) (hl : l.length ≤ 1048576) (hr2 : Kd.C k80 w A2 sh.length sh) (hc2 : sh.length ≤ c2) (hs : sh.length ≤ 1048576) :
    Calls Try.prog 78 #[.agg #[.slice Ap x.f0.length cp, .int .i64 x.f1], .slice A1 l.length c1, .slice A2 sh.length c2] w fun e w' => e = .returned (.bool ((okI x) && ((score l) && (sheet sh)))) ∧ Below w.heap.size w w' := by
  have HP := Aside0.mk hp
  clear hp
  have HR1 := Aside0.mk hr1
  clear hr1
  have HR2 := Aside0.mk hr2
  clear hr2
  have hu40 := Try.underlying40
  have hu37 := Try.underlying37
  go_enter Try.func78, Try.ntmps78
  go_upto_region 1 with (first | ((with_reducible refine gate_dst (N := 3) rfl ?_); refine box_event ?hg (N := 3) ?hd (cs := #[.slice Ap x.f0.length cp, .int .i64 x.f1]) (t := 40) ?hr ?_; (case hd => rfl); (case hg => rfl); (case hr => first | (go_simp; done) | (go_simp; rfl)); intro gi hg wb0 hbox hb; have Bgi := Aside0.mk hbox; have HBa := Aside0.mk hb; clear hg hbox hb))
  have hI0 : wb0.cell? ⟨gi, 0, none⟩ = some (.slice Ap x.f0.length cp) := (blk_cell Bgi.out 0).trans rfl
  have hI1 : wb0.cell? ⟨gi, 1, none⟩ = some (.int .i64 x.f1) := (blk_cell Bgi.out 1).trans rfl
  go_wp2_with fail
  refine (iinst_c Ap cp x wb0 (Kd.C_below HP.out HBa.out) hcp).mono ?_
  rintro e w10 ⟨rfl, hb⟩
  have HBn := Aside0.mk (below_on HBa.out HBa.out.size hb)
  have NBgi := Aside0.mk (blk_below Bgi.out hb)
  clear hb HBa hI0 hI1 Bgi
  have HBa := HBn
  have Bgi := NBgi
  clear HBn NBgi
  obtain ⟨b0, h0⟩ : ∃ b, b = (okI x) := ⟨_, rfl⟩
  rw [← h0]
  have H0 := Aside0.mk h0
  clear h0
  cases b0 with
  | false =>
    go_wp2_with fail
    go_ret
    exact ⟨by rw [← H0.out]; rfl, HBa.out⟩
  | true =>
    have hI0 : w10.cell? ⟨gi, 0, none⟩ = some (.slice Ap x.f0.length cp) := (blk_cell Bgi.out 0).trans rfl
    have hI1 : w10.cell? ⟨gi, 1, none⟩ = some (.int .i64 x.f1) := (blk_cell Bgi.out 1).trans rfl
    go_wp2_with fail
    refine (iscore_c A1 c1 l w10 (Kd.C_below HR1.out HBa.out) hc1 hl).mono ?_
    rintro e w11 ⟨rfl, hb⟩
    have HBn := Aside0.mk (below_on HBa.out HBa.out.size hb)
    have NBgi := Aside0.mk (blk_below Bgi.out hb)
    clear hb HBa hI0 hI1 Bgi
    have HBa := HBn
    have Bgi := NBgi
    clear HBn NBgi
    obtain ⟨b1, h1⟩ : ∃ b, b = (score l) := ⟨_, rfl⟩
    rw [← h1]
    have H1 := Aside0.mk h1
    clear h1
    cases b1 with
    | false =>
      go_wp2_with fail
      go_ret
      exact ⟨by rw [← H0.out, ← H1.out]; rfl, HBa.out⟩
    | true =>
      have hI0 : w11.cell? ⟨gi, 0, none⟩ = some (.slice Ap x.f0.length cp) := (blk_cell Bgi.out 0).trans rfl
      have hI1 : w11.cell? ⟨gi, 1, none⟩ = some (.int .i64 x.f1) := (blk_cell Bgi.out 1).trans rfl
      go_wp2_with fail
      refine (isheet_c A2 c2 sh w11 (Kd.C_below HR2.out HBa.out) hc2 hs).mono ?_
      rintro e w12 ⟨rfl, hb⟩
      have HBn := Aside0.mk (below_on HBa.out HBa.out.size hb)
      have NBgi := Aside0.mk (blk_below Bgi.out hb)
      clear hb HBa hI0 hI1 Bgi
      have HBa := HBn
      have Bgi := NBgi
      clear HBn NBgi
      obtain ⟨b2, h2⟩ : ∃ b, b = (sheet sh) := ⟨_, rfl⟩
      rw [← h2]
      have H2 := Aside0.mk h2
      clear h2
      cases b2 with
      | false =>
        go_wp2_with fail
        go_ret
        exact ⟨by rw [← H0.out, ← H1.out, ← H2.out]; rfl, HBa.out⟩
      | true =>
        go_wp2_with fail
        go_ret
        exact ⟨by rw [← H0.out, ← H1.out, ← H2.out]; rfl, HBa.out⟩
/-- All that is asked for a verdict is valid. -/
def verdict (x : S40) (l : List S58) (sh : List S80) (a0 a1 a2 m : Int) : Bool := (okI x && (score l && sheet sh)) && (okA a0 a1 a2 && okT m)
set_option maxHeartbeats 8000000 in
set_option maxRecDepth 100000 in
theorem faultsof_c (hp : Kd.C (Kd.int .i64) w Ap x.f0.length x.f0) (hcp : x.f0.length ≤ cp) (hr1 : Kd.C k58 w A1 l.length l) (hc1 : l.length ≤ c1) (hl : l.length ≤ 1048576) (hr2 : Kd.C k80 w A2 sh.length sh) (hc2 : sh.length ≤ c2) (hs : sh.length ≤ 1048576) :
    Calls Try.prog 45 #[.agg #[.slice Ap x.f0.length cp, .int .i64 x.f1], .slice A1 l.length c1, .slice A2 sh.length c2, .agg #[.int .i64 a0, .int .i64 a1, .int .i64 a2], .int .i64 m] w fun e w' => ∃ A n c b, e = .returned (.tuple #[.slice A n c, .bool b]) ∧ b = verdict x l sh a0 a1 a2 m ∧ (b = true → n = (faultRows m x l sh a0 a1 a2).length) ∧ Below w.heap.size w w' := by
  have HP := Aside0.mk hp
  clear hp
  have HR1 := Aside0.mk hr1
  clear hr1
  have HR2 := Aside0.mk hr2
  clear hr2
  have hu40 := Try.underlying40
  have hu37 := Try.underlying37
  go_enter Try.func45, Try.ntmps45
  go_upto_region 1 with (first | ((with_reducible refine gate_dst (N := 5) rfl ?_); refine box_event ?hg (N := 5) ?hd (cs := #[.slice Ap x.f0.length cp, .int .i64 x.f1]) (t := 40) ?hr ?_; (case hd => rfl); (case hg => rfl); (case hr => first | (go_simp; done) | (go_simp; rfl)); intro gi hg wb0 hbox hb; have Bgi := Aside0.mk hbox; have HBa := Aside0.mk hb; clear hg hbox hb) | ((with_reducible refine gate_dst (N := 8) rfl ?_); refine box_event ?hg (N := 8) ?hd (cs := #[.int .i64 a0, .int .i64 a1, .int .i64 a2]) (t := 37) ?hr ?_; (case hd => rfl); (case hg => rfl); (case hr => first | (go_simp; done) | (go_simp; rfl)); intro ga hg wb1 hbox hb; have Bgi' := Aside0.mk (blk_below Bgi.out hb); clear Bgi; have Bgi := Bgi'; clear Bgi'; have Bga := Aside0.mk hbox; have HBb := Aside0.mk (below_on HBa.out HBa.out.size hb); clear HBa; have HBa := HBb; clear HBb; clear hg hbox hb))
  have hI0 : wb1.cell? ⟨gi, 0, none⟩ = some (.slice Ap x.f0.length cp) := (blk_cell Bgi.out 0).trans rfl
  have hI1 : wb1.cell? ⟨gi, 1, none⟩ = some (.int .i64 x.f1) := (blk_cell Bgi.out 1).trans rfl
  have hA0 : wb1.cell? ⟨ga, 0, none⟩ = some (.int .i64 a0) := (blk_cell Bga.out 0).trans rfl
  have hA1 : wb1.cell? ⟨ga, 1, none⟩ = some (.int .i64 a1) := (blk_cell Bga.out 1).trans rfl
  have hA2 : wb1.cell? ⟨ga, 2, none⟩ = some (.int .i64 a2) := (blk_cell Bga.out 2).trans rfl
  go_wp2_with fail
  refine (canmatch_c Ap cp x A1 c1 l A2 c2 sh wb1 (Kd.C_below HP.out HBa.out) hcp (Kd.C_below HR1.out HBa.out) hc1 hl (Kd.C_below HR2.out HBa.out) hc2 hs).mono ?_
  rintro e w10 ⟨rfl, hb⟩
  have HBn := Aside0.mk (below_on HBa.out HBa.out.size hb)
  have NBgi := Aside0.mk (blk_below Bgi.out hb)
  have NBga := Aside0.mk (blk_below Bga.out hb)
  clear hb HBa hI0 hI1 hA0 hA1 hA2 Bgi Bga
  have HBa := HBn
  have Bgi := NBgi
  have Bga := NBga
  clear HBn NBgi NBga
  obtain ⟨b0, h0⟩ : ∃ b, b = (okI x && (score l && sheet sh)) := ⟨_, rfl⟩
  rw [← h0]
  have H0 := Aside0.mk h0
  clear h0
  cases b0 with
  | false =>
    go_wp2_with fail
    go_ret2
    exact ⟨none, 0, 0, false, rfl, by unfold verdict; rw [← H0.out]; rfl, fun h => by simp at h, HBa.out⟩
  | true =>
    have hI0 : w10.cell? ⟨gi, 0, none⟩ = some (.slice Ap x.f0.length cp) := (blk_cell Bgi.out 0).trans rfl
    have hI1 : w10.cell? ⟨gi, 1, none⟩ = some (.int .i64 x.f1) := (blk_cell Bgi.out 1).trans rfl
    have hA0 : w10.cell? ⟨ga, 0, none⟩ = some (.int .i64 a0) := (blk_cell Bga.out 0).trans rfl
    have hA1 : w10.cell? ⟨ga, 1, none⟩ = some (.int .i64 a1) := (blk_cell Bga.out 1).trans rfl
    have hA2 : w10.cell? ⟨ga, 2, none⟩ = some (.int .i64 a2) := (blk_cell Bga.out 2).trans rfl
    go_wp2_with fail
    refine (iact_c a0 a1 a2 w10).mono ?_
    rintro e w11 ⟨rfl, hb⟩
    have HBn := Aside0.mk (below_on HBa.out HBa.out.size hb)
    have NBgi := Aside0.mk (blk_below Bgi.out hb)
    have NBga := Aside0.mk (blk_below Bga.out hb)
    clear hb HBa hI0 hI1 hA0 hA1 hA2 Bgi Bga
    have HBa := HBn
    have Bgi := NBgi
    have Bga := NBga
    clear HBn NBgi NBga
    obtain ⟨b1, h1⟩ : ∃ b, b = (okA a0 a1 a2) := ⟨_, rfl⟩
    rw [← h1]
    have H1 := Aside0.mk h1
    clear h1
    cases b1 with
    | false =>
      go_wp2_with fail
      go_ret2
      exact ⟨none, 0, 0, false, rfl, by unfold verdict; rw [← H0.out, ← H1.out]; rfl, fun h => by simp at h, HBa.out⟩
    | true =>
      have hI0 : w11.cell? ⟨gi, 0, none⟩ = some (.slice Ap x.f0.length cp) := (blk_cell Bgi.out 0).trans rfl
      have hI1 : w11.cell? ⟨gi, 1, none⟩ = some (.int .i64 x.f1) := (blk_cell Bgi.out 1).trans rfl
      have hA0 : w11.cell? ⟨ga, 0, none⟩ = some (.int .i64 a0) := (blk_cell Bga.out 0).trans rfl
      have hA1 : w11.cell? ⟨ga, 1, none⟩ = some (.int .i64 a1) := (blk_cell Bga.out 1).trans rfl
      have hA2 : w11.cell? ⟨ga, 2, none⟩ = some (.int .i64 a2) := (blk_cell Bga.out 2).trans rfl
      go_wp2_with fail
      refine (itol_c m w11).mono ?_
      rintro e w12 ⟨rfl, hb⟩
      have HBn := Aside0.mk (below_on HBa.out HBa.out.size hb)
      have NBgi := Aside0.mk (blk_below Bgi.out hb)
      have NBga := Aside0.mk (blk_below Bga.out hb)
      clear hb HBa hI0 hI1 hA0 hA1 hA2 Bgi Bga
      have HBa := HBn
      have Bgi := NBgi
      have Bga := NBga
      clear HBn NBgi NBga
      obtain ⟨b2, h2⟩ : ∃ b, b = (okT m) := ⟨_, rfl⟩
      rw [← h2]
      have H2 := Aside0.mk h2
      clear h2
      cases b2 with
      | false =>
        go_wp2_with fail
        go_ret2
        exact ⟨none, 0, 0, false, rfl, by unfold verdict; rw [← H0.out, ← H1.out, ← H2.out]; rfl, fun h => by simp at h, HBa.out⟩
      | true =>
        have hI0 : w12.cell? ⟨gi, 0, none⟩ = some (.slice Ap x.f0.length cp) := (blk_cell Bgi.out 0).trans rfl
        have hI1 : w12.cell? ⟨gi, 1, none⟩ = some (.int .i64 x.f1) := (blk_cell Bgi.out 1).trans rfl
        have hA0 : w12.cell? ⟨ga, 0, none⟩ = some (.int .i64 a0) := (blk_cell Bga.out 0).trans rfl
        have hA1 : w12.cell? ⟨ga, 1, none⟩ = some (.int .i64 a1) := (blk_cell Bga.out 1).trans rfl
        have hA2 : w12.cell? ⟨ga, 2, none⟩ = some (.int .i64 a2) := (blk_cell Bga.out 2).trans rfl
        have hall := H0.out
        simp only [eq_comm (a := true), Bool.and_eq_true] at hall
        have hI := okI_bd hall.1
        have hL := score_all hall.2.1
        have hS := sheet_all hall.2.2
        have hA := okA_bd H1.out.symm
        have HV := Aside0.mk (show true = verdict x l sh a0 a1 a2 m by unfold verdict; rw [← H0.out, ← H1.out, ← H2.out]; rfl)
        have HLA := Aside0.mk (And.intro hI (And.intro hL (And.intro hS hA)))
        clear hall hI hL hS hA
        go_wp2_with fail
        refine (faults_c Ap cp x A1 c1 l A2 c2 sh a0 a1 a2 m w12 (Kd.C_below HP.out HBa.out) hcp (Kd.C_below HR1.out HBa.out) hc1 (Kd.C_below HR2.out HBa.out) hc2 HLA.out.1.1 HLA.out.1.2 (by have := HLA.out.2.1.1; omega) HLA.out.2.1.2 (by have := HLA.out.2.2.1.1; omega) HLA.out.2.2.1.2 HLA.out.2.2.2.1 HLA.out.2.2.2.2).mono ?_
        rintro e w20 ⟨A, c, rfl, hb⟩
        have HB9 := Aside0.mk (below_on HBa.out HBa.out.size hb)
        clear hb hI0 hI1 hA0 hA1 hA2
        go_wp2_with fail
        go_ret2
        exact ⟨A, _, c, true, rfl, HV.out, fun _ => rfl, HB9.out⟩
end
end Go.Proofs.Ythhlmjcfhfkmdaa.Cx
