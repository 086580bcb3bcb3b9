/- The walk of the law of PlanText, in closed words. -/
import Derived.Test.YtgajkcooefifdaaDoorPlanI
namespace Go.Proofs.YtgajkcooefifdaaDoor.Plan
open Go.RowKit Go.Proofs.YtgajkcooefifdaaDoorW.PrintWords Go.Proofs.YtgajkcooefifdaaDoorW.PrintLast Go.Proofs.YtgajkcooefifdaaDoorW.PrintMore
open Go.Proofs.YtgajkcooefifdaaDoor.PFnExactPlanText
set_option linter.unusedVariables false
set_option linter.unusedSimpArgs false

def jobOf (x : S45) : S43 := ⟨x.f0, x.f1, x.f2⟩
theorem to_jobs (l : List S45) (hl : l.length ≤ 1048576) : Ev (fun k => laws_toJobS.f k l) (l.map jobOf) := by
  have key : ∀ (suf pre : List S45) (r : List S43), l = pre ++ suf → r = pre.map jobOf ++ List.replicate suf.length z43 → Ev (fun k => laws_toJobS.l0 k l r (pre.length : Int)) (l.map jobOf) := by
    intro suf
    induction suf with
    | nil =>
      intro pre r he hr
      refine Ev.step (f := fun _ => some r) (fun k => ?_) ?_
      · simp only [laws_toJobS.l0]; rw [if_neg (by rw [he]; simp)]
      · have : l.map jobOf = r := by rw [hr, he]; simp
        rw [this]; exact Ev.now _
    | cons x suf ih =>
      intro pre r he hr
      have hlen : l.length = pre.length + suf.length + 1 := by rw [he]; simp; omega
      have hx : rd_T45 l (pre.length : Int) = x := by rw [he]; exact rd45_at pre suf x
      have hw : wrap64 ((pre.length : Int) + 1) = ((pre ++ [x]).length : Int) := by
        rw [w64 (by omega) (by omega)]; simp
      have hrl : r.length = pre.length + suf.length + 1 := by rw [hr]; simp; omega
      refine Ev.step (fun k => ?_) (ih (pre ++ [x]) (r.set pre.length (jobOf x)) (by rw [he]; simp) ?_)
      · simp only [laws_toJobS.l0, laws_toJob.f, hx]
        rw [if_pos (by omega), if_pos (by omega)]
        simp only [Option.bind_some]
        rw [if_pos (by omega), hw]; rfl
      · rw [hr]; simp [List.replicate_succ]
  refine Ev.congr (f := fun k => laws_toJobS.l0 k l (List.replicate l.length z43) (([] : List S45).length : Int)) (fun k => ?_) (key l [] _ rfl (by simp))
  unfold laws_toJobS.f
  rw [if_pos (by omega), if_pos (by simp; omega)]; rfl
theorem to_ints (l : List Int) (hl : l.length ≤ 1048576) : Ev (fun k => laws_toIntS.f k l) l := by
  have key : ∀ (suf pre r : List Int), l = pre ++ suf → r = pre ++ List.replicate suf.length 0 → Ev (fun k => laws_toIntS.l0 k l r (pre.length : Int)) l := by
    intro suf
    induction suf with
    | nil =>
      intro pre r he hr
      refine Ev.step (f := fun _ => some r) (fun k => ?_) ?_
      · simp only [laws_toIntS.l0]; rw [if_neg (by rw [he]; simp)]
      · have : l = r := by rw [hr, he]; simp
        rw [← this]; exact Ev.now _
    | cons x suf ih =>
      intro pre r he hr
      have hlen : l.length = pre.length + suf.length + 1 := by rw [he]; simp; omega
      have hx : rd l (pre.length : Int) = x := by rw [he]; exact rd_at pre suf x
      have hw : wrap64 ((pre.length : Int) + 1) = ((pre ++ [x]).length : Int) := by
        rw [w64 (by omega) (by omega)]; simp
      have hrl : r.length = pre.length + suf.length + 1 := by rw [hr]; simp; omega
      refine Ev.step (fun k => ?_) (ih (pre ++ [x]) (r.set pre.length x) (by rw [he]; simp) ?_)
      · simp only [laws_toIntS.l0, hx]
        rw [if_pos (by omega), if_pos (by omega), if_pos (by omega), hw]; rfl
      · rw [hr]; simp [List.replicate_succ]
  refine Ev.congr (f := fun k => laws_toIntS.l0 k l (List.replicate l.length 0) (([] : List Int).length : Int)) (fun k => ?_) (key l [] _ rfl (by simp))
  unfold laws_toIntS.f
  rw [if_pos (by omega), if_pos (by simp; omega)]; rfl
theorem eq_jobs (l : List S43) (hl : l.length ≤ 1048576) : Ev (fun k => laws_eqJobS.f k l l) true := by
  have key : ∀ (suf pre : List S43), l = pre ++ suf → Ev (fun k => laws_eqJobS.l0 k l l (pre.length : Int)) true := by
    intro suf
    induction suf with
    | nil =>
      intro pre he
      refine Ev.step (f := fun _ => some true) (fun k => ?_) (Ev.now _)
      simp only [laws_eqJobS.l0]; rw [if_neg (by rw [he]; simp)]
    | cons x suf ih =>
      intro pre he
      have hlen : l.length = pre.length + suf.length + 1 := by rw [he]; simp; omega
      have hw : wrap64 ((pre.length : Int) + 1) = ((pre ++ [x]).length : Int) := by
        rw [w64 (by omega) (by omega)]; simp
      refine Ev.step (fun k => ?_) (ih (pre ++ [x]) (by rw [he]; simp))
      simp only [laws_eqJobS.l0, laws_eqJob.f]
      rw [if_pos (by omega), if_pos (by omega), if_pos (by omega), hw]
      simp
  refine Ev.congr (f := fun k => laws_eqJobS.l0 k l l (([] : List S43).length : Int)) (fun k => ?_) (key l [] rfl)
  unfold laws_eqJobS.f; rw [if_pos rfl]; rfl
theorem eq_ints (l : List Int) (hl : l.length ≤ 1048576) : Ev (fun k => laws_eqIntS.f k l l) true := by
  have key : ∀ (suf pre : List Int), l = pre ++ suf → Ev (fun k => laws_eqIntS.l0 k l l (pre.length : Int)) true := by
    intro suf
    induction suf with
    | nil =>
      intro pre he
      refine Ev.step (f := fun _ => some true) (fun k => ?_) (Ev.now _)
      simp only [laws_eqIntS.l0]; rw [if_neg (by rw [he]; simp)]
    | cons x suf ih =>
      intro pre he
      have hlen : l.length = pre.length + suf.length + 1 := by rw [he]; simp; omega
      have hw : wrap64 ((pre.length : Int) + 1) = ((pre ++ [x]).length : Int) := by
        rw [w64 (by omega) (by omega)]; simp
      refine Ev.step (fun k => ?_) (ih (pre ++ [x]) (by rw [he]; simp))
      simp only [laws_eqIntS.l0]
      rw [if_pos (by omega), if_pos (by omega), if_pos (by omega), hw]
      simp
  refine Ev.congr (f := fun k => laws_eqIntS.l0 k l l (([] : List Int).length : Int)) (fun k => ?_) (key l [] rfl)
  unfold laws_eqIntS.f; rw [if_pos rfl]; rfl
theorem tojob_c (A : Option Addr) (c : Nat) (l : List S45) (L : List S43) (hL : L = l.map jobOf) (w : World) (hr : Kd.C k45 w A l.length l) (hc : l.length ≤ c) (hl : l.length ≤ 1048576) :
    Calls Tryd.prog 9 #[.slice A l.length c] w fun e w' => ∃ A' c', e = .returned (.slice A' L.length c') ∧ L.length ≤ c' ∧ Kd.C k43 w' A' L.length L ∧ Below w.heap.size w w' := by
  obtain ⟨k, hk⟩ := (to_jobs l hl).rounds
  refine (laws_toJobS.calls k A c l _ w hr hc hk).mono ?_
  rintro e w' ⟨v, rfl, hR, hb⟩
  subst hL
  obtain ⟨A', c', rfl, h1, h2⟩ := Kd.R_reads hR
  exact ⟨A', c', rfl, h1, h2, hb⟩
theorem toint_c (A : Option Addr) (c : Nat) (l : List Int) (w : World) (hr : Kd.C (Kd.int .i64) w A l.length l) (hc : l.length ≤ c) (hl : l.length ≤ 1048576) :
    Calls Tryd.prog 10 #[.slice A l.length c] w fun e w' => ∃ A' c', e = .returned (.slice A' l.length c') ∧ l.length ≤ c' ∧ Kd.C (Kd.int .i64) w' A' l.length l ∧ Below w.heap.size w w' := by
  obtain ⟨k, hk⟩ := (to_ints l hl).rounds
  refine (laws_toIntS.calls k A c l _ w hr hc hk).mono ?_
  rintro e w' ⟨v, rfl, hR, hb⟩
  obtain ⟨A', c', rfl, h1, h2⟩ := Kd.R_reads hR
  exact ⟨A', c', rfl, h1, h2, hb⟩
theorem eqjob_c (A A' : Option Addr) (c c' : Nat) (l : List S43) (w : World) (hr : Kd.C k43 w A l.length l) (hc : l.length ≤ c) (hr' : Kd.C k43 w A' l.length l) (hc' : l.length ≤ c') (hl : l.length ≤ 1048576) :
    Calls Tryd.prog 12 #[.slice A l.length c, .slice A' l.length c'] w fun e w' => e = .returned (.bool true) ∧ Below w.heap.size w w' := by
  obtain ⟨k, hk⟩ := (eq_jobs l hl).rounds
  exact laws_eqJobS.calls k A c l A' c' l _ w hr hc hr' hc' hk
theorem eqint_c (A A' : Option Addr) (c c' : Nat) (l : List Int) (w : World) (hr : Kd.C (Kd.int .i64) w A l.length l) (hc : l.length ≤ c) (hr' : Kd.C (Kd.int .i64) w A' l.length l) (hc' : l.length ≤ c') (hl : l.length ≤ 1048576) :
    Calls Tryd.prog 13 #[.slice A l.length c, .slice A' l.length c'] w fun e w' => e = .returned (.bool true) ∧ Below w.heap.size w w' := by
  obtain ⟨k, hk⟩ := (eq_ints l hl).rounds
  exact (laws_eqIntS.calls k A c l A' c' l _ w hr hc hr' hc' hk).mono fun e w' ⟨h1, h2⟩ => ⟨h1, drawn_below h2⟩
theorem sz_c (A : Option Addr) (c : Nat) (l : List S45) (w : World) (hr : Kd.C k45 w A l.length l) (hc : l.length ≤ c) (r : Int) (hr2 : r = if l.length ≤ 1048576 then 1048576 - (l.length : Int) else -1) :
    Calls Tryd.prog 7 #[.slice A l.length c, .int .i64 1048576] w fun e w' => e = .returned (.int .i64 r) ∧ Below w.heap.size w w' := by
  have hm := hr.2.1
  refine (laws_szJobS.calls A c l 1048576 r w hr hc ?_).mono fun e w' ⟨h1, h2⟩ => ⟨h1, drawn_below h2⟩
  unfold laws_szJobS.f
  rw [w64 (by omega) (by omega), hr2]
  by_cases h : l.length ≤ 1048576
  · rw [if_neg (by omega), if_pos h]
  · rw [if_pos (by omega), if_neg h]
set_option maxHeartbeats 8000000 in
set_option maxRecDepth 100000 in
theorem law_walk (A0 : Option Addr) (c0 : Nat) (l : List S45) (A1 : Option Addr) (c1 : Nat) (o : List Int) (w : World) (hT : Pow w) (hr0 : Kd.C k45 w A0 l.length l) (hc0 : l.length ≤ c0) (hr1 : Kd.C (Kd.int .i64) w A1 o.length o) (hc1 : o.length ≤ c1) :
    Calls Tryd.prog 4 #[.slice A0 l.length c0, .slice A1 o.length c1] w fun e w' => e = .returned (.bool true) ∧ Below w.heap.size w w' := by
  have HR0 := Aside0.mk hr0
  have HR1 := Aside0.mk hr1
  have HC0 := Aside0.mk hc0
  have HC1 := Aside0.mk hc1
  have HT := Aside0.mk hT
  clear hr0 hr1 hT hc0 hc1
  go_enter Tryd.func4, Tryd.ntmps4
  by_cases ho : o.length ≤ 1048576
  · have HO := Aside0.mk ho
    go_wp2_with fail
    obtain ⟨r, hr⟩ : ∃ r : Int, r = if l.length ≤ 1048576 then 1048576 - (l.length : Int) else -1 := ⟨_, rfl⟩
    refine (sz_c A0 c0 l w HR0.out HC0.out r hr).mono ?_
    rintro e w1 ⟨rfl, hb⟩
    have H1 := Aside0.mk hb
    clear hb
    by_cases hl : l.length ≤ 1048576
    · have hp : 0 ≤ r := by rw [hr, if_pos hl]; omega
      have HL := Aside0.mk hl
      clear hr hl ho
      go_wp2_with fail
      obtain ⟨L, hL⟩ : ∃ L : List S43, L = l.map jobOf := ⟨_, rfl⟩
      have HLL := Aside0.mk (show L.length ≤ 1048576 by rw [hL, List.length_map]; exact HL.out)
      have EL := Aside0.mk hL
      clear hL
      refine (tojob_c A0 c0 l L EL.out _ (Kd.C_below HR0.out H1.out) HC0.out HL.out).mono ?_
      rintro e w2 ⟨A2, c2, rfl, hl2, hC2, hb⟩
      have H2 := Aside0.mk (below_on H1.out H1.out.size hb)
      have D2 := Aside0.mk hl2
      have Q2 := Aside0.mk hC2
      clear hb hl2 hC2
      go_wp2_with fail
      refine (toint_c A1 c1 o _ (Kd.C_below HR1.out H2.out) HC1.out HO.out).mono ?_
      rintro e w3 ⟨A3, c3, rfl, hl3, hC3, hb⟩
      have H3 := Aside0.mk (below_on H2.out H2.out.size hb)
      have D3 := Aside0.mk hl3
      have Q3 := Aside0.mk hC3
      have Q2' := Aside0.mk (Kd.C_below Q2.out hb)
      clear hb hl3 hC3 Q2
      go_wp2_with fail
      refine (splan_c A2 c2 L A3 c3 o _ Q2'.out D2.out Q3.out D3.out HLL.out HO.out).mono ?_
      rintro e w4 ⟨rfl, hb⟩
      have H4 := Aside0.mk (below_on H3.out H3.out.size hb)
      clear hb Q2' Q3 H3
      obtain ⟨pt, hpt⟩ : ∃ pt : ByteArray, pt = planStr L o := ⟨_, rfl⟩
      obtain ⟨pb, hpb⟩ : ∃ pb : Bool, pb = ordOk L o := ⟨_, rfl⟩
      rw [← hpt, ← hpb]
      have EP := Aside0.mk (And.intro hpt hpb)
      clear hpt hpb
      go_wp2_with fail
      refine (tojob_c A0 c0 l L EL.out _ (Kd.C_below HR0.out H4.out) HC0.out HL.out).mono ?_
      rintro e w5 ⟨A5, c5, rfl, hl5, hC5, hb⟩
      have H5 := Aside0.mk (below_on H4.out H4.out.size hb)
      have D5 := Aside0.mk hl5
      have Q5 := Aside0.mk hC5
      clear hb hl5 hC5 H4
      go_wp2_with fail
      refine (toint_c A1 c1 o _ (Kd.C_below HR1.out H5.out) HC1.out HO.out).mono ?_
      rintro e w6 ⟨A6, c6, rfl, hl6, hC6, hb⟩
      have H6 := Aside0.mk (below_on H5.out H5.out.size hb)
      have D6 := Aside0.mk hl6
      have Q6 := Aside0.mk hC6
      have Q5' := Aside0.mk (Kd.C_below Q5.out hb)
      clear hb hl6 hC6 Q5 H5
      go_wp2_with fail
      have hi := iplan_c A5 c5 L A6 c6 o _ (pow_on HT.out H6.out) Q5'.out D5.out Q6.out D6.out HLL.out HO.out
      rw [← EP.out.1, ← EP.out.2] at hi
      refine hi.mono ?_
      clear hi
      rintro e w7 ⟨rfl, hb⟩
      have H7 := Aside0.mk (below_on H6.out H6.out.size hb)
      have Q5 := Aside0.mk (Kd.C_below Q5'.out hb)
      have Q6' := Aside0.mk (Kd.C_below Q6.out hb)
      clear hb Q5' Q6 H6
      go_wp2_with fail
      refine (tojob_c A0 c0 l L EL.out _ (Kd.C_below HR0.out H7.out) HC0.out HL.out).mono ?_
      rintro e w8 ⟨A8, c8, rfl, hl8, hC8, hb⟩
      have H8 := Aside0.mk (below_on H7.out H7.out.size hb)
      have D8 := Aside0.mk hl8
      have Q8 := Aside0.mk hC8
      have Q5' := Aside0.mk (Kd.C_below Q5.out hb)
      have Q6 := Aside0.mk (Kd.C_below Q6'.out hb)
      clear hb hl8 hC8 Q5 Q6' H7
      go_wp2_with fail
      refine (eqjob_c A5 A8 c5 c8 L _ Q5'.out D5.out Q8.out D8.out HLL.out).mono ?_
      rintro e w9 ⟨rfl, hb⟩
      have H9 := Aside0.mk (below_on H8.out H8.out.size hb)
      have Q6' := Aside0.mk (Kd.C_below Q6.out hb)
      clear hb Q5' Q8 Q6 H8
      go_wp2_with fail
      refine (toint_c A1 c1 o _ (Kd.C_below HR1.out H9.out) HC1.out HO.out).mono ?_
      rintro e wa ⟨Aa, ca, rfl, hla, hCa, hb⟩
      have Ha := Aside0.mk (below_on H9.out H9.out.size hb)
      have Da := Aside0.mk hla
      have Qa := Aside0.mk hCa
      have Q6 := Aside0.mk (Kd.C_below Q6'.out hb)
      clear hb hla hCa Q6' H9
      go_wp2_with fail
      refine (eqint_c A6 Aa c6 ca o _ Q6.out D6.out Qa.out Da.out HO.out).mono ?_
      rintro e wb ⟨rfl, hb⟩
      have Hb := Aside0.mk (below_on Ha.out Ha.out.size hb)
      clear hb Q6 Qa Ha
      go_wp2_with fail
      go_ret
      exact ⟨rfl, Hb.out⟩
    · have hp : r < 0 := by rw [hr, if_neg hl]; omega
      clear hr hl
      go_wp2_with fail
      go_ret
      exact ⟨rfl, H1.out⟩
  · go_wp2_with fail
    go_ret
    exact ⟨rfl, Below.refl _ _⟩
end Go.Proofs.YtgajkcooefifdaaDoor.Plan
