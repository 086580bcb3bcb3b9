/- The walk of spec.PlanText, in closed words. -/
import Derived.Test.YtgajkcooefifdaaDoorPlanX
import Derived.Deep.RegionHeld3
namespace Go.Proofs.YtgajkcooefifdaaDoor.Plan
open Go.RowKit Go.Proofs.YtgajkcooefifdaaDoorW.PrintWords Go.Proofs.YtgajkcooefifdaaDoorW.PrintLast Go.Proofs.YtgajkcooefifdaaDoorW.PrintMore
open Go.Proofs.YtgajkcooefifdaaDoor.PFnExactPlanText
set_option linter.unusedVariables false
set_option linter.unusedSimpArgs false

def tail (l : List S43) (f : List Int) (y : Int) : List UInt8 := if rd f y > (rd_T43 l y).f1 then [32, 108, 97, 116, 101] else []
def line (l : List S43) (f : List Int) (y : Int) : List UInt8 := Lib.itoa y ++ [32] ++ Lib.itoa (rd f y) ++ tail l f y ++ [10]
def planBytes (l : List S43) (f o : List Int) : List UInt8 := o.flatMap (line l f)
def planStr (l : List S43) (o : List Int) : ByteArray := if ordOk l o = true then ⟨(planBytes l (fin l o) o).toArray⟩ else ⟨#[]⟩
theorem ordTo_true (l : List S43) : ∀ suf pre : List Int, ordTo l pre suf = true → inside l suf ∧ jobsOk l = true ∧ pre.length + suf.length = l.length
  | [], pre, h => by
    simp [ordTo] at h
    exact ⟨fun y hy => by simp at hy, h.1, by simpa using h.2⟩
  | y :: r, pre, h => by
    simp only [ordTo, Bool.and_eq_true, decide_eq_true_eq] at h
    obtain ⟨h1, h2, h3⟩ := ordTo_true l r (pre ++ [y]) h.2.2
    refine ⟨fun z hz => ?_, h2, by simp at h3 ⊢; omega⟩
    rcases List.mem_cons.1 hz with rfl | hz
    · exact h.1
    · exact h1 z hz
theorem ord_true {l : List S43} {o : List Int} (h : ordOk l o = true) : inside l o ∧ l.all okJob = true ∧ l.length ≤ 12 ∧ o.length = l.length := by
  obtain ⟨h1, h2, h3⟩ := ordTo_true l o [] h
  simp only [jobsOk, Bool.and_eq_true, decide_eq_true_eq] at h2
  exact ⟨h1, h2.1, h2.2, by simpa using h3⟩
theorem fin_len (l : List S43) (o : List Int) : (fin l o).length = l.length := by unfold fin; rw [finTo_len]; simp
theorem fin_bd {l : List S43} {o : List Int} (h : ordOk l o = true) (y : Int) (h0 : 0 ≤ y) (h1 : y < (l.length : Int)) : 0 ≤ rd (fin l o) y ∧ rd (fin l o) y ≤ 1000 := by
  obtain ⟨hi, ha, hl, ho⟩ := ord_true h
  have := finTo_bd l ha o (List.replicate l.length 0) 0 hi (by omega) (fun x hx => by have := (List.mem_replicate.1 hx).2; omega)
  have hy : y.toNat < (fin l o).length := by rw [fin_len]; omega
  have e : rd (fin l o) y = (fin l o)[y.toNat] := by simp [rd, List.getD_eq_getElem?_getD, hy]
  have hm := this _ (List.getElem_mem (l := fin l o) hy)
  rw [e]; omega
theorem late_has {l : List S43} {o : List Int} (y : Int) (h0 : 0 ≤ y) (h1 : y < (l.length : Int)) : (lateFrom l 0 (fin l o)).contains y = decide (rd (fin l o) y > (rd_T43 l y).f1) := by
  obtain ⟨j, rfl⟩ := Int.eq_ofNat_of_zero_le h0
  rw [Bool.eq_iff_iff, List.contains_iff_mem, mem_late, decide_eq_true_iff, fin_len]
  simp [rd]
  omega
theorem line_len {l : List S43} {f : List Int} {y : Int} (h0 : 0 ≤ y) (h1 : y ≤ 1000000) (h2 : 0 ≤ rd f y) (h3 : rd f y ≤ 1000000) : (line l f y).length ≤ 47 := by
  have a := itoa_len y h0 h1
  have b := itoa_len _ h2 h3
  have c : (tail l f y).length ≤ 5 := by unfold tail; split <;> simp
  simp only [line, List.length_append, List.length_cons, List.length_nil]
  omega
theorem flat_len {l : List S43} {f : List Int} (n : Nat) : ∀ o : List Int, (∀ y ∈ o, (line l f y).length ≤ n) → (planBytes l f o).length ≤ n * o.length
  | [], _ => by simp [planBytes]
  | y :: r, h => by
    have h1 := h y (by simp)
    have h2 := flat_len n r (fun z hz => h z (by simp [hz]))
    have e : planBytes l f (y :: r) = line l f y ++ planBytes l f r := rfl
    rw [e, List.length_append, List.length_cons, Nat.mul_succ]; omega
theorem num_c (n : Int) (h0 : 0 ≤ n) (h1 : n ≤ 1048576) (w : World) :
    Calls Tryd.prog 19 #[.int .i64 n] w fun e w' => e = .returned (.string (str n)) ∧ Below w.heap.size w w' := by
  obtain ⟨m, rfl⟩ := Int.eq_ofNat_of_zero_le h0
  obtain ⟨k, hk⟩ := (num_ev m (by omega)).rounds
  refine (spec_l1Num.calls k _ _ w hk).mono ?_
  rintro e w' ⟨rfl, hb⟩
  exact ⟨by rw [str, Lib.itoa_nonneg], hb⟩
theorem sfin_c (A0 : Option Addr) (c0 : Nat) (l : List S43) (A1 : Option Addr) (c1 : Nat) (o : List Int) (w : World) (hr0 : Kd.C k43 w A0 l.length l) (hc0 : l.length ≤ c0) (hr1 : Kd.C (Kd.int .i64) w A1 o.length o) (hc1 : o.length ≤ c1) (h : ordOk l o = true) :
    Calls Tryd.prog 17 #[.slice A0 l.length c0, .slice A1 o.length c1] w fun e w' => ∃ v0_ : Value, e = .returned (v0_) ∧ Kd.R (Kd.int .i64) 3 w' w.heap.size (fun _ => True) v0_ (fin l o) ∧ Below w.heap.size w w' := by
  obtain ⟨hi, ha, hl, ho⟩ := ord_true h
  obtain ⟨k, hk⟩ := (spec_fin l o (by omega) (by omega) hi ha).rounds
  exact spec_pnFinish.calls k A0 c0 l A1 c1 o _ w hr0 hc0 hr1 hc1 hk
theorem slate_c (A0 : Option Addr) (c0 : Nat) (l : List S43) (A1 : Option Addr) (c1 : Nat) (o : List Int) (w : World) (hr0 : Kd.C k43 w A0 l.length l) (hc0 : l.length ≤ c0) (hr1 : Kd.C (Kd.int .i64) w A1 o.length o) (hc1 : o.length ≤ c1) (h : ordOk l o = true) :
    Calls Tryd.prog 18 #[.slice A0 l.length c0, .slice A1 o.length c1] w fun e w' => ∃ v0_ : Value, e = .returned (v0_) ∧ Kd.R (Kd.int .i64) 3 w' w.heap.size (fun _ => True) v0_ (lateFrom l 0 (fin l o)) ∧ Below w.heap.size w w' := by
  obtain ⟨hi, ha, hl, ho⟩ := ord_true h
  obtain ⟨k, hk⟩ := (spec_late l o (by omega) (by omega) hi ha).rounds
  exact spec_pnLate.calls k A0 c0 l A1 c1 o _ w hr0 hc0 hr1 hc1 hk
theorem ifin_c (A0 : Option Addr) (c0 : Nat) (l : List S43) (A1 : Option Addr) (c1 : Nat) (o : List Int) (w : World) (hr0 : Kd.C k43 w A0 l.length l) (hc0 : l.length ≤ c0) (hr1 : Kd.C (Kd.int .i64) w A1 o.length o) (hc1 : o.length ≤ c1) (h : ordOk l o = true) :
    Calls Tryd.prog 23 #[.slice A0 l.length c0, .slice A1 o.length c1] w fun e w' => ∃ v0_ : Value, e = .returned (v0_) ∧ Kd.R (Kd.int .i64) 3 w' w.heap.size (fun _ => True) v0_ (fin l o) ∧ Below w.heap.size w w' := by
  obtain ⟨hi, ha, hl, ho⟩ := ord_true h
  obtain ⟨k, hk⟩ := (impl_fin l o (by omega) (by omega) hi ha).rounds
  exact impl_finishDays.calls k A0 c0 l A1 c1 o _ w hr0 hc0 hr1 hc1 hk
theorem str_size (n : Int) (h0 : 0 ≤ n) (h1 : n ≤ 1000000) : (str n).size ≤ 20 := by
  have := itoa_len n h0 h1
  simpa [str, ByteArray.size] using this
/-- One line more. -/
theorem line_put (l : List S43) (f pre : List Int) (y : Int) (b : ByteArray) (hb : b = (⟨(planBytes l f pre).toArray⟩ : ByteArray) ++ (str y ++ ⟨#[32]⟩ ++ str (rd f y))) (t : ByteArray) (ht : t.data.toList = tail l f y) : b ++ t ++ ⟨#[10]⟩ = ⟨(planBytes l f (pre ++ [y])).toArray⟩ := by
  subst hb
  apply ByteArray.ext
  apply Array.ext'
  simp [planBytes, line, str, ht, ByteArray.data_append]

set_option maxHeartbeats 8000000 in
set_option maxRecDepth 100000 in
theorem splan_c (A0 : Option Addr) (c0 : Nat) (l : List S43) (A1 : Option Addr) (c1 : Nat) (o : List Int) (w : World) (hr0 : Kd.C k43 w A0 l.length l) (hc0 : l.length ≤ c0) (hr1 : Kd.C (Kd.int .i64) w A1 o.length o) (hc1 : o.length ≤ c1) (hl : l.length ≤ 1048576) (ho : o.length ≤ 1048576) :
    Calls Tryd.prog 8 #[.slice A0 l.length c0, .slice A1 o.length c1] w fun e w' => e = .returned (.tuple #[.string (planStr l o), .bool (ordOk l o)]) ∧ Below w.heap.size w w' := by
  have HR0 := Aside0.mk hr0
  have HR1 := Aside0.mk hr1
  clear hr0 hr1
  go_enter Tryd.func8, Tryd.ntmps8
  go_wp2_with fail
  refine (sorder_c A0 c0 l A1 c1 o w HR0.out hc0 HR1.out hc1 hl ho).mono ?_
  rintro e w1 ⟨rfl, hb⟩
  have HB1 := Aside0.mk hb
  clear hb
  cases hj : ordOk l o with
  | false =>
    have HR := Aside0.mk (show planStr l o = ⟨#[]⟩ by simp [planStr, hj])
    have HN := Aside0.mk hj
    clear hj
    go_wp2_with fail
    go_ret2
    exact ⟨by rw [HR.out, HN.out]; rfl, HB1.out⟩
  | true =>
    have HJ := Aside0.mk hj
    have HR := Aside0.mk (show planStr l o = ⟨(planBytes l (fin l o) o).toArray⟩ by simp [planStr, hj])
    clear hj
    go_wp2_with fail
    refine (sfin_c A0 c0 l A1 c1 o w1 (Kd.C_below HR0.out HB1.out) hc0 (Kd.C_below HR1.out HB1.out) hc1 HJ.out).mono ?_
    rintro e w2 ⟨vf, rfl, hf, hb⟩
    have HB2 := Aside0.mk (below_on HB1.out HB1.out.size hb)
    obtain ⟨AF, cF, rfl, hcF, hCF⟩ := Kd.R_reads hf
    clear hf hb
    have HF := Aside0.mk hCF
    clear hCF
    go_wp2_with fail
    refine (slate_c A0 c0 l A1 c1 o w2 (Kd.C_below HR0.out HB2.out) hc0 (Kd.C_below HR1.out HB2.out) hc1 HJ.out).mono ?_
    rintro e w3 ⟨vl, rfl, hf, hb⟩
    have HB3 := Aside0.mk (below_on HB2.out HB2.out.size hb)
    obtain ⟨AL, cL, rfl, hcL, hCL⟩ := Kd.R_reads hf
    have HL := Aside0.mk hCL
    have HF3 := Aside0.mk (Kd.C_below HF.out hb)
    have HcL := Aside0.mk hcL
    clear hf hb hCL HF HB1 HB2 hcL
    have hfl := fin_len l o
    have HLL := Aside0.mk (lateFrom_len l (fin l o) 0)
    have HP := Aside0.mk (ord_true HJ.out)
    have HLH := Aside0.mk (fun y => late_has (l := l) (o := o) y)
    have HFB := Aside0.mk (fun y => fin_bd (l := l) (o := o) HJ.out y)
    generalize hlf : lateFrom l 0 (fin l o) = lf at *
    generalize hfo : fin l o = f at *
    clear hlf hfo
    go_wp2_with fail
    go_loopg [8, 23] o.length (fun gk v8 v23 wr => ∃ pre suf : List Int, Aside0 (o = pre ++ suf) ∧ v8 = .string ⟨(planBytes l f pre).toArray⟩ ∧ v23 = .int .i64 (pre.length : Int) ∧ Aside0 (gk = suf.length) ∧ Aside0 (Below w3.heap.size w3 wr))
    case atStart => exact ⟨[], o, ⟨rfl⟩, rfl, rfl, ⟨rfl⟩, ⟨Below.refl _ _⟩⟩
    case round =>
      obtain ⟨pre, suf, HE, rfl, rfl, HG, HB⟩ := hrel
      cases suf with
      | nil =>
        have hlt : ¬ pre.length < o.length := by have := HE.out; rw [this]; simp
        have hle : pre.length ≤ o.length := by have := HE.out; rw [this]; simp
        have HQ := Aside0.mk (show o = pre by rw [HE.out]; simp)
        go_wp2_with fail
        go_ret2
        exact ⟨by rw [HR.out, HJ.out, HQ.out]; rfl, (below_on HB3.out HB3.out.size HB.out)⟩
      | cons y suf =>
        have hlt : pre.length < o.length := by have := HE.out; rw [this]; simp
        obtain ⟨ad, e, hx⟩ := Kd.at_int HR1.out (pre.length : Int) (by omega) (by omega)
        cases e
        rw [show rd o (pre.length : Int) = y by rw [HE.out]; exact rd_at pre suf y] at hx
        have HBW := Aside0.mk (below_on HB3.out HB3.out.size HB.out)
        replace hx := (HBW.out.cell (World.block_lt_of_cell? w _ hx)).trans hx
        rw [Int.toNat_natCast] at hx
        obtain ⟨hi, ha, hll, hol⟩ := HP.out
        have hy := hi y (by rw [HE.out]; simp)
        have hpl := flat_len (l := l) (f := f) 47 pre (fun z hz => by
          have hz := hi z (by rw [HE.out]; simp [hz])
          have := HFB.out z hz.1 hz.2
          exact line_len hz.1 (by omega) this.1 (by omega))
        have hd := HFB.out y hy.1 hy.2
        obtain ⟨adf, e, hxf⟩ := Kd.at_int HF3.out y hy.1 (by omega)
        cases e
        replace hxf := (HB.out.cell (World.block_lt_of_cell? w3 _ hxf)).trans hxf
        have hs1 := str_size y hy.1 (by omega)
        have hs2 := str_size (rd f y) hd.1 (by omega)
        have hacc : (⟨(planBytes l f pre).toArray⟩ : ByteArray).size ≤ 47 * 1048576 := by
          have : (⟨(planBytes l f pre).toArray⟩ : ByteArray).size = (planBytes l f pre).length := by simp [ByteArray.size]
          omega
        have HPUT := Aside0.mk (line_put l f pre y)
        generalize hacc2 : (⟨(planBytes l f pre).toArray⟩ : ByteArray) = acc at *
        generalize hst1 : str y = s1 at *
        generalize hst2 : str (rd f y) = s2 at *
        have HA2 := Aside0.mk hacc2
        have HS1 := Aside0.mk hst1
        have HS2 := Aside0.mk hst2
        have q1 : ¬ (9223372036854775807 < s1.size + 1) := by omega
        have q2 : ¬ (9223372036854775807 < s1.size + 1 + s2.size) := by omega
        have q3 : ¬ (9223372036854775807 < acc.size + (s1.size + 1 + s2.size)) := by omega
        have hy0 := hy.1
        have hy1 : y < (f.length : Int) := by omega
        have HYL := Aside0.mk hy.2
        have hyl := hy.2
        have HRD := Aside0.mk hd
        have HHL := Aside0.mk hll
        have HSZ := Aside0.mk (And.intro hacc (And.intro hs1 hs2))
        have HFL := Aside0.mk hfl
        clear hacc hs1 hs2 hfl hacc2 hst1 hst2 hpl hi ha hol hy hd hll
        go_wp2_with fail
        have HN1 := Aside0.mk (show ∀ w0 : World, Calls Tryd.prog 19 #[.int .i64 y] w0 fun e w' => e = .returned (.string s1) ∧ Below w0.heap.size w0 w' from fun w0 => by
          have h := num_c y hy0 (by have := HYL.out; omega) w0
          rwa [HS1.out] at h)
        have HN2 := Aside0.mk (show ∀ w0 : World, Calls Tryd.prog 19 #[.int .i64 (rd f y)] w0 fun e w' => e = .returned (.string s2) ∧ Below w0.heap.size w0 w' from fun w0 => by
          have h := num_c (rd f y) HRD.out.1 (by have := HRD.out.2; omega) w0
          rwa [HS2.out] at h)
        have hbw := HB.out
        have HXF := Aside0.mk (show wr.drew.cell? (adf.add y.toNat) = some (.int .i64 (rd f y)) from hxf)
        clear HB
        go_region_held3 (fun w' => w'.cell? (adf.add y.toNat) = some (.int .i64 (rd f y)) ∧ Below w3.heap.size w3 w')
          (first | assumption | (refine ⟨?_, ?_⟩; (first | exact HXF.out | exact (hb.cell (World.block_lt_of_cell? _ _ (by assumption))).trans (by assumption)); (first | exact below_drew1 hbw | exact below_on (by assumption) (Below.size (by assumption)) hb)) | (go_split_ands; refine ⟨?_, ?_⟩; (first | exact HXF.out | exact (hb.cell (World.block_lt_of_cell? _ _ (by assumption))).trans (by assumption)); (first | exact below_drew1 hbw | exact below_on (by assumption) (Below.size (by assumption)) hb)))
          (first | (go_at_call 19; with_reducible refine (HN1.out _).mono ?_; rintro e w' ⟨rfl, hb⟩) | (go_at_call 19; with_reducible refine (HN2.out _).mono ?_; rintro e w' ⟨rfl, hb⟩))
        rename_i hq
        clear hb
        obtain ⟨hxq, hbq⟩ := hq
        clear hxq hbw q1 q2 q3 HXF hx
        have HB := Aside0.mk hbq
        clear hbq
        have HPT := Aside0.mk (HPUT.out _ rfl)
        clear HPUT
        have hsz : (acc ++ (s1 ++ ⟨#[32]⟩ ++ s2)).size ≤ 1099511627776 := by
          have := HSZ.out
          have e : (acc ++ (s1 ++ ⟨#[32]⟩ ++ s2)).size = acc.size + (s1.size + 1 + s2.size) := by simp [ByteArray.size_append]; rfl
          omega
        generalize hbb : acc ++ (s1 ++ ⟨#[32]⟩ ++ s2) = bb at *
        clear hbb
        have HCL := Aside0.mk (Kd.C_below HL.out HB.out)
        have hlf := HLL.out
        have hLb := HHL.out
        have hLf := HFL.out
        have HLA := Aside0.mk (show lf.length ≤ 1048576 by omega)
        clear hlf hLb hLf
        go_wp2_with fail
        refine (has_c AL cL lf y w' HCL.out HcL.out HLA.out).mono ?_
        rintro e w5 ⟨rfl, hb⟩
        have HB5 := Aside0.mk (below_on HB.out HB.out.size hb)
        clear hb
        rw [HLH.out y hy0 HYL.out]
        by_cases hlt8 : rd f y > (rd_T43 l y).f1
        · have dd : decide (rd f y > (rd_T43 l y).f1) = true := by simpa using hlt8
          have HPF := Aside0.mk (HPT.out ⟨#[32, 108, 97, 116, 101]⟩ (by simp only [tail, if_pos hlt8]))
          rw [dd]
          clear dd hlt8
          go_wp2_with fail
          go_roundg suf.length
          case measure => have := HG.out; simp at this; omega
          case rel => exact ⟨pre ++ [y], suf, ⟨by rw [HE.out]; simp⟩, by rw [HPF.out], by simp, ⟨rfl⟩, HB5⟩
        · have dd : decide (rd f y > (rd_T43 l y).f1) = false := by simpa using hlt8
          have HPF := Aside0.mk (show bb ++ ⟨#[10]⟩ = (⟨(planBytes l f (pre ++ [y])).toArray⟩ : ByteArray) from by
            have h := HPT.out ⟨#[]⟩ (by simp only [tail, if_neg hlt8])
            rwa [show bb ++ (⟨#[]⟩ : ByteArray) = bb from by apply ByteArray.ext; simp] at h)
          rw [dd]
          clear dd hlt8
          go_wp2_with fail
          go_roundg suf.length
          case measure => have := HG.out; simp at this; omega
          case rel => exact ⟨pre ++ [y], suf, ⟨by rw [HE.out]; simp⟩, by rw [HPF.out], by simp, ⟨rfl⟩, HB5⟩
end Go.Proofs.YtgajkcooefifdaaDoor.Plan
