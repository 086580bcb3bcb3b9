/- Plain laws of the functions that PlanText reaches: orders, finish days, late jobs, numerals. -/
import Derived.Test.YtgajkcooefifdaaDoorPlanA
import Derived.Test.YtgajkcooefifdaaDoorPlanB
import Derived.Lib.ItoaMem
namespace Go.Proofs.YtgajkcooefifdaaDoor.Plan
open Go.RowKit Go.Proofs.YtgajkcooefifdaaDoorW.PrintWords Go.Proofs.YtgajkcooefifdaaDoorW.PrintLast Go.Proofs.YtgajkcooefifdaaDoorW.PrintMore
open Go.Proofs.YtgajkcooefifdaaDoor.PFnExactPlanText
set_option linter.unusedVariables false
set_option linter.unusedSimpArgs false

theorem w64 {x : Int} (h0 : -9223372036854775808 ≤ x) (h1 : x ≤ 9223372036854775807) : wrap64 x = x := by
  unfold wrap64; omega
theorem rd_at (pre suf : List Int) (x : Int) : rd (pre ++ x :: suf) (pre.length : Int) = x := by simp [rd]
theorem rd43_at (pre suf : List S43) (x : S43) : rd_T43 (pre ++ x :: suf) (pre.length : Int) = x := by simp [rd_T43]
theorem rd45_at (pre suf : List S45) (x : S45) : rd_T45 (pre ++ x :: suf) (pre.length : Int) = x := by simp [rd_T45]

theorem spec_has (l : List Int) (hl : l.length ≤ 1048576) (a : Int) : Ev (fun k => spec_l1Has.f k l a) (l.contains a) := by
  have key : ∀ (suf pre : List Int), l = pre ++ suf → Ev (fun k => spec_l1Has.l0 k a l (l.length : Int) (pre.length : Int)) (suf.contains a) := by
    intro suf
    induction suf with
    | nil =>
      intro pre he
      refine Ev.step (f := fun _ => some false) (fun k => ?_) (Ev.now _)
      simp only [spec_l1Has.l0]
      rw [if_neg (by rw [he]; simp)]
    | cons x suf ih =>
      intro pre he
      have hlen : l.length = pre.length + suf.length + 1 := by rw [he]; simp; omega
      have hr : rd l (pre.length : Int) = x := by rw [he]; exact rd_at pre suf x
      have hw : wrap64 ((pre.length : Int) + 1) = ((pre ++ [x]).length : Int) := by
        rw [w64 (by omega) (by omega)]; simp
      have hi := ih (pre ++ [x]) (by rw [he]; simp)
      by_cases hc : x = a
      · rw [show (x :: suf).contains a = true from by simp [hc]]
        refine Ev.step (f := fun _ => some true) (fun k => ?_) (Ev.now _)
        simp only [spec_l1Has.l0, hr]
        rw [if_pos (by omega), if_pos (by omega), if_pos (by omega), if_pos hc]
      · rw [show (x :: suf).contains a = suf.contains a from by simp [Ne.symm hc]]
        refine Ev.step (fun k => ?_) hi
        simp only [spec_l1Has.l0, hr]
        rw [if_pos (by omega), if_pos (by omega), if_pos (by omega), if_neg hc, hw]
  exact key l [] rfl
theorem impl_has (l : List Int) (hl : l.length ≤ 1048576) (a : Int) : Ev (fun k => slices_Contains_int_int.f k l a) (l.contains a) := by
  have key : ∀ (suf pre : List Int), l = pre ++ suf → ∃ r : Int, Ev (fun k => slices_Index_int_int.l0 k l a (l.length : Int) (pre.length : Int)) r ∧ decide (r ≥ 0) = suf.contains a := by
    intro suf
    induction suf with
    | nil =>
      intro pre he
      refine ⟨-1, Ev.step (f := fun _ => some (-1)) (fun k => ?_) (Ev.now _), rfl⟩
      simp only [slices_Index_int_int.l0]
      rw [if_neg (by rw [he]; simp)]
    | cons x suf ih =>
      intro pre he
      have hlen : l.length = pre.length + suf.length + 1 := by rw [he]; simp; omega
      have hr : rd l (pre.length : Int) = x := by rw [he]; exact rd_at pre suf x
      have hw : wrap64 ((pre.length : Int) + 1) = ((pre ++ [x]).length : Int) := by
        rw [w64 (by omega) (by omega)]; simp
      obtain ⟨r, hi, hd⟩ := ih (pre ++ [x]) (by rw [he]; simp)
      by_cases hc : a = x
      · refine ⟨(pre.length : Int), Ev.step (f := fun _ => some (pre.length : Int)) (fun k => ?_) (Ev.now _), by simp [hc]⟩
        simp only [slices_Index_int_int.l0, hr]
        rw [if_pos (by omega), if_pos (by omega), if_pos (by omega), if_pos hc]
      · refine ⟨r, Ev.step (fun k => ?_) hi, by rw [hd]; simp [hc]⟩
        simp only [slices_Index_int_int.l0, hr]
        rw [if_pos (by omega), if_pos (by omega), if_pos (by omega), if_neg hc, hw]
  obtain ⟨r, h, hd⟩ := key l [] rfl
  refine Ev.congr (f := fun k => (slices_Index_int_int.f k l a).bind fun t => some (decide (t ≥ 0))) (fun k => rfl) (Ev.bind (a := r) h ?_)
  rw [show l.contains a = decide (r ≥ 0) from hd.symm]; exact Ev.now _

def okJob (x : S43) : Bool := (decide (1 ≤ x.f0) && decide (x.f0 ≤ 30)) && ((decide (0 ≤ x.f1) && decide (x.f1 ≤ 400)) && (decide (0 ≤ x.f2) && decide (x.f2 ≤ 20)))
def jobsOk (l : List S43) : Bool := l.all okJob && decide (l.length ≤ 12)
theorem impl_jobs (l : List S43) (hl : l.length ≤ 1048576) : Ev (fun k => impl_AreJobs.f k l) (jobsOk l) := by
  have key : ∀ (suf pre : List S43), l = pre ++ suf → Ev (fun k => impl_AreJobs.l0 k l l (l.length : Int) (pre.length : Int)) (suf.all okJob && decide (l.length ≤ 12)) := by
    intro suf
    induction suf with
    | nil =>
      intro pre he
      refine Ev.step (f := fun _ => some (decide ((l.length : Int) ≤ 12))) (fun k => ?_) ?_
      · simp only [impl_AreJobs.l0]
        rw [if_neg (by rw [he]; simp)]
      · rw [show decide ((l.length : Int) ≤ 12) = decide (l.length ≤ 12) from by simp; omega]
        simpa using Ev.now _
    | cons x suf ih =>
      intro pre he
      have hlen : l.length = pre.length + suf.length + 1 := by rw [he]; simp; omega
      have hr : rd_T43 l (pre.length : Int) = x := by rw [he]; exact rd43_at pre suf x
      have hw : wrap64 ((pre.length : Int) + 1) = ((pre ++ [x]).length : Int) := by
        rw [w64 (by omega) (by omega)]; simp
      have hi := ih (pre ++ [x]) (by rw [he]; simp)
      have hstep : ∀ k, impl_AreJobs.l0 (k + 1) l l (l.length : Int) (pre.length : Int) = if okJob x = true then impl_AreJobs.l0 k l l (l.length : Int) ((pre ++ [x]).length : Int) else some false := by
        intro k
        simp only [impl_AreJobs.l0, hr]
        rw [if_pos (by omega), if_pos (by omega), if_pos (by omega), hw]
        by_cases h1 : x.f0 < 1
        · rw [if_pos h1, if_neg (by simp [okJob]; omega)]
        · rw [if_neg h1]
          by_cases h2 : x.f0 > 30
          · rw [if_pos h2, if_neg (by simp [okJob]; omega)]
          · rw [if_neg h2]
            by_cases h3 : x.f1 < 0
            · rw [if_pos h3, if_neg (by simp [okJob]; omega)]
            · rw [if_neg h3]
              by_cases h4 : x.f1 > 400
              · rw [if_pos h4, if_neg (by simp [okJob]; omega)]
              · rw [if_neg h4]
                by_cases h5 : x.f2 < 0
                · rw [if_pos h5, if_neg (by simp [okJob]; omega)]
                · rw [if_neg h5]
                  by_cases h6 : x.f2 > 20
                  · rw [if_pos h6, if_neg (by simp [okJob]; omega)]
                  · rw [if_neg h6, if_pos (by simp [okJob]; omega)]
      refine Ev.step hstep ?_
      cases hx : okJob x with
      | true => exact Ev.congr (fun k => by rw [if_pos rfl]) (by simpa [hx] using hi)
      | false => exact Ev.congr (f := fun _ => some false) (fun k => by rw [if_neg (by simp)]) (by simpa [hx] using Ev.now false)
  exact key l [] rfl
theorem spec_jobs (l : List S43) (hl : l.length ≤ 1048576) : Ev (fun k => spec_pnGood.f k l) (jobsOk l) := by
  have key : ∀ (suf pre : List S43), l = pre ++ suf → Ev (fun k => spec_pnGood.l0 k l l (l.length : Int) (pre.length : Int)) (suf.all okJob && decide (l.length ≤ 12)) := by
    intro suf
    induction suf with
    | nil =>
      intro pre he
      refine Ev.step (f := fun _ => some (decide ((l.length : Int) ≤ 12))) (fun k => ?_) ?_
      · simp only [spec_pnGood.l0]
        rw [if_neg (by rw [he]; simp)]
      · rw [show decide ((l.length : Int) ≤ 12) = decide (l.length ≤ 12) from by simp; omega]
        simpa using Ev.now _
    | cons x suf ih =>
      intro pre he
      have hlen : l.length = pre.length + suf.length + 1 := by rw [he]; simp; omega
      have hr : rd_T43 l (pre.length : Int) = x := by rw [he]; exact rd43_at pre suf x
      have hw : wrap64 ((pre.length : Int) + 1) = ((pre ++ [x]).length : Int) := by
        rw [w64 (by omega) (by omega)]; simp
      have hi := ih (pre ++ [x]) (by rw [he]; simp)
      have hin : ∀ a b c, spec_l1In.f a b c = some (decide (b ≤ a) && decide (a ≤ c)) := by
        intro a b c
        unfold spec_l1In.f
        by_cases h : b ≤ a
        · rw [if_pos h]; simp [h]
        · rw [if_neg h]; simp [h]
      have hstep : ∀ k, spec_pnGood.l0 (k + 1) l l (l.length : Int) (pre.length : Int) = if okJob x = true then spec_pnGood.l0 k l l (l.length : Int) ((pre ++ [x]).length : Int) else some false := by
        intro k
        simp only [spec_pnGood.l0, hr, hin, Option.bind_some]
        rw [if_pos (by omega), if_pos (by omega), if_pos (by omega), hw]
        cases h1 : (decide (1 ≤ x.f0) && decide (x.f0 ≤ 30)) <;> cases h2 : (decide (0 ≤ x.f1) && decide (x.f1 ≤ 400)) <;> cases h3 : (decide (0 ≤ x.f2) && decide (x.f2 ≤ 20)) <;> simp [okJob, h1, h2, h3]
      refine Ev.step hstep ?_
      cases hx : okJob x with
      | true => exact Ev.congr (fun k => by rw [if_pos rfl]) (by simpa [hx] using hi)
      | false => exact Ev.congr (f := fun _ => some false) (fun k => by rw [if_neg (by simp)]) (by simpa [hx] using Ev.now false)
  exact key l [] rfl
theorem byte_of (n : Nat) (h : n < 10) : strOfNums [(48 + (n : Int)) % 256] = (⟨#[UInt8.ofNat (48 + n)]⟩ : ByteArray) := by
  have : n = 0 ∨ n = 1 ∨ n = 2 ∨ n = 3 ∨ n = 4 ∨ n = 5 ∨ n = 6 ∨ n = 7 ∨ n = 8 ∨ n = 9 := by omega
  rcases this with rfl | rfl | rfl | rfl | rfl | rfl | rfl | rfl | rfl | rfl <;> rfl
theorem num_ev : ∀ (n : Nat), n ≤ 1048576 → Ev (fun k => spec_l1Num.f k (n : Int)) ⟨(Lib.decDigits n).toArray⟩ := by
  intro n
  induction n using Nat.strongRecOn with
  | ind n ih =>
    intro hn
    by_cases h : n < 10
    · refine Ev.step (f := fun _ => some (⟨(Lib.decDigits n).toArray⟩ : ByteArray)) (fun k => ?_) (Ev.now _)
      simp only [spec_l1Num.f]
      rw [if_pos (by omega), w64 (by omega) (by omega), Lib.decDigits_one h, byte_of n h]
    · have hd : Int.tdiv (n : Int) 10 = ((n / 10 : Nat) : Int) := by rw [Int.tdiv_eq_ediv_of_nonneg (by omega)]; omega
      have hm : Int.tmod (n : Int) 10 = ((n % 10 : Nat) : Int) := by rw [Int.tmod_eq_emod_of_nonneg (by omega)]; omega
      have e : Lib.decDigits n = Lib.decDigits (n / 10) ++ [UInt8.ofNat (48 + n % 10)] := by rw [Lib.decDigits, dif_neg h]
      have hq := ih (n / 10) (by omega) (by omega)
      have hsz : (⟨(Lib.decDigits (n / 10)).toArray⟩ : ByteArray).size ≤ 1048577 := by
        show (Lib.decDigits (n / 10)).toArray.size ≤ _
        have : ∀ m : Nat, (Lib.decDigits m).length ≤ m + 1 := by
          intro m
          induction m using Nat.strongRecOn with
          | ind m ih =>
            by_cases h : m < 10
            · rw [Lib.decDigits_one h]; simp
            · rw [Lib.decDigits, dif_neg h]; have := ih (m / 10) (by omega); simp; omega
        have := this (n / 10)
        simp; omega
      refine Ev.step (f := fun k => (spec_l1Num.f k ((n / 10 : Nat) : Int)).bind fun t => if t.size + (⟨#[UInt8.ofNat (48 + n % 10)]⟩ : ByteArray).size ≤ 9223372036854775807 then some (t ++ (⟨#[UInt8.ofNat (48 + n % 10)]⟩ : ByteArray)) else none) (fun k => ?_) (Ev.bind hq ?_)
      · simp only [spec_l1Num.f, Option.bind_some]
        rw [if_neg (by omega), hd, hm, w64 (by omega) (by omega), w64 (by omega) (by omega), byte_of (n % 10) (by omega)]
      · refine Ev.congr (f := fun _ => some (⟨(Lib.decDigits n).toArray⟩ : ByteArray)) (fun k => ?_) (Ev.now _)
        rw [if_pos (by have : (⟨#[UInt8.ofNat (48 + n % 10)]⟩ : ByteArray).size = 1 := rfl
                       omega)]
        congr 1
        rw [e]
        apply ByteArray.ext
        simp
/-! Finish days. -/
def finTo (l : List S43) : List Int → Int → List Int → List Int
  | acc, _, [] => acc
  | acc, day, y :: r => finTo l (acc.set y.toNat (day + (rd_T43 l y).f0)) (day + (rd_T43 l y).f0) r
def fin (l : List S43) (o : List Int) : List Int := finTo l (List.replicate l.length 0) 0 o
/-- All indices are those of jobs. -/
def inside (l : List S43) (o : List Int) : Prop := ∀ y ∈ o, 0 ≤ y ∧ y < (l.length : Int)
theorem okJob_bd {x : S43} (h : okJob x = true) : 1 ≤ x.f0 ∧ x.f0 ≤ 30 := by simp [okJob] at h; omega
theorem job_at {l : List S43} (hl : l.all okJob = true) {y : Int} (h0 : 0 ≤ y) (h1 : y < (l.length : Int)) : okJob (rd_T43 l y) = true := by
  have hy : y.toNat < l.length := by omega
  have : rd_T43 l y = l[y.toNat] := by simp [rd_T43, List.getD_eq_getElem?_getD, hy]
  rw [this]
  exact List.all_eq_true.1 hl _ (List.getElem_mem hy)
theorem finTo_len (l : List S43) : ∀ (o : List Int) (acc : List Int) (day : Int), (finTo l acc day o).length = acc.length
  | [], _, _ => rfl
  | y :: r, acc, day => by unfold finTo; rw [finTo_len l r]; simp
theorem finTo_bd (l : List S43) (hl : l.all okJob = true) : ∀ (o acc : List Int) (day : Int), inside l o → 0 ≤ day → (∀ x ∈ acc, 0 ≤ x ∧ x ≤ day) → ∀ x ∈ finTo l acc day o, 0 ≤ x ∧ x ≤ day + 30 * o.length
  | [], acc, day, _, h0, ha => fun x hx => by have := ha x hx; simp; omega
  | y :: r, acc, day, hi, h0, ha => by
    intro x hx
    have hy := hi y (by simp)
    have hb := okJob_bd (job_at hl hy.1 hy.2)
    unfold finTo at hx
    have := finTo_bd l hl r _ (day + (rd_T43 l y).f0) (fun z hz => hi z (by simp [hz])) (by omega) (fun z hz => by
      rcases List.mem_or_eq_of_mem_set hz with h | h
      · have := ha z h; omega
      · omega) x hx
    simp only [List.length_cons]
    omega
theorem impl_fin (l : List S43) (o : List Int) (hl : l.length ≤ 1048576) (ho : o.length ≤ 1048576) (hi : inside l o) (hj : l.all okJob = true) : Ev (fun k => impl_finishDays.f k l o) (fin l o) := by
  have key : ∀ (suf pre acc : List Int) (day : Int), o = pre ++ suf → acc.length = l.length → 0 ≤ day → day + 30 * suf.length ≤ 1099511627776 → Ev (fun k => impl_finishDays.l0 k l acc day o (o.length : Int) (pre.length : Int)) (finTo l acc day suf) := by
    intro suf
    induction suf with
    | nil =>
      intro pre acc day he ha h0 h1
      refine Ev.step (f := fun _ => some acc) (fun k => ?_) (Ev.now _)
      simp only [impl_finishDays.l0]
      rw [if_neg (by rw [he]; simp)]
    | cons y suf ih =>
      intro pre acc day he ha h0 h1
      simp only [List.length_cons] at h1
      have hlen : o.length = pre.length + suf.length + 1 := by rw [he]; simp; omega
      have hr : rd o (pre.length : Int) = y := by rw [he]; exact rd_at pre suf y
      have hw : wrap64 ((pre.length : Int) + 1) = ((pre ++ [y]).length : Int) := by
        rw [w64 (by omega) (by omega)]; simp
      have hy := hi y (by rw [he]; simp)
      have hb := okJob_bd (job_at hj hy.1 hy.2)
      have hq : wrap64 (day + (rd_T43 l y).f0) = day + (rd_T43 l y).f0 := w64 (by omega) (by omega)
      refine Ev.step (fun k => ?_) (ih (pre ++ [y]) (acc.set y.toNat (day + (rd_T43 l y).f0)) (day + (rd_T43 l y).f0) (by rw [he]; simp) (by simp [ha]) (by omega) (by omega))
      simp only [impl_finishDays.l0, hr]
      rw [if_pos (by omega), if_pos (by omega), if_pos (by omega), if_pos hy.1, if_pos hy.2, if_pos (by omega), hq, hw]
  refine Ev.congr (f := fun k => impl_finishDays.l0 k l (List.replicate l.length 0) 0 o (o.length : Int) (([] : List Int).length : Int)) (fun k => ?_) (key o [] _ 0 rfl (by simp) (by omega) (by omega))
  unfold impl_finishDays.f
  rw [if_pos (by omega), if_pos (by simp; omega)]; rfl
theorem spec_fin (l : List S43) (o : List Int) (hl : l.length ≤ 1048576) (ho : o.length ≤ 1048576) (hi : inside l o) (hj : l.all okJob = true) : Ev (fun k => spec_pnFinish.f k l o) (fin l o) := by
  have key : ∀ (suf pre acc : List Int) (day : Int), o = pre ++ suf → acc.length = l.length → 0 ≤ day → day + 30 * suf.length ≤ 1099511627776 → Ev (fun k => spec_pnFinish.l0 k l acc day o (o.length : Int) (pre.length : Int)) (finTo l acc day suf) := by
    intro suf
    induction suf with
    | nil =>
      intro pre acc day he ha h0 h1
      refine Ev.step (f := fun _ => some acc) (fun k => ?_) (Ev.now _)
      simp only [spec_pnFinish.l0]
      rw [if_neg (by rw [he]; simp)]
    | cons y suf ih =>
      intro pre acc day he ha h0 h1
      simp only [List.length_cons] at h1
      have hlen : o.length = pre.length + suf.length + 1 := by rw [he]; simp; omega
      have hr : rd o (pre.length : Int) = y := by rw [he]; exact rd_at pre suf y
      have hw : wrap64 ((pre.length : Int) + 1) = ((pre ++ [y]).length : Int) := by
        rw [w64 (by omega) (by omega)]; simp
      have hy := hi y (by rw [he]; simp)
      have hb := okJob_bd (job_at hj hy.1 hy.2)
      have hq : wrap64 (day + (rd_T43 l y).f0) = day + (rd_T43 l y).f0 := w64 (by omega) (by omega)
      refine Ev.step (fun k => ?_) (ih (pre ++ [y]) (acc.set y.toNat (day + (rd_T43 l y).f0)) (day + (rd_T43 l y).f0) (by rw [he]; simp) (by simp [ha]) (by omega) (by omega))
      simp only [spec_pnFinish.l0, hr]
      rw [if_pos (by omega), if_pos (by omega), if_pos (by omega), if_pos hy.1, if_pos hy.2, if_pos (by omega), hq, hw]
  refine Ev.congr (f := fun k => spec_pnFinish.l0 k l (List.replicate l.length 0) 0 o (o.length : Int) (([] : List Int).length : Int)) (fun k => ?_) (key o [] _ 0 rfl (by simp) (by omega) (by omega))
  unfold spec_pnFinish.f
  rw [if_pos (by omega), if_pos (by simp; omega)]; rfl
/-! Late jobs. -/
def lateFrom (l : List S43) : Nat → List Int → List Int
  | _, [] => []
  | i, d :: r => (if d > (rd_T43 l (i : Int)).f1 then [(i : Int)] else []) ++ lateFrom l (i + 1) r
theorem lateFrom_len (l : List S43) : ∀ (f : List Int) (i : Nat), (lateFrom l i f).length ≤ f.length
  | [], _ => by simp [lateFrom]
  | d :: r, i => by
    have := lateFrom_len l r (i + 1)
    unfold lateFrom; split <;> simp <;> omega
theorem mem_late (l : List S43) : ∀ (f : List Int) (i j : Nat), (j : Int) ∈ lateFrom l i f ↔ i ≤ j ∧ j < i + f.length ∧ f.getD (j - i) 0 > (rd_T43 l (j : Int)).f1
  | [], i, j => by simp [lateFrom]; omega
  | d :: r, i, j => by
    unfold lateFrom
    rw [List.mem_append, mem_late l r (i + 1) j]
    by_cases hij : j = i
    · subst hij
      by_cases hd : d > (rd_T43 l (j : Int)).f1
      · rw [if_pos hd]; simp [hd]
      · rw [if_neg hd]; simp [hd]; intro h; omega
    · have h1 : (j : Int) ∉ (if d > (rd_T43 l (i : Int)).f1 then [(i : Int)] else []) := by split <;> simp <;> omega
      constructor
      · rintro (h | ⟨h2, h3, h4⟩)
        · exact absurd h h1
        · refine ⟨by omega, by simp; omega, ?_⟩
          rw [show j - i = (j - (i + 1)) + 1 by omega]; simpa using h4
      · rintro ⟨h2, h3, h4⟩
        refine .inr ⟨by omega, by simp at h3; omega, ?_⟩
        rw [show j - i = (j - (i + 1)) + 1 by omega] at h4; simpa using h4
theorem spec_late (l : List S43) (o : List Int) (hl : l.length ≤ 1048576) (ho : o.length ≤ 1048576) (hi : inside l o) (hj : l.all okJob = true) : Ev (fun k => spec_pnLate.f k l o) (lateFrom l 0 (fin l o)) := by
  have hfl : (fin l o).length = l.length := by unfold fin; rw [finTo_len]; simp
  refine Ev.bind (spec_fin l o hl ho hi hj) ?_
  have key : ∀ (suf pre acc : List Int), fin l o = pre ++ suf → acc.length ≤ pre.length → Ev (fun k => spec_pnLate.l0 k l acc (fin l o) ((fin l o).length : Int) (pre.length : Int)) (acc ++ lateFrom l pre.length suf) := by
    intro suf
    induction suf with
    | nil =>
      intro pre acc he ha
      refine Ev.step (f := fun _ => some acc) (fun k => ?_) (by simpa [lateFrom] using Ev.now acc)
      simp only [spec_pnLate.l0]
      rw [if_neg (by rw [he]; simp)]
    | cons y suf ih =>
      intro pre acc he ha
      have hlen : (fin l o).length = pre.length + suf.length + 1 := by rw [he]; simp; omega
      have hr : rd (fin l o) (pre.length : Int) = y := by rw [he]; exact rd_at pre suf y
      have hw : wrap64 ((pre.length : Int) + 1) = ((pre ++ [y]).length : Int) := by
        rw [w64 (by omega) (by omega)]; simp
      by_cases hd : y > (rd_T43 l (pre.length : Int)).f1
      · have hi2 := ih (pre ++ [y]) (acc ++ [(pre.length : Int)]) (by rw [he]; simp) (by simp; omega)
        rw [show acc ++ lateFrom l pre.length (y :: suf) = acc ++ [(pre.length : Int)] ++ lateFrom l (pre ++ [y]).length suf from by simp [lateFrom, hd]]
        refine Ev.step (fun k => ?_) hi2
        simp only [spec_pnLate.l0, hr]
        rw [if_pos (by omega), if_pos (by omega), if_pos (by omega), if_pos (by omega), if_pos hd, if_pos (by omega), hw]
      · have hi2 := ih (pre ++ [y]) acc (by rw [he]; simp) (by simp; omega)
        rw [show acc ++ lateFrom l pre.length (y :: suf) = acc ++ lateFrom l (pre ++ [y]).length suf from by simp [lateFrom, hd]]
        refine Ev.step (fun k => ?_) hi2
        simp only [spec_pnLate.l0, hr]
        rw [if_pos (by omega), if_pos (by omega), if_pos (by omega), if_pos (by omega), if_neg hd, hw]
  exact key (fin l o) [] [] rfl (by simp)
end Go.Proofs.YtgajkcooefifdaaDoor.Plan
