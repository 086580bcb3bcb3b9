/- Plain laws of scores: what IsScore and the reference's ntGood say. -/
import Derived.Test.YthhlmjcfhfkmdaaCyP
import Derived.Test.YthhlmjcfhfkmdaaYx
namespace Go.Proofs.Ythhlmjcfhfkmdaa.Cx
open Go.RowKit Go.Proofs.Ythhlmjcfhfkmdaa.PFnClassExactly Go.Proofs.YthhlmjcfhfkmdaaW.PrintWords Go.Proofs.YthhlmjcfhfkmdaaW.PrintLast
set_option linter.unusedVariables false
set_option linter.unusedSimpArgs false

theorem impl_inner (l pre : List S58) (x : S58) (hl : pre.length ≤ 1048576) (b : Bool) (hok : ∀ y ∈ pre, okN y = true) :
    ∀ (s p : List S58), pre = p ++ s → (s.all (fun y => !clash x y) = true → Ev (fun k => impl_IsScore.l0 k l l (l.length : Int) (wrap64 ((pre.length : Int) + 1))) b) →
      Ev (fun k => impl_IsScore.l1 k l l (l.length : Int) (pre.length : Int) pre (pre.length : Int) (p.length : Int) x.f0 x.f1 x.f2) (s.all (fun y => !clash x y) && b) := by
  intro s
  induction s with
  | nil =>
    intro p hp hnext
    refine Ev.step (f := fun k => impl_IsScore.l0 k l l (l.length : Int) (wrap64 ((pre.length : Int) + 1))) (fun k => ?_) (by simpa using hnext rfl)
    have : pre.length = p.length := by rw [hp]; simp
    simp only [impl_IsScore.l1]
    rw [if_neg (by omega)]
  | cons y s ih =>
    intro p hp hnext
    have hlen : pre.length = p.length + s.length + 1 := by rw [hp]; simp; omega
    have hy : okN y = true := hok y (by rw [hp]; simp)
    have hb := okN_bd hy
    have hr : rd_T58 pre (p.length : Int) = y := by rw [hp]; exact rd58_at p s y
    have hw : wrap64 ((p.length : Int) + 1) = ((p ++ [y]).length : Int) := by
      rw [w64 (by omega) (by omega)]; simp
    cases hcl : clash x y with
    | true =>
      refine Ev.step (f := fun _ => some false) (fun k => ?_) (by simpa [hcl] using Ev.now false)
      simp only [clash, Bool.and_eq_true, decide_eq_true_eq] at hcl
      simp only [impl_IsScore.l1, impl_noteEnd.f, hr]
      rw [if_pos (by omega), if_pos (by omega), if_pos (by omega), if_pos hcl.1]
      simp only [Option.bind_some]
      rw [w64 (by omega) (by omega), if_pos hcl.2]
    | false =>
      have hi := ih (p ++ [y]) (by rw [hp]; simp) (fun h => hnext (by simp [hcl] at h ⊢; exact h))
      rw [show ((y :: s).all (fun y => !clash x y) && b) = (s.all (fun y => !clash x y) && b) from by simp [hcl]]
      refine Ev.step (fun k => ?_) hi
      simp only [clash, Bool.and_eq_false_iff, decide_eq_false_iff_not] at hcl
      simp only [impl_IsScore.l1, impl_noteEnd.f, hr]
      rw [if_pos (by omega), if_pos (by omega), if_pos (by omega)]
      by_cases hc : y.f0 = x.f0
      · rw [if_pos hc]
        simp only [Option.bind_some]
        rw [w64 (by omega) (by omega), if_neg (by omega), hw]
      · rw [if_neg hc, hw]

theorem impl_round (l pre suf : List S58) (x : S58) (hl : l.length ≤ 1048576) (he : l = pre ++ x :: suf) (k : Nat) :
    impl_IsScore.l0 (k + 1) l l (l.length : Int) (pre.length : Int) = impl_IsScore.j1 k l (pre.length : Int) l (l.length : Int) (pre.length : Int) (!(okN x && lastOk pre x)) x.f0 x.f1 x.f2 := by
  have hlen : l.length = pre.length + suf.length + 1 := by rw [he]; simp; omega
  have hr : rd_T58 l (pre.length : Int) = x := by rw [he]; exact rd58_at pre suf x
  simp only [impl_IsScore.l0, hr]
  rw [if_pos (by omega), if_pos (by omega), if_pos (by omega), impl_note]
  simp only [Option.bind_some]
  cases hx : okN x with
  | false => rw [if_neg (by simpa [okN] using hx)]; simp
  | true =>
    rw [if_pos (by simpa [okN] using hx)]
    rcases List.eq_nil_or_concat pre with rfl | ⟨p, y, rfl⟩
    · simp [lastOk]
    · have hq : wrap64 (((p.concat y).length : Int) - 1) = (p.length : Int) := by
        rw [w64 (by omega) (by omega)]; simp
      have hr2 : rd_T58 l (p.length : Int) = y := by rw [he]; simpa using rd58_at p (x :: suf) y
      rw [if_pos (by simp), hq, if_pos (by omega), if_pos (by simp at hlen; omega), hr2, impl_before]
      simp [lastOk]
theorem impl_outer (l : List S58) (hl : l.length ≤ 30) : ∀ (suf pre : List S58), l = pre ++ suf → Good pre → Ev (fun k => impl_IsScore.l0 k l l (l.length : Int) (pre.length : Int)) (goodTo pre suf) := by
  intro suf
  induction suf with
  | nil =>
    intro pre he hg
    refine Ev.step (f := fun _ => some true) (fun k => ?_) (Ev.now _)
    simp only [impl_IsScore.l0]
    rw [if_neg (by rw [he]; simp)]
  | cons x suf ih =>
    intro pre he hg
    have hlen : l.length = pre.length + suf.length + 1 := by rw [he]; simp; omega
    refine Ev.step (impl_round l pre suf x (by omega) he) ?_
    cases hb : (okN x && lastOk pre x) with
    | false =>
      refine Ev.step (f := fun _ => some false) (fun k => ?_) ?_
      · simp only [impl_IsScore.j1]; rw [if_pos (by simp)]
      · have : goodStep pre x = false := by
          unfold goodStep; unfold lastOk at hb; rw [hb]; rfl
        simp only [goodTo, this, Bool.false_and]; exact Ev.now _
    | true =>
      have ht : l.take ((pre.length : Int)).toNat = pre := by rw [he]; simp
      have hg2 : goodStep pre x = pre.all (fun y => !clash x y) := by
        unfold goodStep; unfold lastOk at hb; rw [hb]; rfl
      refine Ev.step (f := fun k => impl_IsScore.l1 k l l (l.length : Int) (pre.length : Int) pre (pre.length : Int) 0 x.f0 x.f1 x.f2) (fun k => ?_) ?_
      · simp only [impl_IsScore.j1]
        rw [if_neg (by simp), if_pos (by omega), if_pos (by omega), ht]; rfl
      · have hw : wrap64 ((pre.length : Int) + 1) = ((pre ++ [x]).length : Int) := by
          rw [w64 (by omega) (by omega)]; simp
        simp only [Bool.and_eq_true] at hb
        have hall : goodTo pre (x :: suf) = (pre.all (fun y => !clash x y) && goodTo (pre ++ [x]) suf) := by
          simp only [goodTo, hg2]
        rw [hall]
        refine impl_inner l pre x (by omega) _ hg.1 pre [] (by simp) (fun hc => ?_)
        rw [hw]
        exact ih (pre ++ [x]) (by rw [he]; simp) (good_snoc hg (by rw [hg2, hc])).1
theorem impl_score (l : List S58) (hl : l.length ≤ 1048576) : Ev (fun k => impl_IsScore.f k l) (score l) := by
  by_cases h : l.length ≤ 30
  · refine Ev.congr (f := fun k => impl_IsScore.l0 k l l (l.length : Int) (([] : List S58).length : Int)) (fun k => ?_) ?_
    · unfold impl_IsScore.f; rw [if_neg (by omega)]; rfl
    · have := impl_outer l h l [] rfl Good.nil
      simpa [score, h] using this
  · refine Ev.congr (f := fun _ => some false) (fun k => ?_) (by simpa [score, h] using Ev.now false)
    unfold impl_IsScore.f; rw [if_pos (by omega)]

/-! The reference's check. -/
theorem spec_inner (l pre : List S58) (x : S58) (hl : pre.length ≤ 1048576) (b : Bool) (hx : okN x = true) (hok : ∀ y ∈ pre, okN y = true) (hle : ∀ y ∈ pre, y.f1 ≤ x.f1) :
    ∀ (s p : List S58), pre = p ++ s → (s.all (fun y => !clash x y) = true → Ev (fun k => spec_ntGood.l0 k l l (l.length : Int) (wrap64 ((pre.length : Int) + 1))) b) →
      Ev (fun k => spec_ntGood.l1 k l l (l.length : Int) (pre.length : Int) pre (pre.length : Int) (p.length : Int) x.f0 x.f1 x.f2) (s.all (fun y => !clash x y) && b) := by
  intro s
  induction s with
  | nil =>
    intro p hp hnext
    refine Ev.step (f := fun k => spec_ntGood.l0 k l l (l.length : Int) (wrap64 ((pre.length : Int) + 1))) (fun k => ?_) (by simpa using hnext rfl)
    have : pre.length = p.length := by rw [hp]; simp
    simp only [spec_ntGood.l1]
    rw [if_neg (by omega)]
  | cons y s ih =>
    intro p hp hnext
    have hlen : pre.length = p.length + s.length + 1 := by rw [hp]; simp; omega
    have hy : okN y = true := hok y (by rw [hp]; simp)
    have hyx := hle y (by rw [hp]; simp)
    have hb := okN_bd hy
    have hb2 := okN_bd hx
    have hr : rd_T58 pre (p.length : Int) = y := by rw [hp]; exact rd58_at p s y
    have hw : wrap64 ((p.length : Int) + 1) = ((p ++ [y]).length : Int) := by
      rw [w64 (by omega) (by omega)]; simp
    have hm : spec_ntMeet.f x.f0 x.f1 x.f2 y.f0 y.f1 y.f2 = some (clash x y) := by
      unfold spec_ntMeet.f clash
      by_cases hc : x.f0 = y.f0
      · rw [if_pos hc, w64 (x := y.f1 + y.f2) (by omega) (by omega), w64 (x := x.f1 + x.f2) (by omega) (by omega)]
        by_cases hd : x.f1 < y.f1 + y.f2
        · rw [if_pos hd]; simp [hc]; omega
        · rw [if_neg hd]; simp; omega
      · rw [if_neg hc]; simp; omega
    cases hcl : clash x y with
    | true =>
      refine Ev.step (f := fun _ => some false) (fun k => ?_) (by simpa [hcl] using Ev.now false)
      simp only [spec_ntGood.l1, hr]
      rw [if_pos (by omega), if_pos (by omega), if_pos (by omega), hm, hcl]
      rfl
    | false =>
      have hi := ih (p ++ [y]) (by rw [hp]; simp) (fun h => hnext (by simp [hcl] at h ⊢; exact h))
      rw [show ((y :: s).all (fun y => !clash x y) && b) = (s.all (fun y => !clash x y) && b) from by simp [hcl]]
      refine Ev.step (fun k => ?_) hi
      simp only [spec_ntGood.l1, hr]
      rw [if_pos (by omega), if_pos (by omega), if_pos (by omega), hm, hcl, hw]
      rfl
theorem spec_round (l pre suf : List S58) (x : S58) (hl : l.length ≤ 1048576) (he : l = pre ++ x :: suf) (k : Nat) :
    spec_ntGood.l0 (k + 1) l l (l.length : Int) (pre.length : Int) = spec_ntGood.j1 k l (pre.length : Int) l (l.length : Int) (pre.length : Int) (!(okN x && lastOk pre x)) x.f0 x.f1 x.f2 := by
  have hlen : l.length = pre.length + suf.length + 1 := by rw [he]; simp; omega
  have hr : rd_T58 l (pre.length : Int) = x := by rw [he]; exact rd58_at pre suf x
  simp only [spec_ntGood.l0, hr]
  rw [if_pos (by omega), if_pos (by omega), if_pos (by omega), spec_note]
  simp only [Option.bind_some]
  cases hx : okN x with
  | false => rw [if_neg (by simpa [okN] using hx)]; simp
  | true =>
    rw [if_pos (by simpa [okN] using hx)]
    rcases List.eq_nil_or_concat pre with rfl | ⟨p, y, rfl⟩
    · simp [lastOk]
    · have hq : wrap64 (((p.concat y).length : Int) - 1) = (p.length : Int) := by
        rw [w64 (by omega) (by omega)]; simp
      have hr2 : rd_T58 l (p.length : Int) = y := by rw [he]; simpa using rd58_at p (x :: suf) y
      rw [if_pos (by simp), hq, if_pos (by omega), if_pos (by simp at hlen; omega), hr2, spec_before]
      simp [lastOk]
theorem spec_outer (l : List S58) (hl : l.length ≤ 1048576) : ∀ (suf pre : List S58), l = pre ++ suf → Good pre → Ev (fun k => spec_ntGood.l0 k l l (l.length : Int) (pre.length : Int)) (goodTo pre suf && decide (l.length ≤ 30)) := by
  intro suf
  induction suf with
  | nil =>
    intro pre he hg
    refine Ev.step (f := fun _ => some (decide ((l.length : Int) ≤ 30))) (fun k => ?_) ?_
    · simp only [spec_ntGood.l0]
      rw [if_neg (by rw [he]; simp)]
    · have : decide ((l.length : Int) ≤ 30) = decide (l.length ≤ 30) := by simp; omega
      rw [this]; simpa [goodTo] using Ev.now _
  | cons x suf ih =>
    intro pre he hg
    have hlen : l.length = pre.length + suf.length + 1 := by rw [he]; simp; omega
    refine Ev.step (spec_round l pre suf x hl he) ?_
    cases hb : (okN x && lastOk pre x) with
    | false =>
      refine Ev.step (f := fun _ => some false) (fun k => ?_) ?_
      · simp only [spec_ntGood.j1]; rw [if_pos (by simp)]
      · have : goodStep pre x = false := by
          unfold goodStep; unfold lastOk at hb; rw [hb]; rfl
        simp only [goodTo, this, Bool.false_and]; exact Ev.now _
    | true =>
      have ht : l.take ((pre.length : Int)).toNat = pre := by rw [he]; simp
      have hg2 : goodStep pre x = pre.all (fun y => !clash x y) := by
        unfold goodStep; unfold lastOk at hb; rw [hb]; rfl
      refine Ev.step (f := fun k => spec_ntGood.l1 k l l (l.length : Int) (pre.length : Int) pre (pre.length : Int) 0 x.f0 x.f1 x.f2) (fun k => ?_) ?_
      · simp only [spec_ntGood.j1]
        rw [if_neg (by simp), if_pos (by omega), if_pos (by omega), ht]; rfl
      · have hw : wrap64 ((pre.length : Int) + 1) = ((pre ++ [x]).length : Int) := by
          rw [w64 (by omega) (by omega)]; simp
        have hb' := hb
        simp only [Bool.and_eq_true] at hb
        have hle : ∀ y ∈ pre, y.f1 ≤ x.f1 := by
          intro y hy
          have h2 := hb.2
          unfold lastOk at h2
          cases hz : pre.getLast? with
          | none => rw [List.getLast?_eq_none_iff] at hz; subst hz; simp at hy
          | some z =>
            rw [hz] at h2
            have := hg.2 z hz y hy
            have := before_le h2
            omega
        have hall : (goodTo pre (x :: suf) && decide (l.length ≤ 30)) = (pre.all (fun y => !clash x y) && (goodTo (pre ++ [x]) suf && decide (l.length ≤ 30))) := by
          simp only [goodTo, hg2, Bool.and_assoc]
        rw [hall]
        refine spec_inner l pre x (by omega) _ hb.1 hg.1 hle pre [] (by simp) (fun hc => ?_)
        rw [hw]
        exact ih (pre ++ [x]) (by rw [he]; simp) (good_snoc hg (by rw [hg2, hc])).1
theorem spec_score (l : List S58) (hl : l.length ≤ 1048576) : Ev (fun k => spec_ntGood.f k l) (score l) := by
  have := spec_outer l hl l [] rfl Good.nil
  simpa [score, spec_ntGood.f] using this

theorem score_len {t : List S58} (h : score t = true) : t.length ≤ 30 := by
  simp [score] at h; omega
theorem iscore_c (A : Option Addr) (c : Nat) (l : List S58) (w : World) (hr : Kd.C k58 w A l.length l) (hc : l.length ≤ c) (hl : l.length ≤ 1048576) :
    Calls Try.prog 31 #[.slice A l.length c] w fun e w' => e = .returned (.bool (score l)) ∧ Below w.heap.size w w' := by
  obtain ⟨k, hk⟩ := (impl_score l hl).rounds
  exact impl_IsScore.calls k A c l _ w hr hc hk
theorem sscore_c (A : Option Addr) (c : Nat) (l : List S58) (w : World) (hr : Kd.C k58 w A l.length l) (hc : l.length ≤ c) (hl : l.length ≤ 1048576) :
    Calls Try.prog 51 #[.slice A l.length c] w fun e w' => e = .returned (.bool (score l)) ∧ Below w.heap.size w w' := by
  obtain ⟨k, hk⟩ := (spec_score l hl).rounds
  exact spec_ntGood.calls k A c l _ w hr hc hk
end Go.Proofs.Ythhlmjcfhfkmdaa.Cx
