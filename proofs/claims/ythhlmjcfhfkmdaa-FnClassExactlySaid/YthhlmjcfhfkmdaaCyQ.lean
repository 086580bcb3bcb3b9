/- Plain laws of sheets: what IsSheet and the reference's shGood say. -/
import Derived.Test.YthhlmjcfhfkmdaaCyP
import Derived.Test.YthhlmjcfhfkmdaaYy
namespace Go.Proofs.Ythhlmjcfhfkmdaa.Cx
open Go.RowKit Go.Proofs.Ythhlmjcfhfkmdaa.PFnClassExactly Go.Proofs.YthhlmjcfhfkmdaaW.PrintWords Go.Proofs.YthhlmjcfhfkmdaaW.PrintLast
set_option linter.unusedVariables false
set_option linter.unusedSimpArgs false

theorem rd80_at (pre suf : List S80) (x : S80) : rd_T80 (pre ++ x :: suf) (pre.length : Int) = x := by simp [rd_T80]
theorem last80_at (p : List S80) (y : S80) (r : List S80) : rd_T80 ((p ++ [y]) ++ r) (((p ++ [y]).length : Int) - 1) = y := by
  rw [show (((p ++ [y]).length : Int) - 1) = (p.length : Int) by simp, List.append_assoc]
  exact rd80_at p r y
def okH (x : S80) : Bool := (decide (0 ≤ x.f0) && decide (x.f0 ≤ 19)) && (decide (0 ≤ x.f1) && (decide (x.f1 < x.f2) && decide (x.f2 ≤ 2000)))
theorem impl_hole (x : S80) : impl_IsHole.f x.f0 x.f1 x.f2 = some (okH x) := by
  unfold impl_IsHole.f impl_isTrack.f okH
  by_cases h1 : x.f0 ≥ 0 <;> by_cases h2 : x.f0 < 20 <;> by_cases h3 : x.f1 ≥ 0 <;> by_cases h4 : x.f1 < x.f2 <;> simp [h1, h2, h3, h4] <;> omega
theorem spec_hole (x : S80) : spec_shHole.f x.f0 x.f1 x.f2 = some (okH x) := by
  have hin : ∀ a b c, spec_l1In.f a b c = some (decide (b ≤ a) && decide (a ≤ c)) := by
    intro a b c
    unfold spec_l1In.f
    by_cases h : b ≤ a
    · rw [if_pos h]; simp [h]
    · rw [if_neg h]; simp [h]
  unfold spec_shHole.f okH
  simp only [hin, Option.bind_some]
  by_cases h1 : 0 ≤ x.f0 <;> by_cases h2 : x.f0 ≤ 19 <;> by_cases h3 : 0 ≤ x.f1 <;> by_cases h4 : x.f1 ≤ 1999 <;> simp [h1, h2, h3, h4] <;> first | (rw [w64 (by omega) (by omega)]; rw [Bool.eq_iff_iff]; simp; omega) | omega
def hless (a b : S80) : Bool := decide (a.f1 < b.f1) || (decide (a.f1 = b.f1) && decide (a.f0 < b.f0))
theorem impl_hless (a b : S80) : impl_holeLess.f a.f0 a.f1 a.f2 b.f0 b.f1 b.f2 = some (hless a b) := by
  unfold impl_holeLess.f hless
  by_cases h : a.f1 = b.f1 <;> simp [h]
theorem spec_hless (a b : S80) : spec_shBefore.f a.f0 a.f1 a.f2 b.f0 b.f1 b.f2 = some (hless a b) := by
  unfold spec_shBefore.f hless
  by_cases h : a.f1 < b.f1
  · simp [h]
  · by_cases h2 : a.f1 = b.f1 <;> simp [h, h2]
def hclash (x y : S80) : Bool := decide (y.f0 = x.f0) && decide (y.f2 ≥ x.f1)
def hlast (pre : List S80) (x : S80) : Bool := match pre.getLast? with | none => true | some y => hless y x
def hstep (pre : List S80) (x : S80) : Bool := okH x && hlast pre x && pre.all (fun y => !hclash x y)
def hgood : List S80 → List S80 → Bool
  | _, [] => true
  | pre, x :: r => hstep pre x && hgood (pre ++ [x]) r
def sheet (l : List S80) : Bool := hgood [] l && decide (l.length ≤ 60)

theorem isheet_inner (l pre : List S80) (x : S80) (i : Int) (hl : pre.length ≤ 1048576) (R : Bool) : ∀ (suf p2 : List S80), pre = p2 ++ suf →
    (suf.all (fun y => !hclash x y) = true → Ev (fun k => impl_IsSheet.l0 k l l (l.length : Int) (wrap64 (i + 1))) R) → (suf.all (fun y => !hclash x y) = false → R = false) →
    Ev (fun k => impl_IsSheet.l1 k l l (l.length : Int) i pre (pre.length : Int) (p2.length : Int) x.f0 x.f1 x.f2) R := by
  intro suf
  induction suf with
  | nil =>
    intro p2 he h1 _
    refine Ev.step (fun k => ?_) (h1 rfl)
    simp only [impl_IsSheet.l1]
    rw [if_neg (by rw [he]; simp)]
  | cons y suf ih =>
    intro p2 he h1 h2
    have hlen : pre.length = p2.length + suf.length + 1 := by rw [he]; simp; omega
    have hr : rd_T80 pre (p2.length : Int) = y := by rw [he]; exact rd80_at p2 suf y
    have hw : wrap64 ((p2.length : Int) + 1) = ((p2 ++ [y]).length : Int) := by
      rw [w64 (by omega) (by omega)]; simp
    cases hc : hclash x y with
    | true =>
      have hR : R = false := h2 (by simp [hc])
      subst hR
      simp only [hclash, Bool.and_eq_true, decide_eq_true_eq] at hc
      refine Ev.step (f := fun _ => some false) (fun k => ?_) (Ev.now _)
      simp only [impl_IsSheet.l1, hr]
      rw [if_pos (by omega), if_pos (by omega), if_pos (by omega), if_pos (by omega), if_pos hc.2]
    | false =>
      have hi := ih (p2 ++ [y]) (by rw [he]; simp) (fun h => h1 (by simp [hc]; simpa using h)) (fun h => h2 (by rw [List.all_cons, hc]; simpa using h))
      refine Ev.step (fun k => ?_) hi
      simp only [impl_IsSheet.l1, hr]
      rw [if_pos (by omega), if_pos (by omega), if_pos (by omega), hw]
      by_cases h3 : y.f0 = x.f0
      · have h4 : ¬ y.f2 ≥ x.f1 := by simpa [hclash, h3] using hc
        rw [if_pos (by omega), if_neg h4]
      · rw [if_neg (by omega)]
theorem isheet_outer (l : List S80) (hl : l.length ≤ 1048576) : ∀ (suf pre : List S80), l = pre ++ suf → Ev (fun k => impl_IsSheet.l0 k l l (l.length : Int) (pre.length : Int)) (hgood pre suf) := by
  intro suf
  induction suf with
  | nil =>
    intro pre he
    refine Ev.step (f := fun _ => some (hgood pre [])) (fun k => ?_) (Ev.now _)
    simp only [impl_IsSheet.l0]
    rw [if_neg (by rw [he]; simp)]
    simp [hgood]
  | cons x suf ih =>
    intro pre he
    have hlen : l.length = pre.length + suf.length + 1 := by rw [he]; simp; omega
    have hr : rd_T80 l (pre.length : Int) = x := by rw [he]; exact rd80_at pre suf x
    have hw : wrap64 ((pre.length : Int) + 1) = ((pre ++ [x]).length : Int) := by
      rw [w64 (by omega) (by omega)]; simp
    have ht : l.take pre.length = pre := by rw [he]; simp
    cases hok : okH x with
    | false =>
      have e : (hgood pre (x :: suf)) = false := by simp [hgood, hstep, hok]
      rw [e]
      refine Ev.step (f := fun k => impl_IsSheet.j1 k l (pre.length : Int) l (l.length : Int) (pre.length : Int) true x.f0 x.f1 x.f2) (fun k => ?_) (Ev.step (f := fun _ => some false) (fun k => ?_) (Ev.now _))
      · simp only [impl_IsSheet.l0, hr, impl_hole, hok, Option.bind_some]
        rw [if_pos (by omega), if_pos (by omega), if_pos (by omega), if_neg (by simp)]
      · simp only [impl_IsSheet.j1]; rw [if_pos trivial]
    | true =>
      have hnext : Ev (fun k => impl_IsSheet.j1 k l (pre.length : Int) l (l.length : Int) (pre.length : Int) (!hlast pre x) x.f0 x.f1 x.f2) (hgood pre (x :: suf)) := by
        cases hla : hlast pre x with
        | false =>
          have e : (hgood pre (x :: suf)) = false := by simp [hgood, hstep, hla]
          rw [e]
          refine Ev.step (f := fun _ => some false) (fun k => ?_) (Ev.now _)
          simp only [impl_IsSheet.j1]; rw [if_pos (by simp)]
        | true =>
          refine Ev.step (fun k => ?_) (isheet_inner l pre x (pre.length : Int) (by omega) (hgood pre (x :: suf)) pre [] rfl ?_ ?_)
          · simp only [impl_IsSheet.j1]
            rw [if_neg (by simp), if_pos (by omega), if_pos (by omega)]
            simp only [Int.toNat_natCast, ht, Option.bind_some]
            rfl
          · intro hall
            have e : (hgood pre (x :: suf)) = (hgood (pre ++ [x]) suf) := by simp only [hgood, hstep, hok, hla, hall, Bool.true_and]
            rw [e, hw]
            exact ih (pre ++ [x]) (by rw [he]; simp)
          · intro hall
            simp only [hgood, hstep, hok, hla, hall]; simp
      rcases List.eq_nil_or_concat pre with hp | ⟨p, y, hp⟩
      · subst hp
        refine Ev.step (fun k => ?_) hnext
        simp only [impl_IsSheet.l0, hr, impl_hole, hok, Option.bind_some]
        rw [if_pos (by omega), if_pos (by omega), if_pos (by omega), if_pos trivial, if_neg (by simp)]
        rfl
      · rw [List.concat_eq_append] at hp
        have hw1 : wrap64 ((pre.length : Int) - 1) = (pre.length : Int) - 1 := w64 (by omega) (by omega)
        have hpl : pre.length = p.length + 1 := by rw [hp]; simp
        have hry : rd_T80 l ((pre.length : Int) - 1) = y := by rw [he, hp]; exact last80_at p y _
        have hl2 : hlast pre x = hless y x := by rw [hp]; simp [hlast]
        rw [hl2] at hnext
        refine Ev.step (fun k => ?_) hnext
        simp only [impl_IsSheet.l0, hr, impl_hole, hok, Option.bind_some]
        rw [if_pos (by omega), if_pos (by omega), if_pos (by omega), if_pos trivial, if_pos (by omega), hw1, if_pos (by omega), if_pos (by omega), hry]
        simp only [impl_hless, Option.bind_some]

theorem ssheet_inner (l pre : List S80) (x : S80) (i : Int) (hl : pre.length ≤ 1048576) (R : Bool) : ∀ (suf p2 : List S80), pre = p2 ++ suf →
    (suf.all (fun y => !hclash x y) = true → Ev (fun k => spec_shGood.l0 k l l (l.length : Int) (wrap64 (i + 1))) R) → (suf.all (fun y => !hclash x y) = false → R = false) →
    Ev (fun k => spec_shGood.l1 k l l (l.length : Int) i pre (pre.length : Int) (p2.length : Int) x.f0 x.f1 x.f2) R := by
  intro suf
  induction suf with
  | nil =>
    intro p2 he h1 _
    refine Ev.step (fun k => ?_) (h1 rfl)
    simp only [spec_shGood.l1]
    rw [if_neg (by rw [he]; simp)]
  | cons y suf ih =>
    intro p2 he h1 h2
    have hlen : pre.length = p2.length + suf.length + 1 := by rw [he]; simp; omega
    have hr : rd_T80 pre (p2.length : Int) = y := by rw [he]; exact rd80_at p2 suf y
    have hw : wrap64 ((p2.length : Int) + 1) = ((p2 ++ [y]).length : Int) := by
      rw [w64 (by omega) (by omega)]; simp
    cases hc : hclash x y with
    | true =>
      have hR : R = false := h2 (by simp [hc])
      subst hR
      simp only [hclash, Bool.and_eq_true, decide_eq_true_eq] at hc
      refine Ev.step (f := fun _ => some false) (fun k => ?_) (Ev.now _)
      simp only [spec_shGood.l1, hr]
      rw [if_pos (by omega), if_pos (by omega), if_pos (by omega), if_pos (by omega), if_pos hc.2]
    | false =>
      have hi := ih (p2 ++ [y]) (by rw [he]; simp) (fun h => h1 (by simp [hc]; simpa using h)) (fun h => h2 (by rw [List.all_cons, hc]; simpa using h))
      refine Ev.step (fun k => ?_) hi
      simp only [spec_shGood.l1, hr]
      rw [if_pos (by omega), if_pos (by omega), if_pos (by omega), hw]
      by_cases h3 : y.f0 = x.f0
      · have h4 : ¬ y.f2 ≥ x.f1 := by simpa [hclash, h3] using hc
        rw [if_pos (by omega), if_neg h4]
      · rw [if_neg (by omega)]
theorem ssheet_outer (l : List S80) (hl : l.length ≤ 1048576) : ∀ (suf pre : List S80), l = pre ++ suf → Ev (fun k => spec_shGood.l0 k l l (l.length : Int) (pre.length : Int)) (hgood pre suf && decide (l.length ≤ 60)) := by
  intro suf
  induction suf with
  | nil =>
    intro pre he
    refine Ev.step (f := fun _ => some (hgood pre [] && decide (l.length ≤ 60))) (fun k => ?_) (Ev.now _)
    simp only [spec_shGood.l0]
    rw [if_neg (by rw [he]; simp)]
    simp [hgood]; try omega
  | cons x suf ih =>
    intro pre he
    have hlen : l.length = pre.length + suf.length + 1 := by rw [he]; simp; omega
    have hr : rd_T80 l (pre.length : Int) = x := by rw [he]; exact rd80_at pre suf x
    have hw : wrap64 ((pre.length : Int) + 1) = ((pre ++ [x]).length : Int) := by
      rw [w64 (by omega) (by omega)]; simp
    have ht : l.take pre.length = pre := by rw [he]; simp
    cases hok : okH x with
    | false =>
      have e : (hgood pre (x :: suf) && decide (l.length ≤ 60)) = false := by simp [hgood, hstep, hok]
      rw [e]
      refine Ev.step (f := fun k => spec_shGood.j1 k l (pre.length : Int) l (l.length : Int) (pre.length : Int) true x.f0 x.f1 x.f2) (fun k => ?_) (Ev.step (f := fun _ => some false) (fun k => ?_) (Ev.now _))
      · simp only [spec_shGood.l0, hr, spec_hole, hok, Option.bind_some]
        rw [if_pos (by omega), if_pos (by omega), if_pos (by omega), if_neg (by simp)]
      · simp only [spec_shGood.j1]; rw [if_pos trivial]
    | true =>
      have hnext : Ev (fun k => spec_shGood.j1 k l (pre.length : Int) l (l.length : Int) (pre.length : Int) (!hlast pre x) x.f0 x.f1 x.f2) (hgood pre (x :: suf) && decide (l.length ≤ 60)) := by
        cases hla : hlast pre x with
        | false =>
          have e : (hgood pre (x :: suf) && decide (l.length ≤ 60)) = false := by simp [hgood, hstep, hla]
          rw [e]
          refine Ev.step (f := fun _ => some false) (fun k => ?_) (Ev.now _)
          simp only [spec_shGood.j1]; rw [if_pos (by simp)]
        | true =>
          refine Ev.step (fun k => ?_) (ssheet_inner l pre x (pre.length : Int) (by omega) (hgood pre (x :: suf) && decide (l.length ≤ 60)) pre [] rfl ?_ ?_)
          · simp only [spec_shGood.j1]
            rw [if_neg (by simp), if_pos (by omega), if_pos (by omega)]
            simp only [Int.toNat_natCast, ht, Option.bind_some]
            rfl
          · intro hall
            have e : (hgood pre (x :: suf) && decide (l.length ≤ 60)) = (hgood (pre ++ [x]) suf && decide (l.length ≤ 60)) := by simp only [hgood, hstep, hok, hla, hall, Bool.true_and]
            rw [e, hw]
            exact ih (pre ++ [x]) (by rw [he]; simp)
          · intro hall
            simp only [hgood, hstep, hok, hla, hall]; simp
      rcases List.eq_nil_or_concat pre with hp | ⟨p, y, hp⟩
      · subst hp
        refine Ev.step (fun k => ?_) hnext
        simp only [spec_shGood.l0, hr, spec_hole, hok, Option.bind_some]
        rw [if_pos (by omega), if_pos (by omega), if_pos (by omega), if_pos trivial, if_neg (by simp)]
        rfl
      · rw [List.concat_eq_append] at hp
        have hw1 : wrap64 ((pre.length : Int) - 1) = (pre.length : Int) - 1 := w64 (by omega) (by omega)
        have hpl : pre.length = p.length + 1 := by rw [hp]; simp
        have hry : rd_T80 l ((pre.length : Int) - 1) = y := by rw [he, hp]; exact last80_at p y _
        have hl2 : hlast pre x = hless y x := by rw [hp]; simp [hlast]
        rw [hl2] at hnext
        refine Ev.step (fun k => ?_) hnext
        simp only [spec_shGood.l0, hr, spec_hole, hok, Option.bind_some]
        rw [if_pos (by omega), if_pos (by omega), if_pos (by omega), if_pos trivial, if_pos (by omega), hw1, if_pos (by omega), if_pos (by omega), hry]
        simp only [spec_hless, Option.bind_some]

theorem isheet_ev (l : List S80) (hl : l.length ≤ 1048576) : Ev (fun k => impl_IsSheet.f k l) (sheet l) := by
  by_cases h : l.length ≤ 60
  · refine Ev.congr (fun k => ?_) (show Ev (fun k => impl_IsSheet.l0 k l l (l.length : Int) (([] : List S80).length : Int)) (sheet l) from ?_)
    · unfold impl_IsSheet.f; rw [if_neg (by omega)]; rfl
    · have := isheet_outer l hl l [] rfl
      simpa [sheet, h] using this
  · refine Ev.congr (f := fun _ => some false) (fun k => ?_) (by simpa [sheet, h] using Ev.now false)
    unfold impl_IsSheet.f; rw [if_pos (by omega)]
theorem ssheet_ev (l : List S80) (hl : l.length ≤ 1048576) : Ev (fun k => spec_shGood.f k l) (sheet l) := by
  have := ssheet_outer l hl l [] rfl
  simpa [sheet, spec_shGood.f] using this
theorem isheet_c (A : Option Addr) (c : Nat) (l : List S80) (w : World) (hr : Kd.C k80 w A l.length l) (hc : l.length ≤ c) (hl : l.length ≤ 1048576) :
    Calls Try.prog 38 #[.slice A l.length c] w fun e w' => e = .returned (.bool (sheet l)) ∧ Below w.heap.size w w' := by
  obtain ⟨k, hk⟩ := (isheet_ev l hl).rounds
  exact impl_IsSheet.calls k A c l _ w hr hc hk
theorem ssheet_c (A : Option Addr) (c : Nat) (l : List S80) (w : World) (hr : Kd.C k80 w A l.length l) (hc : l.length ≤ c) (hl : l.length ≤ 1048576) :
    Calls Try.prog 93 #[.slice A l.length c] w fun e w' => e = .returned (.bool (sheet l)) ∧ Below w.heap.size w w' := by
  obtain ⟨k, hk⟩ := (ssheet_ev l hl).rounds
  exact spec_shGood.calls k A c l _ w hr hc hk
end Go.Proofs.Ythhlmjcfhfkmdaa.Cx
