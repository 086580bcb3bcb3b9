/- Plain laws of instruments, classes, actions, tolerances. -/
import Derived.Test.YthhlmjcfhfkmdaaCyQ
import Derived.Test.YthhlmjcfhfkmdaaCyN
namespace Go.Proofs.Ythhlmjcfhfkmdaa.Cx
open Go.RowKit Go.Proofs.Ythhlmjcfhfkmdaa.PFnClassExactly Go.Proofs.YthhlmjcfhfkmdaaW.PrintWords Go.Proofs.YthhlmjcfhfkmdaaW.PrintLast
set_option linter.unusedVariables false
set_option linter.unusedSimpArgs false

theorem in_ev (a b c : Int) : spec_l1In.f a b c = some (decide (b ≤ a) && decide (a ≤ c)) := by
  unfold spec_l1In.f
  by_cases h : b ≤ a
  · rw [if_pos h]; simp [h]
  · rw [if_neg h]; simp [h]
def okP (x : Int) : Bool := decide (24 ≤ x) && decide (x ≤ 96)
theorem impl_pitch (x : Int) : impl_isPitch.f x = some (okP x) := by
  unfold impl_isPitch.f okP
  by_cases h : 24 ≤ x
  · rw [if_pos h]; simp [h]
  · rw [if_neg h]; simp [h]
def up (pre : List Int) (x : Int) : Bool := match pre.getLast? with | none => true | some y => decide (y < x)
def rise : List Int → List Int → Bool
  | _, [] => true
  | pre, x :: r => okP x && up pre x && rise (pre ++ [x]) r
def okI (x : S40) : Bool := (decide (1 ≤ x.f0.length) && decide (x.f0.length ≤ 20)) && ((decide (1 ≤ x.f1) && decide (x.f1 ≤ 20)) && rise [] x.f0)
theorem last_int (p : List Int) (y : Int) (r : List Int) : rd ((p ++ [y]) ++ r) (((p ++ [y]).length : Int) - 1) = y := by
  rw [show (((p ++ [y]).length : Int) - 1) = (p.length : Int) by simp, List.append_assoc]
  exact rd_at p r y
theorem irise_ev (l : List Int) (f1 : Int) (hl : l.length ≤ 1048576) : ∀ suf pre : List Int, l = pre ++ suf → Ev (fun k => impl_IsInstrument.l0 k l (l.length : Int) (pre.length : Int) l f1) (rise pre suf) := by
  intro suf
  induction suf with
  | nil =>
    intro pre he
    refine Ev.step (f := fun _ => some true) (fun k => ?_) (Ev.now _)
    simp only [impl_IsInstrument.l0]
    rw [if_neg (by rw [he]; simp)]
  | cons x suf ih =>
    intro pre he
    have hlen : l.length = pre.length + suf.length + 1 := by rw [he]; simp; omega
    have hr : rd l (pre.length : Int) = x := by rw [he]; exact rd_at pre suf x
    have hw : wrap64 ((pre.length : Int) + 1) = ((pre ++ [x]).length : Int) := by
      rw [w64 (by omega) (by omega)]; simp
    have hi := ih (pre ++ [x]) (by rw [he]; simp)
    cases hp : okP x with
    | false =>
      have e : rise pre (x :: suf) = false := by simp [rise, hp]
      rw [e]
      refine Ev.step (f := fun _ => some false) (fun k => ?_) (Ev.now _)
      simp only [impl_IsInstrument.l0, hr, impl_pitch, hp, Option.bind_some]
      rw [if_pos (by omega), if_pos (by omega), if_pos (by omega), if_neg (by simp)]
    | true =>
      rcases List.eq_nil_or_concat pre with hq | ⟨p, y, hq⟩
      · subst hq
        have e : rise [] (x :: suf) = rise ([] ++ [x]) suf := by simp [rise, hp, up]
        rw [e]
        refine Ev.step (fun k => ?_) hi
        simp only [impl_IsInstrument.l0, hr, impl_pitch, hp, Option.bind_some]
        rw [if_pos (by omega), if_pos (by omega), if_pos (by omega), if_pos trivial, if_neg (by simp), hw]
      · rw [List.concat_eq_append] at hq
        have hw1 : wrap64 ((pre.length : Int) - 1) = (pre.length : Int) - 1 := w64 (by omega) (by omega)
        have hpl : pre.length = p.length + 1 := by rw [hq]; simp
        have hry : rd l ((pre.length : Int) - 1) = y := by rw [he, hq]; exact last_int p y _
        have hu : up pre x = decide (y < x) := by rw [hq]; simp [up]
        by_cases h2 : y < x
        · have e : rise pre (x :: suf) = rise (pre ++ [x]) suf := by simp [rise, hp, hu, h2]
          rw [e]
          refine Ev.step (fun k => ?_) hi
          simp only [impl_IsInstrument.l0, hr, impl_pitch, hp, Option.bind_some]
          rw [if_pos (by omega), if_pos (by omega), if_pos (by omega), if_pos trivial, if_pos (by omega), hw1, if_pos (by omega), if_pos (by omega), hry, if_neg (by omega), hw]
        · have e : rise pre (x :: suf) = false := by simp [rise, hp, hu, h2]
          rw [e]
          refine Ev.step (f := fun _ => some false) (fun k => ?_) (Ev.now _)
          simp only [impl_IsInstrument.l0, hr, impl_pitch, hp, Option.bind_some]
          rw [if_pos (by omega), if_pos (by omega), if_pos (by omega), if_pos trivial, if_pos (by omega), hw1, if_pos (by omega), if_pos (by omega), hry, if_pos (by omega)]
theorem iinst_ev (x : S40) : Ev (fun k => impl_IsInstrument.f k x.f0 x.f1) (okI x) := by
  have hf : Ev (fun k => impl_IsInstrument.j0 k true x.f0 x.f1) false := Ev.step (f := fun _ => some false) (fun k => by simp only [impl_IsInstrument.j0]; rw [if_pos trivial]) (Ev.now _)
  by_cases h1 : x.f0.length < 1
  · refine Ev.congr (fun k => ?_) (show Ev (fun k => impl_IsInstrument.j0 k true x.f0 x.f1) (okI x) from ?_)
    · unfold impl_IsInstrument.f; rw [if_pos (by omega)]
    · rw [show okI x = false by simp [okI]; omega]; exact hf
  · by_cases h2 : x.f0.length > 20
    · refine Ev.congr (fun k => ?_) (show Ev (fun k => impl_IsInstrument.j0 k true x.f0 x.f1) (okI x) from ?_)
      · unfold impl_IsInstrument.f; rw [if_neg (by omega), if_pos (by omega)]
      · rw [show okI x = false by simp [okI]; omega]; exact hf
    · by_cases h3 : x.f1 < 1
      · refine Ev.congr (fun k => ?_) (show Ev (fun k => impl_IsInstrument.j0 k true x.f0 x.f1) (okI x) from ?_)
        · unfold impl_IsInstrument.f; rw [if_neg (by omega), if_neg (by omega), if_pos h3]
        · rw [show okI x = false by simp [okI]; omega]; exact hf
      · by_cases h4 : x.f1 > 20
        · refine Ev.congr (fun k => ?_) (show Ev (fun k => impl_IsInstrument.j0 k true x.f0 x.f1) (okI x) from ?_)
          · unfold impl_IsInstrument.f; rw [if_neg (by omega), if_neg (by omega), if_neg h3, decide_eq_true h4]
          · rw [show okI x = false by simp [okI]; omega]; exact hf
        · refine Ev.congr (fun k => ?_) (show Ev (fun k => impl_IsInstrument.j0 k false x.f0 x.f1) (okI x) from ?_)
          · unfold impl_IsInstrument.f; rw [if_neg (by omega), if_neg (by omega), if_neg h3, decide_eq_false h4]
          · rw [show okI x = rise [] x.f0 by simp only [okI]; rw [decide_eq_true (by omega), decide_eq_true (by omega), decide_eq_true (by omega), decide_eq_true (by omega)]; simp]
            refine Ev.step (fun k => ?_) (irise_ev x.f0 x.f1 (by omega) x.f0 [] rfl)
            simp only [impl_IsInstrument.j0]; rw [if_neg (by simp)]; rfl
theorem srise_ev (l : List Int) (hl : l.length ≤ 1048576) : ∀ suf pre : List Int, l = pre ++ suf → Ev (fun k => spec_l1Rising.l0 k l 24 96 l (l.length : Int) (pre.length : Int)) (rise pre suf) := by
  intro suf
  induction suf with
  | nil =>
    intro pre he
    refine Ev.step (f := fun _ => some true) (fun k => ?_) (Ev.now _)
    simp only [spec_l1Rising.l0]
    rw [if_neg (by rw [he]; simp)]
  | cons x suf ih =>
    intro pre he
    have hlen : l.length = pre.length + suf.length + 1 := by rw [he]; simp; omega
    have hr : rd l (pre.length : Int) = x := by rw [he]; exact rd_at pre suf x
    have hw : wrap64 ((pre.length : Int) + 1) = ((pre ++ [x]).length : Int) := by
      rw [w64 (by omega) (by omega)]; simp
    have hi := ih (pre ++ [x]) (by rw [he]; simp)
    have hin : spec_l1In.f x 24 96 = some (okP x) := in_ev _ _ _
    cases hp : okP x with
    | false =>
      have e : rise pre (x :: suf) = false := by simp [rise, hp]
      rw [e]
      refine Ev.step (f := fun _ => some false) (fun k => ?_) (Ev.now _)
      simp only [spec_l1Rising.l0, hr, hin, hp, Option.bind_some]
      rw [if_pos (by omega), if_pos (by omega), if_pos (by omega), if_neg (by simp)]
    | true =>
      rcases List.eq_nil_or_concat pre with hq | ⟨p, y, hq⟩
      · subst hq
        have e : rise [] (x :: suf) = rise ([] ++ [x]) suf := by simp [rise, hp, up]
        rw [e]
        refine Ev.step (fun k => ?_) hi
        simp only [spec_l1Rising.l0, hr, hin, hp, Option.bind_some]
        rw [if_pos (by omega), if_pos (by omega), if_pos (by omega), if_pos trivial, if_neg (by simp), hw]
      · rw [List.concat_eq_append] at hq
        have hw1 : wrap64 ((pre.length : Int) - 1) = (pre.length : Int) - 1 := w64 (by omega) (by omega)
        have hpl : pre.length = p.length + 1 := by rw [hq]; simp
        have hry : rd l ((pre.length : Int) - 1) = y := by rw [he, hq]; exact last_int p y _
        have hu : up pre x = decide (y < x) := by rw [hq]; simp [up]
        by_cases h2 : y < x
        · have e : rise pre (x :: suf) = rise (pre ++ [x]) suf := by simp [rise, hp, hu, h2]
          rw [e]
          refine Ev.step (fun k => ?_) hi
          simp only [spec_l1Rising.l0, hr, hin, hp, Option.bind_some]
          rw [if_pos (by omega), if_pos (by omega), if_pos (by omega), if_pos trivial, if_pos (by omega), hw1, if_pos (by omega), if_pos (by omega), hry, if_neg (by omega), hw]
        · have e : rise pre (x :: suf) = false := by simp [rise, hp, hu, h2]
          rw [e]
          refine Ev.step (f := fun _ => some false) (fun k => ?_) (Ev.now _)
          simp only [spec_l1Rising.l0, hr, hin, hp, Option.bind_some]
          rw [if_pos (by omega), if_pos (by omega), if_pos (by omega), if_pos trivial, if_pos (by omega), hw1, if_pos (by omega), if_pos (by omega), hry, if_pos (by omega)]
theorem sinst_ev (x : S40) : Ev (fun k => spec_inGood.f k x.f0 x.f1) (okI x) := by
  by_cases h1 : 1 ≤ x.f0.length ∧ x.f0.length ≤ 20
  · have hr : Ev (fun k => spec_l1Rising.f k x.f0 24 96) (rise [] x.f0) := srise_ev x.f0 (by omega) x.f0 [] rfl
    refine Ev.congr (f := fun k => (spec_l1Rising.f k x.f0 24 96).bind fun t => if t = true then some (decide (1 ≤ x.f1) && decide (x.f1 ≤ 20)) else some false) (fun k => ?_) (Ev.bind hr ?_)
    · unfold spec_inGood.f
      simp only [in_ev, Option.bind_some]
      rw [if_pos (by simp; omega)]
    · have e : okI x = (rise [] x.f0 && (decide (1 ≤ x.f1) && decide (x.f1 ≤ 20))) := by
        simp only [okI]; rw [decide_eq_true h1.1, decide_eq_true h1.2]; simp [Bool.and_comm]
      rw [e]
      cases rise [] x.f0 with
      | true => exact Ev.congr (f := fun _ => some (decide (1 ≤ x.f1) && decide (x.f1 ≤ 20))) (fun k => by rw [if_pos rfl]) (by simpa using Ev.now _)
      | false => exact Ev.congr (f := fun _ => some false) (fun k => by rw [if_neg (by simp)]) (by simpa using Ev.now false)
  · have e : okI x = false := by simp [okI]; omega
    rw [e]
    refine Ev.congr (f := fun _ => some false) (fun k => ?_) (Ev.now _)
    unfold spec_inGood.f
    simp only [in_ev, Option.bind_some]
    rw [if_neg (by simp; omega)]

theorem rd40_at (pre suf : List S40) (x : S40) : rd_T40 (pre ++ x :: suf) (pre.length : Int) = x := by simp [rd_T40]
def cls (l : List S40) : Bool := l.all okI && (decide (1 ≤ l.length) && decide (l.length ≤ 6))
theorem icls_ev (l : List S40) (hl : l.length ≤ 1048576) : Ev (fun k => impl_isClass.f k l) (cls l) := by
  have key : ∀ suf pre : List S40, l = pre ++ suf → Ev (fun k => impl_isClass.l0 k l l (l.length : Int) (pre.length : Int)) (suf.all okI && (decide (1 ≤ l.length) && decide (l.length ≤ 6))) := by
    intro suf
    induction suf with
    | nil =>
      intro pre he
      refine Ev.step (f := fun _ => some (decide (1 ≤ l.length) && decide (l.length ≤ 6))) (fun k => ?_) (by simpa using Ev.now _)
      simp only [impl_isClass.l0]
      rw [if_neg (by rw [he]; simp)]
      by_cases h : (l.length : Int) ≥ 1
      · rw [if_pos h, decide_eq_true (show 1 ≤ l.length by omega)]; simp; omega
      · rw [if_neg h, decide_eq_false (show ¬ 1 ≤ l.length by omega)]; simp
    | cons x suf ih =>
      intro pre he
      have hlen : l.length = pre.length + suf.length + 1 := by rw [he]; simp; omega
      have hr : rd_T40 l (pre.length : Int) = x := by rw [he]; exact rd40_at pre suf x
      have hw : wrap64 ((pre.length : Int) + 1) = ((pre ++ [x]).length : Int) := by
        rw [w64 (by omega) (by omega)]; simp
      have hi := ih (pre ++ [x]) (by rw [he]; simp)
      refine Ev.step (f := fun k => (impl_IsInstrument.f k x.f0 x.f1).bind fun t => if t = true then impl_isClass.l0 k l l (l.length : Int) ((pre ++ [x]).length : Int) else some false) (fun k => ?_) (Ev.bind (iinst_ev x) ?_)
      · simp only [impl_isClass.l0, hr]
        rw [if_pos (by omega), if_pos (by omega), if_pos (by omega), hw]
      · rw [List.all_cons]
        cases okI x with
        | true => exact Ev.congr (fun k => by rw [if_pos rfl]) (by simpa using hi)
        | false => exact Ev.congr (f := fun _ => some false) (fun k => by rw [if_neg (by simp)]) (by simpa using Ev.now false)
  exact key l [] rfl
theorem scls_ev (l : List S40) (hl : l.length ≤ 1048576) : Ev (fun k => spec_clGood.f k l) (cls l) := by
  have key : ∀ suf pre : List S40, l = pre ++ suf → Ev (fun k => spec_clGood.l0 k l l (l.length : Int) (pre.length : Int)) (suf.all okI && (decide (1 ≤ l.length) && decide (l.length ≤ 6))) := by
    intro suf
    induction suf with
    | nil =>
      intro pre he
      refine Ev.step (f := fun _ => some (decide (1 ≤ l.length) && decide (l.length ≤ 6))) (fun k => ?_) (by simpa using Ev.now _)
      simp only [spec_clGood.l0, in_ev, Option.bind_some]
      rw [if_neg (by rw [he]; simp)]
      congr 1
      rw [Bool.eq_iff_iff]; simp; omega
    | cons x suf ih =>
      intro pre he
      have hlen : l.length = pre.length + suf.length + 1 := by rw [he]; simp; omega
      have hr : rd_T40 l (pre.length : Int) = x := by rw [he]; exact rd40_at pre suf x
      have hw : wrap64 ((pre.length : Int) + 1) = ((pre ++ [x]).length : Int) := by
        rw [w64 (by omega) (by omega)]; simp
      have hi := ih (pre ++ [x]) (by rw [he]; simp)
      refine Ev.step (f := fun k => (spec_inGood.f k x.f0 x.f1).bind fun t => if t = true then spec_clGood.l0 k l l (l.length : Int) ((pre ++ [x]).length : Int) else some false) (fun k => ?_) (Ev.bind (sinst_ev x) ?_)
      · simp only [spec_clGood.l0, hr]
        rw [if_pos (by omega), if_pos (by omega), if_pos (by omega), hw]
      · rw [List.all_cons]
        cases okI x with
        | true => exact Ev.congr (fun k => by rw [if_pos rfl]) (by simpa using hi)
        | false => exact Ev.congr (f := fun _ => some false) (fun k => by rw [if_neg (by simp)]) (by simpa using Ev.now false)
  exact key l [] rfl
theorem icls_c (A : Option Addr) (c : Nat) (l : List S40) (w : World) (hr : Kd.C k40 w A l.length l) (hc : l.length ≤ c) (hl : l.length ≤ 1048576) :
    Calls Try.prog 37 #[.slice A l.length c] w fun e w' => e = .returned (.bool (cls l)) ∧ Below w.heap.size w w' := by
  obtain ⟨k, hk⟩ := (icls_ev l hl).rounds
  exact impl_isClass.calls k A c l _ w hr hc hk
theorem scls_c (A : Option Addr) (c : Nat) (l : List S40) (w : World) (hr : Kd.C k40 w A l.length l) (hc : l.length ≤ c) (hl : l.length ≤ 1048576) :
    Calls Try.prog 42 #[.slice A l.length c] w fun e w' => e = .returned (.bool (cls l)) ∧ Below w.heap.size w w' := by
  obtain ⟨k, hk⟩ := (scls_ev l hl).rounds
  exact spec_clGood.calls k A c l _ w hr hc hk
end Go.Proofs.Ythhlmjcfhfkmdaa.Cx
