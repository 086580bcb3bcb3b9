/- Contracts of small functions: instruments, actions, tolerances, tracks. -/
import Derived.Test.YthhlmjcfhfkmdaaCyI
namespace Go.Proofs.Ythhlmjcfhfkmdaa.Cx
open Go.RowKit Go.Proofs.Ythhlmjcfhfkmdaa.PFnClassExactly Go.Proofs.YthhlmjcfhfkmdaaW.PrintWords Go.Proofs.YthhlmjcfhfkmdaaW.PrintLast
set_option linter.unusedVariables false
set_option linter.unusedSimpArgs false

theorem iinst_c (A : Option Addr) (c : Nat) (x : S40) (w : World) (hr : Kd.C (Kd.int .i64) w A x.f0.length x.f0) (hc : x.f0.length ≤ c) :
    Calls Try.prog 60 #[.agg #[.slice A x.f0.length c, .int .i64 x.f1]] w fun e w' => e = .returned (.bool (okI x)) ∧ Below w.heap.size w w' := by
  obtain ⟨k, hk⟩ := (iinst_ev x).rounds
  exact impl_IsInstrument.calls k A c x.f0 x.f1 _ w hr hc hk
theorem sinst_c (A : Option Addr) (c : Nat) (x : S40) (w : World) (hr : Kd.C (Kd.int .i64) w A x.f0.length x.f0) (hc : x.f0.length ≤ c) :
    Calls Try.prog 69 #[.agg #[.slice A x.f0.length c, .int .i64 x.f1]] w fun e w' => e = .returned (.bool (okI x)) ∧ Below w.heap.size w w' := by
  obtain ⟨k, hk⟩ := (sinst_ev x).rounds
  exact spec_inGood.calls k A c x.f0 x.f1 _ w hr hc hk
def okA (a0 a1 a2 : Int) : Bool := (decide (0 ≤ a0) && decide (a0 ≤ 40)) && ((decide (0 ≤ a1) && decide (a1 ≤ 40)) && (decide (0 ≤ a2) && decide (a2 ≤ 40)))
theorem iact_c (a0 a1 a2 : Int) (w : World) : Calls Try.prog 39 #[.agg #[.int .i64 a0, .int .i64 a1, .int .i64 a2]] w fun e w' => e = .returned (.bool (okA a0 a1 a2)) ∧ Below w.heap.size w w' := by
  refine impl_IsAction.calls a0 a1 a2 _ w ?_
  unfold impl_IsAction.f okA
  by_cases h1 : a0 ≥ 0
  · by_cases h2 : a0 ≤ 40
    · by_cases h3 : a1 ≥ 0
      · by_cases h4 : a1 ≤ 40
        · by_cases h5 : a2 ≥ 0 <;> simp [h1, h2, h3, h4, h5] <;> omega
        · simp [h1, h2, h3, h4]
      · simp [h1, h2, h3]
    · simp [h1, h2]
  · simp [h1]
theorem sact_c (a0 a1 a2 : Int) (w : World) : Calls Try.prog 72 #[.agg #[.int .i64 a0, .int .i64 a1, .int .i64 a2]] w fun e w' => e = .returned (.bool (okA a0 a1 a2)) ∧ Below w.heap.size w w' := by
  refine spec_pyAction.calls a0 a1 a2 _ w ?_
  unfold spec_pyAction.f okA
  simp only [in_ev, Option.bind_some]
  cases (decide (0 ≤ a0) && decide (a0 ≤ 40)) <;> cases (decide (0 ≤ a1) && decide (a1 ≤ 40)) <;> simp
def okT (m : Int) : Bool := decide (0 ≤ m) && decide (m ≤ 50)
theorem itol_c (m : Int) (w : World) : Calls Try.prog 40 #[.int .i64 m] w fun e w' => e = .returned (.bool (okT m)) ∧ Below w.heap.size w w' := by
  refine (impl_isTolerance.calls m _ w ?_).mono fun e w' ⟨h1, h2⟩ => ⟨h1, drawn_below h2⟩
  unfold impl_isTolerance.f okT
  by_cases h : m ≥ 0 <;> simp [h] <;> omega
theorem stol_c (m : Int) (w : World) : Calls Try.prog 73 #[.int .i64 m] w fun e w' => e = .returned (.bool (okT m)) ∧ Below w.heap.size w w' := by
  refine (spec_vfMost.calls m _ w ?_).mono fun e w' ⟨h1, h2⟩ => ⟨h1, drawn_below h2⟩
  unfold spec_vfMost.f okT
  simp only [in_ev, Option.bind_some]
/-- The first place of a number, or -1. -/
def idxTo (p : Int) : Int → List Int → Int
  | _, [] => -1
  | i, x :: r => if x = p then i else idxTo p (i + 1) r
def idx (l : List Int) (p : Int) : Int := idxTo p 0 l
theorem idx_ev (l : List Int) (hl : l.length ≤ 1048576) (p : Int) : Ev (fun k => slices_Index_int_int.f k l p) (idx l p) := by
  have key : ∀ suf pre : List Int, l = pre ++ suf → Ev (fun k => slices_Index_int_int.l0 k l p (l.length : Int) (pre.length : Int)) (idxTo p (pre.length : Int) suf) := by
    intro suf
    induction suf with
    | nil =>
      intro pre he
      refine Ev.step (f := fun _ => some (-1)) (fun k => ?_) (Ev.now _)
      simp only [slices_Index_int_int.l0]
      rw [if_neg (by rw [he]; simp)]
    | cons x suf ih =>
      intro pre he
      have hlen : l.length = pre.length + suf.length + 1 := by rw [he]; simp; omega
      have hr : rd l (pre.length : Int) = x := by rw [he]; exact rd_at pre suf x
      have hw : wrap64 ((pre.length : Int) + 1) = ((pre ++ [x]).length : Int) := by
        rw [w64 (by omega) (by omega)]; simp
      have hi := ih (pre ++ [x]) (by rw [he]; simp)
      by_cases hc : x = p
      · rw [show idxTo p (pre.length : Int) (x :: suf) = (pre.length : Int) by simp [idxTo, hc]]
        refine Ev.step (f := fun _ => some (pre.length : Int)) (fun k => ?_) (Ev.now _)
        simp only [slices_Index_int_int.l0, hr]
        rw [if_pos (by omega), if_pos (by omega), if_pos (by omega), if_pos hc.symm]
      · rw [show idxTo p (pre.length : Int) (x :: suf) = idxTo p ((pre ++ [x]).length : Int) suf by simp [idxTo, hc]]
        refine Ev.step (fun k => ?_) hi
        simp only [slices_Index_int_int.l0, hr]
        rw [if_pos (by omega), if_pos (by omega), if_pos (by omega), if_neg (Ne.symm hc), hw]
  exact key l [] rfl
theorem idx_c (A : Option Addr) (c : Nat) (l : List Int) (p : Int) (w : World) (hr : Kd.C (Kd.int .i64) w A l.length l) (hc : l.length ≤ c) (hl : l.length ≤ 1048576) :
    Calls Try.prog 87 #[.slice A l.length c, .int .i64 p] w fun e w' => e = .returned (.int .i64 (idx l p)) ∧ Below w.heap.size w w' := by
  obtain ⟨k, hk⟩ := (idx_ev l hl p).rounds
  exact (slices_Index_int_int.calls k A c l p _ w hr hc hk).mono fun e w' ⟨h1, h2⟩ => ⟨h1, drawn_below h2⟩
theorem track_ev (l : List Int) (f1 : Int) (hl : l.length ≤ 1048576) (p : Int) : Ev (fun k => spec_inTrack.f k l f1 p) (idx l p) := by
  have key : ∀ suf pre : List Int, l = pre ++ suf → Ev (fun k => spec_inTrack.l0 k p l (l.length : Int) (pre.length : Int)) (idxTo p (pre.length : Int) suf) := by
    intro suf
    induction suf with
    | nil =>
      intro pre he
      refine Ev.step (f := fun _ => some (-1)) (fun k => ?_) (Ev.now _)
      simp only [spec_inTrack.l0]
      rw [if_neg (by rw [he]; simp)]
    | cons x suf ih =>
      intro pre he
      have hlen : l.length = pre.length + suf.length + 1 := by rw [he]; simp; omega
      have hr : rd l (pre.length : Int) = x := by rw [he]; exact rd_at pre suf x
      have hw : wrap64 ((pre.length : Int) + 1) = ((pre ++ [x]).length : Int) := by
        rw [w64 (by omega) (by omega)]; simp
      have hi := ih (pre ++ [x]) (by rw [he]; simp)
      by_cases hc : x = p
      · rw [show idxTo p (pre.length : Int) (x :: suf) = (pre.length : Int) by simp [idxTo, hc]]
        refine Ev.step (f := fun _ => some (pre.length : Int)) (fun k => ?_) (Ev.now _)
        simp only [spec_inTrack.l0, hr]
        rw [if_pos (by omega), if_pos (by omega), if_pos (by omega), if_pos hc]
      · rw [show idxTo p (pre.length : Int) (x :: suf) = idxTo p ((pre ++ [x]).length : Int) suf by simp [idxTo, hc]]
        refine Ev.step (fun k => ?_) hi
        simp only [spec_inTrack.l0, hr]
        rw [if_pos (by omega), if_pos (by omega), if_pos (by omega), if_neg hc, hw]
  exact key l [] rfl
theorem track_c (A : Option Addr) (c : Nat) (x : S40) (p : Int) (w : World) (hr : Kd.C (Kd.int .i64) w A x.f0.length x.f0) (hc : x.f0.length ≤ c) (hl : x.f0.length ≤ 1048576) :
    Calls Try.prog 94 #[.agg #[.slice A x.f0.length c, .int .i64 x.f1], .int .i64 p] w fun e w' => e = .returned (.int .i64 (idx x.f0 p)) ∧ Below w.heap.size w w' := by
  obtain ⟨k, hk⟩ := (track_ev x.f0 x.f1 hl p).rounds
  exact spec_inTrack.calls k A c x.f0 x.f1 p _ w hr hc hk
theorem idxTo_bd (p : Int) : ∀ (l : List Int) (i : Int), idxTo p i l = -1 ∨ (i ≤ idxTo p i l ∧ idxTo p i l < i + l.length)
  | [], i => .inl rfl
  | x :: r, i => by
    unfold idxTo
    split
    · exact .inr ⟨by omega, by simp; omega⟩
    · rcases idxTo_bd p r (i + 1) with h | h
      · exact .inl h
      · refine .inr ⟨by omega, ?_⟩
        have := h.2
        simp only [List.length_cons]; omega
/-- What matching comes to: the first free hole on a track. -/
def pickTo (t : Int) : Int → List S80 → List Bool → Int
  | i, x :: r, u :: v => if x.f0 = t ∧ u = false then i else pickTo t (i + 1) r v
  | _, _, _ => -1
def useAt (used : List Bool) (i : Int) : List Bool := if 0 ≤ i then used.set i.toNat true else used
/-- For each note its hole, or -1; and the holes that are used. -/
def matchTo (ps : List Int) (sheet : List S80) : List S58 → List Bool → List Int × List Bool
  | [], used => ([], used)
  | x :: r, used => ((pickTo (idx ps x.f0) 0 sheet used) :: (matchTo ps sheet r (useAt used (pickTo (idx ps x.f0) 0 sheet used))).1, (matchTo ps sheet r (useAt used (pickTo (idx ps x.f0) 0 sheet used))).2)
end Go.Proofs.Ythhlmjcfhfkmdaa.Cx
