/- Plain laws of small functions: notes, their order, scores. -/
import Derived.Test.YthhlmjcfhfkmdaaYw
namespace Go.Proofs.Ythhlmjcfhfkmdaa.Cx
open Go.RowKit Go.Proofs.Ythhlmjcfhfkmdaa.PFnClassExactly Go.Proofs.YthhlmjcfhfkmdaaW.PrintWords Go.Proofs.YthhlmjcfhfkmdaaW.PrintLast
set_option linter.unusedVariables false
set_option linter.unusedSimpArgs false

theorem w64 {x : Int} (h0 : -9223372036854775808 ≤ x) (h1 : x ≤ 9223372036854775807) : wrap64 x = x := by
  unfold wrap64; omega

theorem rd58_at (pre suf : List S58) (x : S58) : rd_T58 (pre ++ x :: suf) (pre.length : Int) = x := by
  simp [rd_T58]
theorem rd_at (pre suf : List Int) (x : Int) : rd (pre ++ x :: suf) (pre.length : Int) = x := by
  simp [rd]
/-- A note is valid. -/
def okNote (p s l : Int) : Bool := decide (24 ≤ p) && decide (p ≤ 96) && decide (0 ≤ s) && decide (s ≤ 999) && decide (1 ≤ l) && decide (l ≤ 99)
theorem spec_note (p s l : Int) : spec_ntNote.f p s l = some (okNote p s l) := by
  unfold spec_ntNote.f spec_ntPitch.f spec_l1In.f okNote
  by_cases h1 : 24 ≤ p <;> by_cases h2 : p ≤ 96 <;> by_cases h3 : 0 ≤ s <;> by_cases h4 : s ≤ 999 <;> by_cases h5 : 1 ≤ l <;> by_cases h6 : l ≤ 99 <;> simp [h1, h2, h3, h4, h5, h6]
theorem impl_note (p s l : Int) : impl_IsNote.f p s l = some (okNote p s l) := by
  unfold impl_IsNote.f okNote
  by_cases h1 : 24 ≤ p <;> by_cases h2 : p ≤ 96 <;> by_cases h3 : 0 ≤ s <;> by_cases h4 : s ≤ 999 <;> by_cases h5 : 1 ≤ l <;> by_cases h6 : l ≤ 99 <;> simp [h1, h2, h3, h4, h5, h6]
/-- A note comes before another one. -/
def before (a b : S58) : Bool := decide (a.f1 < b.f1) || (decide (a.f1 = b.f1) && decide (a.f0 < b.f0))
theorem spec_before (a b : S58) : spec_ntBefore.f a.f0 a.f1 a.f2 b.f0 b.f1 b.f2 = some (before a b) := by
  unfold spec_ntBefore.f before
  by_cases h1 : a.f1 < b.f1
  · simp [h1]
  · by_cases h2 : a.f1 = b.f1 <;> simp [h1, h2]
theorem impl_before (a b : S58) : impl_noteLess.f a.f0 a.f1 a.f2 b.f0 b.f1 b.f2 = some (before a b) := by
  unfold impl_noteLess.f before
  by_cases h2 : a.f1 = b.f1
  · have h1 : ¬ a.f1 < b.f1 := by omega
    simp [h1, h2]
  · by_cases h1 : a.f1 < b.f1 <;> simp [h1, h2]

def okN (x : S58) : Bool := okNote x.f0 x.f1 x.f2
theorem okN_bd {x : S58} (h : okN x = true) : 24 ≤ x.f0 ∧ x.f0 ≤ 96 ∧ 0 ≤ x.f1 ∧ x.f1 ≤ 999 ∧ 1 ≤ x.f2 ∧ x.f2 ≤ 99 := by
  simp [okN, okNote] at h; omega
/-- y, an earlier note, still sounds when x of the same pitch begins. -/
def clash (x y : S58) : Bool := decide (y.f0 = x.f0) && decide (y.f1 + y.f2 > x.f1)
/-- The beginning 'pre' is in order and valid. -/
def goodStep (pre : List S58) (x : S58) : Bool := okN x && (match pre.getLast? with | none => true | some y => before y x) && pre.all (fun y => !clash x y)
def goodTo : List S58 → List S58 → Bool
  | _, [] => true
  | pre, x :: r => goodStep pre x && goodTo (pre ++ [x]) r
def score (l : List S58) : Bool := goodTo [] l && decide (l.length ≤ 30)
/-- What is known of a good beginning. -/
def Good (pre : List S58) : Prop := (∀ y ∈ pre, okN y = true) ∧ ∀ z, pre.getLast? = some z → ∀ y ∈ pre, y.f1 ≤ z.f1
theorem before_le {a b : S58} (h : before a b = true) : a.f1 ≤ b.f1 := by
  simp [before] at h; omega
theorem Good.nil : Good [] := ⟨fun _ h => by simp at h, fun _ h => by simp at h⟩
theorem good_snoc {pre : List S58} {x : S58} (h : Good pre) (hs : goodStep pre x = true) : Good (pre ++ [x]) ∧ ∀ y ∈ pre, y.f1 ≤ x.f1 := by
  simp only [goodStep, Bool.and_eq_true] at hs
  obtain ⟨⟨h1, h2⟩, h3⟩ := hs
  have hle : ∀ y ∈ pre, y.f1 ≤ x.f1 := by
    intro y hy
    cases hz : pre.getLast? with
    | none => rw [List.getLast?_eq_none_iff] at hz; subst hz; simp at hy
    | some z =>
      rw [hz] at h2
      have := h.2 z hz y hy
      have := before_le h2
      omega
  refine ⟨⟨?_, ?_⟩, hle⟩
  · intro y hy
    rcases List.mem_append.1 hy with hy | hy
    · exact h.1 y hy
    · rw [List.mem_singleton.1 hy]; exact h1
  · intro z hz y hy
    simp at hz; subst hz
    rcases List.mem_append.1 hy with hy | hy
    · exact hle y hy
    · rw [List.mem_singleton.1 hy]; exact Int.le_refl _
theorem last_at (p : List S58) (y : S58) (r : List S58) : rd_T58 ((p ++ [y]) ++ r) (((p ++ [y]).length : Int) - 1) = y := by
  have : (((p ++ [y]).length : Int) - 1) = (p.length : Int) := by simp
  rw [this, List.append_assoc]; exact rd58_at p r y

def lastOk (pre : List S58) (x : S58) : Bool := match pre.getLast? with | none => true | some y => before y x
theorem wp_world {P : Program} {c : Code} {Q : Exit → Act → World → Prop} {a : Act} {w : World} (F : World → Prop) (hf : F w) (h : ∀ w', F w' → Code.wp P c Q a w') : Code.wp P c Q a w := h w hf
theorem drawn_below {w w1 : World} (h : Drawn0 w w1) : Below w.heap.size w w1 := by
  obtain ⟨m, rfl⟩ := h
  exact pw_below_drewN (Below.refl _ _) m
theorem below_on {B : Nat} {W w w1 : World} (h : Below B W w) (hB : B ≤ w.heap.size) (k : Below w.heap.size w w1) : Below B W w1 := h.trans (k.mono hB)
theorem inote_c (x : S58) (w : World) : Calls Try.prog 53 #[.agg #[.int .i64 x.f0, .int .i64 x.f1, .int .i64 x.f2]] w fun e w' => e = .returned (.bool (okN x)) ∧ Below w.heap.size w w' :=
  impl_IsNote.calls x.f0 x.f1 x.f2 _ w (impl_note _ _ _)
theorem snote_c (x : S58) (w : World) : Calls Try.prog 81 #[.agg #[.int .i64 x.f0, .int .i64 x.f1, .int .i64 x.f2]] w fun e w' => e = .returned (.bool (okN x)) ∧ Below w.heap.size w w' :=
  spec_ntNote.calls x.f0 x.f1 x.f2 _ w (spec_note _ _ _)
theorem iless_c (x y : S58) (w : World) : Calls Try.prog 54 #[.agg #[.int .i64 x.f0, .int .i64 x.f1, .int .i64 x.f2], .agg #[.int .i64 y.f0, .int .i64 y.f1, .int .i64 y.f2]] w fun e w' => e = .returned (.bool (before x y)) ∧ Below w.heap.size w w' :=
  impl_noteLess.calls _ _ _ _ _ _ _ w (impl_before _ _)
theorem sless_c (x y : S58) (w : World) : Calls Try.prog 82 #[.agg #[.int .i64 x.f0, .int .i64 x.f1, .int .i64 x.f2], .agg #[.int .i64 y.f0, .int .i64 y.f1, .int .i64 y.f2]] w fun e w' => e = .returned (.bool (before x y)) ∧ Below w.heap.size w w' :=
  spec_ntBefore.calls _ _ _ _ _ _ _ w (spec_before _ _)
theorem end_c (x : S58) (hx : okN x = true) (w : World) : Calls Try.prog 55 #[.agg #[.int .i64 x.f0, .int .i64 x.f1, .int .i64 x.f2]] w fun e w' => e = .returned (.int .i64 (x.f1 + x.f2)) ∧ Below w.heap.size w w' := by
  have := okN_bd hx
  exact impl_noteEnd.calls _ _ _ _ w (by unfold impl_noteEnd.f; rw [w64 (by omega) (by omega)])
/-- Two notes meet, if the first does not begin ahead of the second. -/
theorem meet_c (x y : S58) (hx : okN x = true) (hy : okN y = true) (h : y.f1 ≤ x.f1) (w : World) : Calls Try.prog 83 #[.agg #[.int .i64 x.f0, .int .i64 x.f1, .int .i64 x.f2], .agg #[.int .i64 y.f0, .int .i64 y.f1, .int .i64 y.f2]] w fun e w' => e = .returned (.bool (clash x y)) ∧ Below w.heap.size w w' := by
  have b1 := okN_bd hx
  have b2 := okN_bd hy
  refine spec_ntMeet.calls _ _ _ _ _ _ _ w ?_
  unfold spec_ntMeet.f clash
  rw [w64 (by omega) (by omega), w64 (by omega) (by omega)]
  by_cases h1 : x.f0 = y.f0
  · rw [if_pos h1]
    by_cases h2 : x.f1 < y.f1 + y.f2
    · rw [if_pos h2]; simp [h1]; omega
    · rw [if_neg h2]; simp [h1]; omega
  · rw [if_neg h1]; simp [Ne.symm h1]
end Go.Proofs.Ythhlmjcfhfkmdaa.Cx
