/- Faults, in plain words; contracts of the errors of a hole. -/
import Derived.Test.YthhlmjcfhfkmdaaCyO
namespace Go.Proofs.Ythhlmjcfhfkmdaa.Cx
open Go.RowKit Go.Proofs.Ythhlmjcfhfkmdaa.PFnClassExactly Go.Proofs.YthhlmjcfhfkmdaaW.PrintWords Go.Proofs.YthhlmjcfhfkmdaaW.PrintLast Go.Proofs.YthhlmjcfhfkmdaaW.PrintMore
set_option linter.unusedVariables false
set_option linter.unusedSimpArgs false

def ab (a : Int) : Int := if a < 0 then -a else a
/-- Both errors of the hole of a note. -/
def dev0 (x : S58) (h : S80) : Int := h.f1 - 2 * x.f1
def dev1 (x : S58) (h : S80) : Int := h.f2 - (2 * (x.f1 + x.f2) - 1)
theorem dev_bd {x : S58} {h : S80} (hx : okN x = true) (hh : okH h = true) : -10000 ≤ dev0 x h ∧ dev0 x h ≤ 10000 ∧ -10000 ≤ dev1 x h ∧ dev1 x h ≤ 10000 := by
  have := okN_bd hx
  have := okH_bd hh
  unfold dev0 dev1
  omega
theorem he_c (x : S58) (h : S80) (hx : okN x = true) (hh : okH h = true) (w : World) :
    Calls Try.prog 64 #[.agg #[.int .i64 x.f0, .int .i64 x.f1, .int .i64 x.f2], .agg #[.int .i64 h.f0, .int .i64 h.f1, .int .i64 h.f2]] w fun e w' => ∃ v, e = .returned v ∧ Kd.R (Kd.int .i64) 3 w' w.heap.size (fun _ => True) v [dev0 x h, dev1 x h] ∧ Below w.heap.size w w' := by
  have b1 := okN_bd hx
  have b2 := okH_bd hh
  refine impl_holeErrors.calls _ _ _ _ _ _ _ w ?_
  unfold impl_holeErrors.f impl_noteEnd.f dev0 dev1
  simp only [Option.bind_some]
  rw [w64 (x := 2 * x.f1) (by omega) (by omega), w64 (x := x.f1 + x.f2) (by omega) (by omega), w64 (x := 2 * (x.f1 + x.f2)) (by omega) (by omega), w64 (by omega) (by omega), w64 (x := 2 * (x.f1 + x.f2) - 1) (by omega) (by omega), w64 (by omega) (by omega)]
theorem dist_c (a : Int) (h0 : -10000 ≤ a) (h1 : a ≤ 10000) (w : World) : Calls Try.prog 65 #[.int .i64 a, .int .i64 0] w fun e w' => e = .returned (.int .i64 (ab a)) ∧ Below w.heap.size w w' := by
  refine impl_distance.calls a 0 _ w ?_
  unfold impl_distance.f ab mx
  rw [w64 (by omega) (by omega), w64 (by omega) (by omega)]
  by_cases h : a < 0
  · rw [if_pos (by omega), if_pos h]; simp
  · rw [if_neg (by omega), if_neg h]; simp
theorem abs_c (a : Int) (h0 : -10000 ≤ a) (h1 : a ≤ 10000) (w : World) : Calls Try.prog 77 #[.int .i64 a] w fun e w' => e = .returned (.int .i64 (ab a)) ∧ Below w.heap.size w w' := by
  refine (spec_l1Abs.calls a (ab a) w ?_).mono fun e w' ⟨h1, h2⟩ => ⟨h1, drawn_below h2⟩
  unfold spec_l1Abs.f spec_l1Most.f ab
  rw [w64 (by omega) (by omega)]
  by_cases h : a < 0
  · rw [if_neg (by omega), if_pos h]; simp
  · by_cases h' : a = 0
    · subst h'; simp
    · rw [if_pos (by omega), if_neg h]; simp
theorem pickTo_bd (t : Int) : ∀ (sh : List S80) (us : List Bool) (i : Int), 0 ≤ i → pickTo t i sh us = -1 ∨ (i ≤ pickTo t i sh us ∧ pickTo t i sh us < i + sh.length)
  | [], _, i, h => .inl (by simp [pickTo])
  | _ :: _, [], i, h => .inl (by simp [pickTo])
  | x :: r, u :: v, i, h => by
    unfold pickTo
    split
    · exact .inr ⟨by omega, by simp only [List.length_cons]; omega⟩
    · rcases pickTo_bd t r v (i + 1) (by omega) with h' | h'
      · exact .inl h'
      · refine .inr ⟨by omega, ?_⟩
        have := h'.2
        simp only [List.length_cons]; omega
theorem match_len (ps : List Int) (sh : List S80) : ∀ (l : List S58) (us : List Bool), (matchTo ps sh l us).1.length = l.length
  | [], _ => rfl
  | x :: r, us => by
    unfold matchTo
    simp only [List.length_cons, match_len ps sh r]
theorem match_used (ps : List Int) (sh : List S80) : ∀ (l : List S58) (us : List Bool), (matchTo ps sh l us).2.length = us.length
  | [], _ => rfl
  | x :: r, us => by
    unfold matchTo
    rw [match_used ps sh r, useAt_len]
theorem match_bd (ps : List Int) (sh : List S80) : ∀ (l : List S58) (us : List Bool), ∀ k ∈ (matchTo ps sh l us).1, k = -1 ∨ (0 ≤ k ∧ k < sh.length)
  | [], _, k, h => by simp [matchTo] at h
  | x :: r, us, k, h => by
    unfold matchTo at h
    rcases List.mem_cons.1 h with rfl | h
    · have := pickTo_bd (idx ps x.f0) sh us 0 (Int.le_refl _)
      simpa using this
    · exact match_bd ps sh r _ k h
theorem holes_len (ps : List Int) (sh : List S80) (l : List S58) : (holesOf ps sh l).length = l.length := match_len _ _ _ _
theorem holes_bd (ps : List Int) (sh : List S80) (l : List S58) : ∀ k ∈ holesOf ps sh l, k = -1 ∨ (0 ≤ k ∧ k < sh.length) := match_bd _ _ _ _
theorem free_len : ∀ (us : List Bool) (i : Nat), (freeFrom i us).length ≤ us.length
  | [], i => by simp [freeFrom]
  | u :: r, i => by
    have := free_len r (i + 1)
    unfold freeFrom
    cases u <;> simp <;> omega
theorem freed_len (ps : List Int) (sh : List S80) (l : List S58) : (freeFrom 0 (usedOf ps sh l)).length ≤ sh.length := by
  refine Nat.le_trans (free_len _ _) ?_
  unfold usedOf
  rw [match_used]; simp
theorem silent_len (x : S40) (a0 a1 a2 : Int) (sh : List S80) : (spoke x a0 a1 a2 sh).2.length ≤ sh.length := by
  have := speak_len x a0 a1 a2 sh (List.replicate 20 (-40)) 0
  unfold spoke; omega
/-- What is wrong with the hole of the note at place i. -/
def far0 (m : Int) (sh : List S80) (x : S58) (k : Int) : Bool := decide (m < ab (dev0 x (rd_T80 sh k)))
def far1 (m : Int) (sh : List S80) (x : S58) (k : Int) : Bool := decide (m < ab (dev1 x (rd_T80 sh k)))
def pairRows (m : Int) (sh : List S80) (i : Nat) (x : S58) (k : Int) : List (List Int) :=
  if k < 0 then [[0, (i : Int)]] else (if far0 m sh x k then [[2, (i : Int)]] else []) ++ (if far1 m sh x k then [[3, (i : Int)]] else [])
def rowsFrom (m : Int) (sh : List S80) : Nat → List S58 → List Int → List (List Int)
  | i, x :: r, k :: ks => pairRows m sh i x k ++ rowsFrom m sh (i + 1) r ks
  | _, _, _ => []
def noteRows (m : Int) (x : S40) (l : List S58) (sh : List S80) : List (List Int) := rowsFrom m sh 0 l (holesOf x.f0 sh l)
def faultRows (m : Int) (x : S40) (l : List S58) (sh : List S80) (a0 a1 a2 : Int) : List (List Int) :=
  (noteRows m x l sh ++ (freeFrom 0 (usedOf x.f0 sh l)).map (fun k => [1, k])) ++ (spoke x a0 a1 a2 sh).2.map (fun k => [4, k])
theorem rows_two (m : Int) (sh : List S80) : ∀ (l : List S58) (ks : List Int) (i : Nat), ∀ r ∈ rowsFrom m sh i l ks, r.length = 2
  | [], _, _, r, h => by simp [rowsFrom] at h
  | _ :: _, [], _, r, h => by simp [rowsFrom] at h
  | x :: t, k :: ks, i, r, h => by
    unfold rowsFrom at h
    rcases List.mem_append.1 h with h | h
    · unfold pairRows at h
      split at h
      · simp at h; rw [h]; rfl
      · rcases List.mem_append.1 h with h | h <;> (split at h <;> simp at h; rw [h]; rfl)
    · exact rows_two m sh t ks (i + 1) r h
theorem fault_two (m : Int) (x : S40) (l : List S58) (sh : List S80) (a0 a1 a2 : Int) : ∀ r ∈ faultRows m x l sh a0 a1 a2, r.length = 2 := by
  intro r h
  unfold faultRows at h
  simp only [List.mem_append, List.mem_map] at h
  rcases h with (h | ⟨k, _, rfl⟩) | ⟨k, _, rfl⟩
  · exact rows_two _ _ _ _ _ r h
  · rfl
  · rfl
end Go.Proofs.Ythhlmjcfhfkmdaa.Cx
