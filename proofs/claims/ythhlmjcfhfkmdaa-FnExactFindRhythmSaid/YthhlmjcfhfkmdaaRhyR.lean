/- The walk of sortedSet: what it returns is the sorted set, in a row of its own. -/
import Derived.Test.YthhlmjcfhfkmdaaRhyQ
import Derived.Test.YthhlmjcfhfkmdaaShelf
namespace Go.Proofs.Ythhlmjcfhfkmdaa.Rhy
open Go.RowKit Go.Sort Go.Proofs.Ythhlmjcfhfkmdaa.PFnExactFindRhythm Go.Proofs.YthhlmjcfhfkmdaaW.PrintWords Go.Proofs.YthhlmjcfhfkmdaaW.PrintLast Go.Proofs.YthhlmjcfhfkmdaaW.PrintMore
set_option linter.unusedVariables false
set_option linter.unusedSimpArgs false

theorem grow_below (w : World) (os : Array Obj) : Below w.heap.size w (Go.Sort.grow w os) :=
  ⟨rfl, rfl, rfl, by simp [Go.Sort.grow], fun k hk => by simp [Go.Sort.grow, Array.getElem?_append_left hk]⟩
theorem drawn_below {w w1 : World} (h : Drawn0 w w1) : Below w.heap.size w w1 := by
  obtain ⟨m, rfl⟩ := h
  exact pw_below_drewN (Below.refl _ _) m
theorem below_on {B : Nat} {W w w1 : World} (h : Below B W w) (hB : B ≤ w.heap.size) (k : Below w.heap.size w w1) : Below B W w1 := h.trans (k.mono hB)
theorem own_below' {w w1 : World} {B : Nat} {e : TypeId} {s n : Nat} {v : Value} {xs : List Value} (h : w.ownsRow B e s v n xs) (hb : Below w.heap.size w w1) : w1.ownsRow B e s v n xs := by
  obtain ⟨h1, h2⟩ := h
  refine ⟨h1, ?_⟩
  rcases h2 with h2 | ⟨g, cap, cur, hv, hg, hh, r⟩
  · exact .inl h2
  · exact .inr ⟨g, cap, cur, hv, hg, by rw [hb.block g (Array.getElem?_eq_some_iff.1 hh).1]; exact hh, r⟩
abbrev enc64 : Int → Value := Value.int .i64
theorem put_heap (w : World) (g : Nat) (ys : List Int) (q : Nat) {cur : Array Value} {e : TypeId} {fr : Nat × Nat} (h : w.heap[g]? = some (.cells cur e fr)) :
    (putRow enc64 (Sort.ahead w q) g 0 ys.toArray).heap[g]? = some (.cells (putCells enc64 0 ys.toArray cur) e fr) := by
  unfold putRow mapBlock
  show (w.heap.modify g _)[g]? = _
  rw [Array.getElem?_modify, if_pos rfl, h]
  rfl
theorem put_own {w : World} {B g cap n : Nat} {xs : List Value} (h : w.ownsRow B 3 1 (.slice (some ⟨g, 0, none⟩) n cap) n xs) (ys : List Int) (hy : ys.length = n) (q : Nat) :
    (putRow enc64 (Sort.ahead w q) g 0 ys.toArray).ownsRow B 3 1 (.slice (some ⟨g, 0, none⟩) n cap) n (ys.map enc64) := by
  obtain ⟨h1, h2⟩ := h
  refine ⟨by simp [hy], .inr ?_⟩
  rcases h2 with ⟨h2, _⟩ | ⟨g', cap', cur, hv, hg, hh, hn, hc, hs, ht⟩
  · cases h2
  · injection hv with e1 _ e3
    injection e1 with e1
    injection e1 with e1
    subst e1 e3
    refine ⟨g, cap, _, rfl, hg, put_heap w g ys q hh, hn, hc, by simp [putCells, hs], ?_⟩
    apply List.ext_getElem?
    intro j
    rw [List.getElem?_take, List.getElem?_map]
    by_cases hj : j < n * 1
    · rw [if_pos hj]
      have hjn : j < n := by omega
      have hjc : j < cur.size := by omega
      rw [Array.getElem?_toList]
      simp [putCells, hjc, hy, hjn, hy.symm ▸ hjn]
    · rw [if_neg hj]
      rw [List.getElem?_eq_none (by omega)]; rfl
theorem put_below {B : Nat} {W w : World} (h : Below B W w) {g : Nat} (hg : B ≤ g) (ys : List Int) (q : Nat) : Below B W (putRow enc64 (Sort.ahead w q) g 0 ys.toArray) := by
  refine ⟨h.os, h.tape, h.output, by rw [size_putRow]; exact h.size, fun k hk => ?_⟩
  rw [← h.block k hk]
  unfold putRow mapBlock
  show (w.heap.modify g _)[k]? = _
  rw [Array.getElem?_modify, if_neg (by omega)]
theorem own_holds {w : World} {B g cap : Nat} {xs : List Int} (h : w.ownsRow B 3 1 (.slice (some ⟨g, 0, none⟩) xs.length cap) xs.length (xs.map enc64)) : Holds enc64 w g 0 xs.toArray ∧ B ≤ g ∧ g < w.heap.size ∧ xs.length ≤ cap ∧ xs.length ≤ 9223372036854775807 := by
  obtain ⟨h1, h2⟩ := h
  rcases h2 with ⟨h2, _⟩ | ⟨g', cap', cur, hv, hg, hh, hn, hc, hs, ht⟩
  · cases h2
  · injection hv with e1 _ e3
    injection e1 with e1
    injection e1 with e1
    subst e1 e3
    refine ⟨fun j hj => ?_, hg, (Array.getElem?_eq_some_iff.1 hh).1, hn, by unfold maxLen at hc; omega⟩
    have hjn : j < xs.length := by simpa using hj
    have hjc : j < cur.size := by omega
    have hcur : cur[j]? = some (enc64 xs[j]) := by
      have := congrArg (·[j]?) ht
      simp only [List.getElem?_take, List.getElem?_map] at this
      rw [if_pos (by omega), List.getElem?_eq_getElem hjn] at this
      rw [← Array.getElem?_toList]
      simpa using this
    constructor
    · simp only [World.cell?, hh, Nat.zero_add]
      simp [hcur, hjn]
    · simp [World.frozen?, hh]
theorem own_cut {w : World} {B g cap n m : Nat} {xs : List Value} (h : w.ownsRow B 3 1 (.slice (some ⟨g, 0, none⟩) n cap) n xs) (hm : m ≤ n) : w.ownsRow B 3 1 (.slice (some ⟨g, 0, none⟩) m cap) m (xs.take m) := by
  obtain ⟨h1, h2⟩ := h
  refine ⟨by simp; omega, .inr ?_⟩
  rcases h2 with ⟨h2, _⟩ | ⟨g', cap', cur, hv, hg, hh, hn, hc, hs, ht⟩
  · cases h2
  · injection hv with e1 _ e3
    injection e1 with e1
    injection e1 with e1
    subst e1 e3
    refine ⟨g, cap, cur, rfl, hg, hh, by omega, hc, hs, ?_⟩
    rw [← ht, List.take_take]
    congr 1; omega
theorem clone_c (B : Nat) (ok : Nat → Prop) (v : Value) (l : List Int) (w : World) (h : Kd.R (Kd.int .i64) 3 w B ok v l) (hl : l.length ≤ 1048576) :
    Calls Try.prog 57 #[v] w fun e w' => ∃ v', e = .returned v' ∧ w'.ownsRow w.heap.size 3 1 v' l.length (l.map enc64) ∧ Below w.heap.size w w' := by
  have ho := Kd.own_of_R h
  cases l with
  | nil =>
    obtain ⟨A, c, rfl⟩ := Kd.R_slice h
    cases A with
    | none =>
      refine (Try.slices_Clone_int_nil 0 c w).mono ?_
      rintro e w' ⟨rfl, rfl⟩
      exact ⟨_, rfl, own_nil _ _ _ _, Below.refl _ _⟩
    | some a =>
      refine (Try.slices_Clone_int_zero a c w).mono ?_
      rintro e w' ⟨v', rfl, h1, _, hb⟩
      exact ⟨v', rfl, h1, hb⟩
  | cons x r =>
    obtain ⟨g, cap, rfl, _, _, _⟩ := Kd.R_form h (by simp)
    obtain ⟨hH, _, _, _, _⟩ := own_holds (xs := x :: r) ho
    refine (Try.slices_Clone_int g 0 (x :: r).length cap (x :: r) w (Nat.le_refl _) (by omega) (fun j hj => ?_)).mono ?_
    · have := (hH j (by simpa using hj)).1
      rw [this]
      simp [List.getD_eq_getElem?_getD, hj, enc64]
    · rintro e w' ⟨v', rfl, h1, _, hb⟩
      refine ⟨v', rfl, ?_, hb⟩
      rw [List.take_length] at h1
      exact h1
theorem sort_c (B : Nat) (v : Value) (l : List Int) (w : World) (h : w.ownsRow B 3 1 v l.length (l.map enc64)) (hl : l.length ≤ 1048576) :
    Calls Try.prog 58 #[v] w fun e w' => e = .returned (.tuple #[]) ∧ w'.ownsRow B 3 1 v l.length ((l.mergeSort fun x y => decide (x ≤ y)).map enc64) ∧ ∀ W, Below B W w → Below B W w' := by
  rcases Nat.eq_zero_or_pos l.length with h0 | h0
  · obtain rfl := List.length_eq_zero_iff.1 h0
    obtain ⟨A, c, rfl⟩ := own_slice h
    refine (Try.sort_Ints_none A c w).mono ?_
    rintro e w' ⟨rfl, rfl⟩
    exact ⟨rfl, by simpa using h, fun W hW => hW⟩
  · obtain ⟨g, cap, rfl, _, _⟩ := h.form h0
    obtain ⟨hH, hg, hlt, _, _⟩ := own_holds h
    refine (Try.sort_Ints g 0 cap l w hH hlt (by omega)).mono ?_
    rintro e w' ⟨rfl, n, os, rfl⟩
    refine ⟨rfl, own_below' (put_own h _ (by simp) n) (grow_below _ _), fun W hW => ?_⟩
    have hb := put_below hW hg (l.mergeSort fun x y => decide (x ≤ y)) n
    exact below_on hb (by rw [size_putRow]; show B ≤ w.heap.size; omega) (grow_below _ _)
theorem compact_c (B : Nat) (v : Value) (l : List Int) (w : World) (h : w.ownsRow B 3 1 v l.length (l.map enc64)) (hl : l.length ≤ 1048576) :
    Calls Try.prog 59 #[v] w fun e w' => ∃ v', e = .returned v' ∧ w'.ownsRow B 3 1 v' (Lib.compact l).length ((Lib.compact l).map enc64) ∧ ∀ W, Below B W w → Below B W w' := by
  rcases Nat.eq_zero_or_pos l.length with h0 | h0
  · obtain rfl := List.length_eq_zero_iff.1 h0
    obtain ⟨A, c, rfl⟩ := own_slice h
    refine (Try.slices_Compact_int_empty A c w).mono ?_
    rintro e w' ⟨rfl, rfl⟩
    exact ⟨_, rfl, h, fun W hW => hW⟩
  · obtain ⟨g, cap, rfl, _, _⟩ := h.form h0
    obtain ⟨hH, hg, hlt, hcap, hmx⟩ := own_holds h
    refine (Try.slices_Compact_int g 0 cap l w hH hmx hcap).mono ?_
    have hcl := Lib.compact_length_le l
    rintro e w' ⟨rfl, q, rfl⟩
    refine ⟨_, rfl, ?_, fun W hW => put_below hW hg _ q⟩
    have := own_cut (put_own h (Lib.compact l ++ List.replicate (l.length - (Lib.compact l).length) 0) (by simp; omega) q) hcl
    rw [List.map_append, List.take_append_of_le_length (by simp), show (Lib.compact l).length = ((Lib.compact l).map enc64).length by simp, List.take_length] at this
    simpa using this
set_option maxHeartbeats 4000000 in
set_option maxRecDepth 100000 in
theorem set_c (B : Nat) (ok : Nat → Prop) (v : Value) (l : List Int) (w : World) (h : Kd.R (Kd.int .i64) 3 w B ok v l) (hl : l.length ≤ 1048576) :
    Calls Try.prog 35 #[v] w fun e w' => ∃ v', e = .returned v' ∧ Kd.R (Kd.int .i64) 3 w' w.heap.size (fun _ => True) v' (sorted l) ∧ Below w.heap.size w w' := by
  have HR := Aside0.mk h
  clear h
  go_enter Try.func35, Try.ntmps35
  go_wp2_with fail
  refine (clone_c B ok v l w HR.out hl).mono ?_
  rintro e w1 ⟨v1, rfl, ho, hb⟩
  have HO := Aside0.mk ho
  have HB := Aside0.mk hb
  clear ho hb
  go_wp2_with fail
  refine (sort_c _ v1 l w1 HO.out hl).mono ?_
  rintro e w2 ⟨rfl, ho, hb⟩
  have HB2 := Aside0.mk (hb w HB.out)
  have HO2 := Aside0.mk (show w2.ownsRow w.heap.size 3 1 v1 (l.mergeSort fun x y => decide (x ≤ y)).length ((l.mergeSort fun x y => decide (x ≤ y)).map enc64) from by rw [List.length_mergeSort]; exact ho)
  clear ho hb HO HB
  go_wp2_with fail
  refine (compact_c _ v1 (l.mergeSort fun x y => decide (x ≤ y)) w2 HO2.out (by rw [List.length_mergeSort]; exact hl)).mono ?_
  rintro e w3 ⟨v3, rfl, ho, hb⟩
  have HB3 := Aside0.mk (hb w HB2.out)
  have HO3 := Aside0.mk (show Kd.R (Kd.int .i64) 3 w3 w.heap.size (fun _ => True) v3 (sorted l) from Kd.R_of_own ho (fun _ _ => trivial))
  clear ho hb HO2 HB2
  go_wp2_with fail
  go_ret
  exact ⟨v3, rfl, HO3.out, HB3.out⟩
end Go.Proofs.Ythhlmjcfhfkmdaa.Rhy
