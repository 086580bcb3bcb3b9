/- The walks of the closure of FindRhythm, and of ContainsFunc over it. -/
import Derived.Test.YthhlmjcfhfkmdaaRhyR
namespace Go.Proofs.Ythhlmjcfhfkmdaa.Rhy
open Go.RowKit Go.Proofs.Ythhlmjcfhfkmdaa.PFnExactFindRhythm Go.Proofs.YthhlmjcfhfkmdaaW.PrintWords Go.Proofs.YthhlmjcfhfkmdaaW.PrintLast Go.Proofs.YthhlmjcfhfkmdaaW.PrintMore
set_option linter.unusedVariables false
set_option linter.unusedSimpArgs false

set_option maxHeartbeats 4000000 in
set_option maxRecDepth 100000 in
theorem clos_c (z : S58) (gy gb : Nat) (y1 y2 by_ : Int) (w : World) (h1 : w.cell? ⟨gy, 1, none⟩ = some (.int .i64 y1)) (h2 : w.cell? ⟨gy, 2, none⟩ = some (.int .i64 y2)) (h3 : w.cell? ⟨gb, 0, none⟩ = some (.int .i64 by_)) :
    Calls Try.prog 34 #[.agg #[.int .i64 z.f0, .int .i64 z.f1, .int .i64 z.f2], .pointer (some ⟨gy, 0, none⟩), .pointer (some ⟨gb, 0, none⟩)] w fun e w' => e = .returned (.bool (decide (z.f1 = wrap64 (y1 + by_)) && (z.f2 == y2))) ∧ Below w.heap.size w w' := by
  have hu58 := Try.underlying58
  go_enter Try.func34, Try.ntmps34
  by_cases hs : z.f1 = wrap64 (y1 + by_)
  · have HD := Aside0.mk (decide_eq_true hs)
    have hq : (z.f1 == wrap64 (y1 + by_)) = true := beq_iff_eq.mpr hs
    clear hs
    go_wp2_with ((with_reducible refine gate_dst (N := 3) rfl ?_); refine box_event ?hg (N := 3) ?hd (cs := #[.int .i64 z.f0, .int .i64 z.f1, .int .i64 z.f2]) (t := 58) ?hr ?_; (case hd => rfl); (case hg => rfl); (case hr => first | (go_simp; done) | (go_simp; rfl)); intro g hg w2 hbox hb; have hz1 : w2.cell? ⟨g, 1, none⟩ = some (.int .i64 z.f1) := (blk_cell hbox 1).trans rfl; have hz2 : w2.cell? ⟨g, 2, none⟩ = some (.int .i64 z.f2) := (blk_cell hbox 2).trans rfl; replace h1 := (hb.cell (World.block_lt_of_cell? w _ h1)).trans h1; replace h2 := (hb.cell (World.block_lt_of_cell? w _ h2)).trans h2; replace h3 := (hb.cell (World.block_lt_of_cell? w _ h3)).trans h3; have HB := Aside0.mk hb; clear hb hbox hg)
    go_ret
    exact ⟨by rw [HD.out]; rfl, HB.out⟩
  · have HD := Aside0.mk (decide_eq_false hs)
    have hq : (z.f1 == wrap64 (y1 + by_)) = false := by simpa using hs
    clear hs
    go_wp2_with ((with_reducible refine gate_dst (N := 3) rfl ?_); refine box_event ?hg (N := 3) ?hd (cs := #[.int .i64 z.f0, .int .i64 z.f1, .int .i64 z.f2]) (t := 58) ?hr ?_; (case hd => rfl); (case hg => rfl); (case hr => first | (go_simp; done) | (go_simp; rfl)); intro g hg w2 hbox hb; have hz1 : w2.cell? ⟨g, 1, none⟩ = some (.int .i64 z.f1) := (blk_cell hbox 1).trans rfl; have hz2 : w2.cell? ⟨g, 2, none⟩ = some (.int .i64 z.f2) := (blk_cell hbox 2).trans rfl; replace h1 := (hb.cell (World.block_lt_of_cell? w _ h1)).trans h1; replace h2 := (hb.cell (World.block_lt_of_cell? w _ h2)).trans h2; replace h3 := (hb.cell (World.block_lt_of_cell? w _ h3)).trans h3; have HB := Aside0.mk hb; clear hb hbox hg)
    go_ret
    exact ⟨by rw [HD.out]; rfl, HB.out⟩
set_option maxHeartbeats 4000000 in
set_option maxRecDepth 100000 in
theorem index_c (A : Option Addr) (c : Nat) (l : List S58) (gy gb : Nat) (y1 y2 by_ : Int) (w : World) (hr : Kd.C k58 w A l.length l) (hc : l.length ≤ c) (hl : l.length ≤ 1048576) (h1 : w.cell? ⟨gy, 1, none⟩ = some (.int .i64 y1)) (h2 : w.cell? ⟨gy, 2, none⟩ = some (.int .i64 y2)) (h3 : w.cell? ⟨gb, 0, none⟩ = some (.int .i64 by_)) :
    Calls Try.prog 56 #[.slice A l.length c, .func (.func 34) #[] #[.pointer (some ⟨gy, 0, none⟩), .pointer (some ⟨gb, 0, none⟩)]] w fun e w' => ∃ r : Int, e = .returned (.int .i64 r) ∧ decide (0 ≤ r) = hit l (wrap64 (y1 + by_)) y2 ∧ Below w.heap.size w w' := by
  have HR := Aside0.mk hr
  have HY := Aside0.mk (And.intro h1 (And.intro h2 h3))
  have H0 := Aside0.mk (Below.refl w.heap.size w)
  clear hr h1 h2 h3
  have hu58 := Try.underlying58
  go_enter Try.func56, Try.ntmps56
  go_wp2
  go_loopg [8] l.length (fun gk v8 wr => ∃ pre suf : List S58, Aside0 (l = pre ++ suf) ∧ v8 = .int .i64 (pre.length : Int) ∧ Aside0 (gk = suf.length) ∧ Aside0 (hit l (wrap64 (y1 + by_)) y2 = hit suf (wrap64 (y1 + by_)) y2) ∧ Aside0 (Below w.heap.size w wr))
  case atStart => exact ⟨[], l, ⟨rfl⟩, rfl, ⟨rfl⟩, ⟨rfl⟩, H0⟩
  case round =>
    obtain ⟨pre, suf, HE, rfl, HG, HO, HB⟩ := hrel
    cases suf with
    | nil =>
      have hlt : ¬ pre.length < l.length := by have := HE.out; rw [this]; simp
      have hle : pre.length ≤ l.length := by have := HE.out; rw [this]; simp
      go_wp2_with fail
      go_ret
      exact ⟨-1, rfl, by rw [HO.out]; rfl, HB.out⟩
    | cons z suf =>
      have hlt : pre.length < l.length := by have := HE.out; rw [this]; simp
      obtain ⟨ad, e, hx0, hx1, hx2⟩ := at_T58 HR.out (pre.length : Int) (by omega) (by omega)
      cases e
      rw [show rd_T58 l (pre.length : Int) = z by rw [HE.out]; exact rd58_at pre suf z] at hx0 hx1 hx2
      replace hx0 := (HB.out.cell (World.block_lt_of_cell? w _ hx0)).trans hx0
      replace hx1 := (HB.out.cell (World.block_lt_of_cell? w _ hx1)).trans hx1
      replace hx2 := (HB.out.cell (World.block_lt_of_cell? w _ hx2)).trans hx2
      rw [Int.toNat_natCast] at hx0 hx1 hx2
      go_wp2_with fail
      refine (clos_c z gy gb y1 y2 by_ wr ((HB.out.cell (World.block_lt_of_cell? w _ HY.out.1)).trans HY.out.1) ((HB.out.cell (World.block_lt_of_cell? w _ HY.out.2.1)).trans HY.out.2.1) ((HB.out.cell (World.block_lt_of_cell? w _ HY.out.2.2)).trans HY.out.2.2)).mono ?_
      rintro e w2 ⟨rfl, hb⟩
      have HB2 := Aside0.mk (below_on HB.out HB.out.size hb)
      clear hb
      cases hq : (decide (z.f1 = wrap64 (y1 + by_)) && (z.f2 == y2)) with
      | true =>
        have HR2 := Aside0.mk (show decide ((0 : Int) ≤ (pre.length : Int)) = hit l (wrap64 (y1 + by_)) y2 from by rw [HO.out]; simp only [hit, List.any_cons, hq]; simp)
        clear hq
        go_wp2_with fail
        go_ret
        exact ⟨(pre.length : Int), rfl, HR2.out, HB2.out⟩
      | false =>
        have HN := Aside0.mk (show hit l (wrap64 (y1 + by_)) y2 = hit suf (wrap64 (y1 + by_)) y2 from by rw [HO.out]; simp only [hit, List.any_cons, hq]; simp)
        clear hq
        go_wp2_with fail
        go_roundg suf.length
        case measure => have := HG.out; simp at this; omega
        case rel => exact ⟨pre ++ [z], suf, ⟨by rw [HE.out]; simp⟩, by simp, ⟨rfl⟩, HN, HB2⟩
set_option maxHeartbeats 4000000 in
set_option maxRecDepth 100000 in
theorem contains_c (A : Option Addr) (c : Nat) (l : List S58) (gy gb : Nat) (y1 y2 by_ : Int) (w : World) (hr : Kd.C k58 w A l.length l) (hc : l.length ≤ c) (hl : l.length ≤ 1048576) (h1 : w.cell? ⟨gy, 1, none⟩ = some (.int .i64 y1)) (h2 : w.cell? ⟨gy, 2, none⟩ = some (.int .i64 y2)) (h3 : w.cell? ⟨gb, 0, none⟩ = some (.int .i64 by_)) :
    Calls Try.prog 33 #[.slice A l.length c, .func (.func 34) #[] #[.pointer (some ⟨gy, 0, none⟩), .pointer (some ⟨gb, 0, none⟩)]] w fun e w' => e = .returned (.bool (hit l (wrap64 (y1 + by_)) y2)) ∧ Below w.heap.size w w' := by
  have HC := Aside0.mk (index_c A c l gy gb y1 y2 by_ w hr hc hl h1 h2 h3)
  clear hr h1 h2 h3
  go_enter Try.func33, Try.ntmps33
  go_wp2_with fail
  refine HC.out.mono ?_
  rintro e w' ⟨r, rfl, hd, hb⟩
  have HD := Aside0.mk hd
  have HB := Aside0.mk hb
  clear hd hb HC
  go_wp2_with fail
  go_ret
  exact ⟨by rw [← HD.out]; rfl, HB.out⟩
end Go.Proofs.Ythhlmjcfhfkmdaa.Rhy
