/- Walks of the functions of PlanText that are not printed, in closed words. -/
import Derived.Test.YtgajkcooefifdaaDoorPlanP
import Derived.Test.YtgajkcooefifdaaDoorBld
namespace Go.Proofs.YtgajkcooefifdaaDoor.Plan
open Go.RowKit Go.Proofs.YtgajkcooefifdaaDoorW.PrintWords Go.Proofs.YtgajkcooefifdaaDoorW.PrintLast Go.Proofs.YtgajkcooefifdaaDoorW.PrintMore
open Go.Proofs.YtgajkcooefifdaaDoor.PFnExactPlanText
set_option linter.unusedVariables false
set_option linter.unusedSimpArgs false

theorem drawn_below {w w1 : World} (h : Drawn0 w w1) : Below w.heap.size w w1 := by
  obtain ⟨m, rfl⟩ := h
  exact pw_below_drewN (Below.refl _ _) m
theorem below_on {B : Nat} {W w w1 : World} (h : Below B W w) (hB : B ≤ w.heap.size) (k : Below w.heap.size w w1) : Below B W w1 := h.trans (k.mono hB)
theorem has_c (A : Option Addr) (c : Nat) (l : List Int) (a : Int) (w : World) (hr : Kd.C (Kd.int .i64) w A l.length l) (hc : l.length ≤ c) (hl : l.length ≤ 1048576) :
    Calls Tryd.prog 20 #[.slice A l.length c, .int .i64 a] w fun e w' => e = .returned (.bool (l.contains a)) ∧ Below w.heap.size w w' := by
  obtain ⟨k, hk⟩ := (spec_has l hl a).rounds
  exact (spec_l1Has.calls k A c l a _ w hr hc hk).mono fun e w' ⟨h1, h2⟩ => ⟨h1, drawn_below h2⟩
theorem cont_c (A : Option Addr) (c : Nat) (l : List Int) (a : Int) (w : World) (hr : Kd.C (Kd.int .i64) w A l.length l) (hc : l.length ≤ c) (hl : l.length ≤ 1048576) :
    Calls Tryd.prog 32 #[.slice A l.length c, .int .i64 a] w fun e w' => e = .returned (.bool (l.contains a)) ∧ Below w.heap.size w w' := by
  obtain ⟨k, hk⟩ := (impl_has l hl a).rounds
  exact (slices_Contains_int_int.calls k A c l a _ w hr hc hk).mono fun e w' ⟨h1, h2⟩ => ⟨h1, drawn_below h2⟩
theorem in_c (a b c : Int) (w : World) : Calls Tryd.prog 30 #[.int .i64 a, .int .i64 b, .int .i64 c] w fun e w' => e = .returned (.bool (decide (b ≤ a) && decide (a ≤ c))) ∧ Below w.heap.size w w' := by
  refine (spec_l1In.calls a b c _ w ?_).mono fun e w' ⟨h1, h2⟩ => ⟨h1, drawn_below h2⟩
  unfold spec_l1In.f
  by_cases h : b ≤ a
  · rw [if_pos h]; simp [h]
  · rw [if_neg h]; simp [h]
theorem sjobs_c (A : Option Addr) (c : Nat) (l : List S43) (w : World) (hr : Kd.C k43 w A l.length l) (hc : l.length ≤ c) (hl : l.length ≤ 1048576) :
    Calls Tryd.prog 31 #[.slice A l.length c] w fun e w' => e = .returned (.bool (jobsOk l)) ∧ Below w.heap.size w w' := by
  obtain ⟨k, hk⟩ := (spec_jobs l hl).rounds
  exact spec_pnGood.calls k A c l _ w hr hc hk
theorem ijobs_c (A : Option Addr) (c : Nat) (l : List S43) (w : World) (hr : Kd.C k43 w A l.length l) (hc : l.length ≤ c) (hl : l.length ≤ 1048576) :
    Calls Tryd.prog 33 #[.slice A l.length c] w fun e w' => e = .returned (.bool (jobsOk l)) ∧ Below w.heap.size w w' := by
  obtain ⟨k, hk⟩ := (impl_jobs l hl).rounds
  exact impl_AreJobs.calls k A c l _ w hr hc hk

def ordTo (l : List S43) : List Int → List Int → Bool
  | pre, [] => jobsOk l && decide (pre.length = l.length)
  | pre, y :: r => (decide (0 ≤ y) && decide (y < (l.length : Int))) && (!pre.contains y && ordTo l (pre ++ [y]) r)
def ordOk (l : List S43) (o : List Int) : Bool := ordTo l [] o
set_option maxHeartbeats 4000000 in
set_option maxRecDepth 100000 in
theorem sorder_c (A0 : Option Addr) (c0 : Nat) (l : List S43) (A1 : Option Addr) (c1 : Nat) (o : List Int) (w : World) (hr0 : Kd.C k43 w A0 l.length l) (hc0 : l.length ≤ c0) (hr1 : Kd.C (Kd.int .i64) w A1 o.length o) (hc1 : o.length ≤ c1) (hl : l.length ≤ 1048576) (ho : o.length ≤ 1048576) :
    Calls Tryd.prog 16 #[.slice A0 l.length c0, .slice A1 o.length c1] w fun e w' => e = .returned (.bool (ordOk l o)) ∧ Below w.heap.size w w' := by
  have HR0 := Aside0.mk hr0
  have HR1 := Aside0.mk hr1
  have H0 := Aside0.mk (Below.refl w.heap.size w)
  clear hr0 hr1
  go_enter Tryd.func16, Tryd.ntmps16
  go_wp2
  go_loopg [9] o.length (fun gk v9 wr => ∃ pre suf : List Int, Aside0 (o = pre ++ suf) ∧ v9 = .int .i64 (pre.length : Int) ∧ Aside0 (gk = suf.length) ∧ Aside0 (ordTo l pre suf = ordOk l o) ∧ Aside0 (Below w.heap.size w wr))
  case atStart => exact ⟨[], o, ⟨rfl⟩, rfl, ⟨rfl⟩, ⟨rfl⟩, H0⟩
  case round =>
    obtain ⟨pre, suf, HE, rfl, HG, HO, HB⟩ := hrel
    cases suf with
    | nil =>
      have hlt : ¬ pre.length < o.length := by have := HE.out; rw [this]; simp
      have hle : pre.length ≤ o.length := by have := HE.out; rw [this]; simp
      go_wp2_with fail
      refine (sjobs_c A0 c0 l wr (Kd.C_below HR0.out HB.out) hc0 hl).mono ?_
      rintro e w1 ⟨rfl, hb⟩
      have HB1 := Aside0.mk (below_on HB.out HB.out.size hb)
      have HL := Aside0.mk (show o.length = pre.length by rw [HE.out]; simp)
      clear hb
      cases hj : jobsOk l with
      | false =>
        have HR := Aside0.mk (show ordOk l o = false by rw [← HO.out]; simp [ordTo, hj])
        clear hj
        go_wp2_with fail
        go_ret
        exact ⟨by rw [HR.out]; rfl, HB1.out⟩
      | true =>
        by_cases hq : o.length = l.length
        · have HR := Aside0.mk (show ordOk l o = true by rw [← HO.out]; simp [ordTo, hj]; have := HL.out; omega)
          have d : ((o.length : Int) == (l.length : Int)) = true := by simp; omega
          have d2 : (o.length == l.length) = true := by simpa using hq
          clear hj hq
          go_wp2_with fail
          go_ret
          exact ⟨by rw [HR.out]; simp [d2], HB1.out⟩
        · have HR := Aside0.mk (show ordOk l o = false by rw [← HO.out]; simp [ordTo, hj]; have := HL.out; omega)
          have d : ((o.length : Int) == (l.length : Int)) = false := by simp; omega
          have d2 : (o.length == l.length) = false := by simpa using hq
          clear hj hq
          go_wp2_with fail
          go_ret
          exact ⟨by rw [HR.out]; simp [d2], HB1.out⟩
    | cons y suf =>
      have hlt : pre.length < o.length := by have := HE.out; rw [this]; simp
      obtain ⟨ad, e, hx⟩ := Kd.at_int HR1.out (pre.length : Int) (by omega) (by omega)
      cases e
      rw [show rd o (pre.length : Int) = y by rw [HE.out]; exact rd_at pre suf y] at hx
      replace hx := (HB.out.cell (World.block_lt_of_cell? w _ hx)).trans hx
      rw [Int.toNat_natCast] at hx
      go_wp2_with fail
      refine (in_c y 0 ((l.length : Int) - 1) wr).mono ?_
      rintro e w1 ⟨rfl, hb⟩
      have HB1 := Aside0.mk (below_on HB.out HB.out.size hb)
      clear hb
      by_cases hin : 0 ≤ y ∧ y < (l.length : Int)
      · have HI := Aside0.mk (show (decide (0 ≤ y) && decide (y ≤ (l.length : Int) - 1)) = true by simp; omega)
        rw [HI.out]
        have hle : pre.length ≤ o.length := by omega
        have hC := Aside0.mk (show Kd.C (Kd.int .i64) w1 (some ad) pre.length pre from by
          have h := Kd.C_take (Kd.C_below HR1.out HB1.out) hle
          have e : o.take pre.length = pre := by rw [HE.out]; simp
          rw [e] at h; exact h)
        go_wp2_with fail
        refine (has_c (some ad) c1 pre y w1 hC.out (by omega) (by omega)).mono ?_
        rintro e w2 ⟨rfl, hb⟩
        have HB2 := Aside0.mk (below_on HB1.out HB1.out.size hb)
        clear hb
        cases hcn : pre.contains y with
        | true =>
          have HR := Aside0.mk (show ordOk l o = false by rw [← HO.out]; simp only [ordTo, hcn]; simp)
          clear hcn
          go_wp2_with fail
          go_ret
          exact ⟨by rw [HR.out]; rfl, HB2.out⟩
        | false =>
          have HN := Aside0.mk (show ordTo l (pre ++ [y]) suf = ordOk l o by rw [← HO.out]; simp only [ordTo, hcn]; simp; intro h; omega)
          clear hcn
          go_wp2_with fail
          go_roundg suf.length
          case measure => have := HG.out; simp at this; omega
          case rel => exact ⟨pre ++ [y], suf, ⟨by rw [HE.out]; simp⟩, by simp, ⟨rfl⟩, HN, HB2⟩
      · have HR := Aside0.mk (show ordOk l o = false by rw [← HO.out]; simp [ordTo]; omega)
        have HI := Aside0.mk (show (decide (0 ≤ y) && decide (y ≤ (l.length : Int) - 1)) = false by simp; omega)
        rw [HI.out]
        go_wp2_with fail
        go_ret
        exact ⟨by rw [HR.out]; rfl, HB1.out⟩
set_option maxHeartbeats 4000000 in
set_option maxRecDepth 100000 in
theorem iorder_c (A0 : Option Addr) (c0 : Nat) (l : List S43) (A1 : Option Addr) (c1 : Nat) (o : List Int) (w : World) (hr0 : Kd.C k43 w A0 l.length l) (hc0 : l.length ≤ c0) (hr1 : Kd.C (Kd.int .i64) w A1 o.length o) (hc1 : o.length ≤ c1) (hl : l.length ≤ 1048576) (ho : o.length ≤ 1048576) :
    Calls Tryd.prog 22 #[.slice A0 l.length c0, .slice A1 o.length c1] w fun e w' => e = .returned (.bool (ordOk l o)) ∧ Below w.heap.size w w' := by
  have HR0 := Aside0.mk hr0
  have HR1 := Aside0.mk hr1
  have H0 := Aside0.mk (Below.refl w.heap.size w)
  clear hr0 hr1
  go_enter Tryd.func22, Tryd.ntmps22
  go_wp2
  go_loopg [9] o.length (fun gk v9 wr => ∃ pre suf : List Int, Aside0 (o = pre ++ suf) ∧ v9 = .int .i64 (pre.length : Int) ∧ Aside0 (gk = suf.length) ∧ Aside0 (ordTo l pre suf = ordOk l o) ∧ Aside0 (Below w.heap.size w wr))
  case atStart => exact ⟨[], o, ⟨rfl⟩, rfl, ⟨rfl⟩, ⟨rfl⟩, H0⟩
  case round =>
    obtain ⟨pre, suf, HE, rfl, HG, HO, HB⟩ := hrel
    cases suf with
    | nil =>
      have hlt : ¬ pre.length < o.length := by have := HE.out; rw [this]; simp
      have hle : pre.length ≤ o.length := by have := HE.out; rw [this]; simp
      go_wp2_with fail
      refine (ijobs_c A0 c0 l wr (Kd.C_below HR0.out HB.out) hc0 hl).mono ?_
      rintro e w1 ⟨rfl, hb⟩
      have HB1 := Aside0.mk (below_on HB.out HB.out.size hb)
      have HL := Aside0.mk (show o.length = pre.length by rw [HE.out]; simp)
      clear hb
      cases hj : jobsOk l with
      | false =>
        have HR := Aside0.mk (show ordOk l o = false by rw [← HO.out]; simp [ordTo, hj])
        clear hj
        go_wp2_with fail
        go_ret
        exact ⟨by rw [HR.out]; rfl, HB1.out⟩
      | true =>
        by_cases hq : o.length = l.length
        · have HR := Aside0.mk (show ordOk l o = true by rw [← HO.out]; simp [ordTo, hj]; have := HL.out; omega)
          have d : ((o.length : Int) == (l.length : Int)) = true := by simp; omega
          have d2 : (o.length == l.length) = true := by simpa using hq
          clear hj hq
          go_wp2_with fail
          go_ret
          exact ⟨by rw [HR.out]; simp [d2], HB1.out⟩
        · have HR := Aside0.mk (show ordOk l o = false by rw [← HO.out]; simp [ordTo, hj]; have := HL.out; omega)
          have d : ((o.length : Int) == (l.length : Int)) = false := by simp; omega
          have d2 : (o.length == l.length) = false := by simpa using hq
          clear hj hq
          go_wp2_with fail
          go_ret
          exact ⟨by rw [HR.out]; simp [d2], HB1.out⟩
    | cons y suf =>
      have hlt : pre.length < o.length := by have := HE.out; rw [this]; simp
      obtain ⟨ad, e, hx⟩ := Kd.at_int HR1.out (pre.length : Int) (by omega) (by omega)
      cases e
      rw [show rd o (pre.length : Int) = y by rw [HE.out]; exact rd_at pre suf y] at hx
      replace hx := (HB.out.cell (World.block_lt_of_cell? w _ hx)).trans hx
      rw [Int.toNat_natCast] at hx
      by_cases hin : 0 ≤ y ∧ y < (l.length : Int)
      · have d0 : decide (y < 0) = false := by simp; omega
        have d1 : decide ((l.length : Int) ≤ y) = false := by simp; omega
        have HB1 := HB
        have hle : pre.length ≤ o.length := by omega
        have hC := Aside0.mk (show Kd.C (Kd.int .i64) wr (some ad) pre.length pre from by
          have h := Kd.C_take (Kd.C_below HR1.out HB1.out) hle
          have e : o.take pre.length = pre := by rw [HE.out]; simp
          rw [e] at h; exact h)
        go_wp2_with fail
        refine (cont_c (some ad) c1 pre y wr hC.out (by omega) (by omega)).mono ?_
        rintro e w2 ⟨rfl, hb⟩
        have HB2 := Aside0.mk (below_on HB1.out HB1.out.size hb)
        clear hb
        cases hcn : pre.contains y with
        | true =>
          have HR := Aside0.mk (show ordOk l o = false by rw [← HO.out]; simp only [ordTo, hcn]; simp)
          clear hcn
          go_wp2_with fail
          go_ret
          exact ⟨by rw [HR.out]; rfl, HB2.out⟩
        | false =>
          have HN := Aside0.mk (show ordTo l (pre ++ [y]) suf = ordOk l o by rw [← HO.out]; simp only [ordTo, hcn]; simp; intro h; omega)
          clear hcn
          go_wp2_with fail
          go_roundg suf.length
          case measure => have := HG.out; simp at this; omega
          case rel => exact ⟨pre ++ [y], suf, ⟨by rw [HE.out]; simp⟩, by simp, ⟨rfl⟩, HN, HB2⟩
      · have HR := Aside0.mk (show ordOk l o = false by rw [← HO.out]; simp [ordTo]; omega)
        by_cases h0 : y < 0
        · have d0 : decide (y < 0) = true := by simp; omega
          go_wp2_with fail
          go_ret
          exact ⟨by rw [HR.out]; rfl, HB.out⟩
        · have d0 : decide (y < 0) = false := by simp; omega
          have d1 : decide ((l.length : Int) ≤ y) = true := by simp; omega
          go_wp2_with fail
          go_ret
          exact ⟨by rw [HR.out]; rfl, HB.out⟩
end Go.Proofs.YtgajkcooefifdaaDoor.Plan
