/- The walk of spoken, in closed words. -/
import Derived.Test.YthhlmjcfhfkmdaaCyL
import Derived.Carry
import Derived.Maps.Own
import Derived.Maps.OwnOps
import Derived.Maps.OwnSet
import Derived.Maps.Views
import Derived.Deep.QuietTactic
import Derived.BigQuiet
namespace Go.Proofs.Ythhlmjcfhfkmdaa.Cx
open Go.RowKit Go.Maps Go.Proofs.Ythhlmjcfhfkmdaa.PFnClassExactly Go.Proofs.YthhlmjcfhfkmdaaW.PrintWords Go.Proofs.YthhlmjcfhfkmdaaW.PrintLast Go.Proofs.YthhlmjcfhfkmdaaW.PrintMore
set_option linter.unusedVariables false
set_option linter.unusedSimpArgs false

theorem law3 : Keyed Try.prog 3 := int_keyed Try.underlying3
theorem zero3 (w : World) : (zeroValue 3).run Try.prog w = .ok (.int .i64 0) w := by kernel_rfl
/-- The map and the row say the same of each track. -/
def RelM (D : DataW Unit) (last : List Int) : Prop := last.length = 20 ∧ IsMap D ∧ ∀ t : Int, 0 ≤ t → t ≤ 19 →
  (Maps.has D (.int .i64 t) = false ∧ rd last t = -40) ∨ (Maps.has D (.int .i64 t) = true ∧ D.atKey (.int .i64 t) (.lit (.int .i64 0)) = .lit (.int .i64 (rd last t)))
theorem relM_nil : RelM (.map []) (List.replicate 20 (-40)) := by
  refine ⟨by simp, isMap_empty, fun t h0 h1 => .inl ⟨rfl, ?_⟩⟩
  unfold rd
  rw [List.getD_eq_getElem?_getD, List.getElem?_replicate, if_pos (by omega)]; rfl
theorem relM_put {D : DataW Unit} {last : List Int} (h : RelM D last) (t f : Int) (h0 : 0 ≤ t) (h1 : t ≤ 19) : RelM (D.put (.int .i64 t) (.lit (.int .i64 f))) (last.set t.toNat f) := by
  obtain ⟨hl, hm, hr⟩ := h
  refine ⟨by simp [hl], hm.put _ _, fun u u0 u1 => ?_⟩
  by_cases e : u = t
  · subst e
    refine .inr ⟨has_put_same (k := Lit.int .i64 u) hm trivial _, ?_⟩
    rw [atKey_put_same (k := Lit.int .i64 u) hm trivial]
    have hk : u.toNat < last.length := by omega
    simp [rd, List.getD_eq_getElem?_getD, hk]
  · have hne : (Lit.int .i64 u) ≠ (Lit.int .i64 t) := by intro h; injection h with _ h; exact e h
    have hrd : rd (last.set t.toNat f) u = rd last u := by
      unfold rd
      rw [List.getD_eq_getElem?_getD, List.getD_eq_getElem?_getD, List.getElem?_set_ne (by omega)]
    rw [has_put_other hne, atKey_put_other hne, hrd]
    exact hr u u0 u1
theorem map_drewN {w : World} {P : Program} {k : TypeId} {R : Value → Option (DataW Unit × List MemPlace)} {b n : Nat} {D : DataW Unit} (h : w.ownsMap P k R b n D) (m : Nat) : (w.drewN m).ownsMap P k R b n D := h
theorem map_ne {w : World} {P : Program} {k : TypeId} {R : Value → Option (DataW Unit × List MemPlace)} {b n : Nat} {D : DataW Unit} {α : Type} {d : Kd α} {e base : Nat} {ok : Nat → Prop} {v : Value} {xs : List α} (hm : w.ownsMap P k R b n D) (hr : Kd.R d e w base ok v xs) : some b ≠ v.ownBlock := by
  intro he
  obtain ⟨cells, hc⟩ := Kd.R_typed hr b he.symm
  obtain ⟨es, clock, hb, _⟩ := hm
  rw [hb] at hc
  cases hc
theorem map_apart {w : World} {P : Program} {k : TypeId} {R : Value → Option (DataW Unit × List MemPlace)} {b n : Nat} {D : DataW Unit} {α : Type} {d : Kd α} {e base : Nat} {ok : Nat → Prop} {v : Value} {xs : List α} (hm : w.ownsMap P k R b n D) (hr : Kd.R d e w base ok v xs) : Kd.R d e w base (fun k => ok k ∧ some k ≠ some b) v xs := by
  refine Kd.R_mono (Kd.R_bound hr) fun k hk => ⟨hk.1, fun he => ?_⟩
  injection he with he
  subst he
  obtain ⟨_, _, _, q, _, cells, hc⟩ := hk
  obtain ⟨es, clock, hb, _⟩ := hm
  rw [hb] at hc
  cases hc
set_option maxHeartbeats 8000000 in
set_option maxRecDepth 100000 in
theorem ipy_c (Ap : Option Addr) (cp : Nat) (x : S40) (A1 : Option Addr) (c1 : Nat) (sh : List S80) (a0 a1 a2 : Int) (w : World)
    (hp : Kd.C (Kd.int .i64) w Ap x.f0.length x.f0) (hcp : x.f0.length ≤ cp) (hr1 : Kd.C k80 w A1 sh.length sh) (hc1 : sh.length ≤ c1)
    (hx : x.f0.length ≤ 20) (hrep : 0 ≤ x.f1 ∧ x.f1 ≤ 20) (hs : sh.length ≤ 1000) (hok : ∀ h ∈ sh, okH h = true) (ha0 : 0 ≤ a0 ∧ a0 ≤ 40) (ha1 : 0 ≤ a1 ∧ a1 ≤ 40) :
    Calls Try.prog 66 #[.agg #[.slice Ap x.f0.length cp, .int .i64 x.f1], .slice A1 sh.length c1, .agg #[.int .i64 a0, .int .i64 a1, .int .i64 a2]] w fun e w' => ∃ v1 v2, e = .returned (.tuple #[v1, v2]) ∧ Kd.R k107 107 w' w.heap.size (fun _ => True) v1 (spoke x a0 a1 a2 sh).1 ∧ Kd.R (Kd.int .i64) 3 w' w.heap.size (fun _ => True) v2 (spoke x a0 a1 a2 sh).2 ∧ Below w.heap.size w w' := by
  have HP := Aside0.mk hp
  have HR1 := Aside0.mk hr1
  have HOk := Aside0.mk hok
  have HB := Aside0.mk (And.intro hrep (And.intro ha0 ha1))
  clear hp hr1 hok hrep ha0 ha1
  have hu40 := Try.underlying40
  have hu37 := Try.underlying37
  have hu80 := Try.underlying80
  have hmm := @run_makeMap Try.prog
  go_enter Try.func66, Try.ntmps66
  go_upto_region 4 with (first | ((with_reducible refine gate_dst (N := 3) rfl ?_); refine box_event ?hg (N := 3) ?hd (cs := #[.slice Ap x.f0.length cp, .int .i64 x.f1]) (t := 40) ?hr ?_; (case hd => rfl); (case hg => rfl); (case hr => first | (go_simp; done) | (go_simp; rfl)); intro gi hg w1 hbox hb; have BI := Aside0.mk hbox; have HB1 := Aside0.mk hb; clear hg hbox hb) | ((with_reducible refine gate_dst (N := 5) rfl ?_); refine box_event ?hg (N := 5) ?hd (cs := #[.int .i64 a0, .int .i64 a1, .int .i64 a2]) (t := 37) ?hr ?_; (case hd => rfl); (case hg => rfl); (case hr => first | (go_simp; done) | (go_simp; rfl)); intro ga hg w2 hbox hb; have BA := Aside0.mk hbox; have BI2 := Aside0.mk (blk_below BI.out hb); have HB2 := Aside0.mk (below_on HB1.out HB1.out.size hb); clear hg hbox hb) | ((with_reducible refine gate_dst (N := 17) rfl ?_); refine Kd.R_lit k107 _ 107 ?hg (N := 17) ?hd (xs := []) (inner := []) (ok := fun _ => True) (okp := fun _ => True) ?hr ?hp (fun _ hk => hk) trivial (Below.refl _ _) (Nat.le_refl _) (by simp) ?_; (case hd => rfl); (case hg => rfl); (case hr => first | (go_simp; done) | (go_simp; rfl)); (case hp => exact (Reps.none _ _)); intro v8 w3 ho hb hg_ hnew_; clear hg_ hnew_; have HO := Aside0.mk ho; have BI3 := Aside0.mk (blk_below BI2.out hb); have BA3 := Aside0.mk (blk_below BA.out hb); have HB3 := Aside0.mk (below_on HB2.out HB2.out.size hb); have HS3 := Aside0.mk hb.size; clear ho hb) | ((with_reducible refine gate_dst (N := 18) rfl ?_); refine Kd.R_lit (Kd.int .i64) _ 3 ?hg (N := 18) ?hd (xs := []) (inner := []) (ok := fun _ => True) (okp := fun _ => True) ?hr ?hp (fun _ hk => hk) trivial (Below.refl _ _) (Nat.le_refl _) (by simp) ?_; (case hd => rfl); (case hg => rfl); (case hr => first | (go_simp; done) | (go_simp; rfl)); (case hp => exact (Reps.none _ _)); intro v9 w4 ho hb hg_ hnew_; clear hg_ hnew_; have HX := Aside0.mk ho; have HO4 := Aside0.mk (Kd.R_below HO.out hb); have BI4 := Aside0.mk (blk_below BI3.out hb); have BA4 := Aside0.mk (blk_below BA3.out hb); have HB4 := Aside0.mk (below_on HB3.out HB3.out.size hb); have HS4 := Aside0.mk hb.size; clear ho hb))
  refine wp_world (F := fun wq => Aside0 (Kd.R k107 107 wq w2.heap.size (fun _ => True) v8 []) ∧ Aside0 (Kd.R (Kd.int .i64) 3 wq w2.heap.size (fun _ => True) v9 []) ∧ Aside0 (wq.ownsMap Try.prog 3 (plainElem (H := Unit) Try.prog 3) w4.heap.size 0 (.map [])) ∧ Aside0 (wq.heap[gi]? = some (.cells #[.slice Ap x.f0.length cp, .int .i64 x.f1] 40 (0, 0))) ∧ Aside0 (wq.heap[ga]? = some (.cells #[.int .i64 a0, .int .i64 a1, .int .i64 a2] 37 (0, 0))) ∧ Aside0 (Below w.heap.size w wq) ∧ Aside0 (w2.heap.size ≤ wq.heap.size)) ?facts ?_
  case facts =>
    have hb : Below w4.heap.size w4 (w4.alloc (.map #[] 0)) := (Below.refl _ _).alloc (Nat.le_refl _) _
    have hs : w2.heap.size ≤ w4.heap.size := Nat.le_trans HS3.out HS4.out
    exact ⟨⟨Kd.R_below HO4.out hb⟩, ⟨Kd.R_lower (Kd.R_below HX.out hb) HS3.out⟩, ⟨World.ownsMap_made _ _ _ _⟩, ⟨blk_below BI4.out hb⟩, ⟨blk_below BA4.out hb⟩, ⟨below_on HB4.out HB4.out.size hb⟩, ⟨Nat.le_trans hs hb.size⟩⟩
  obtain ⟨B2, hB2⟩ : ∃ b, b = w2.heap.size := ⟨_, rfl⟩
  obtain ⟨bm, hbm⟩ : ∃ b, b = w4.heap.size := ⟨_, rfl⟩
  rw [← hB2, ← hbm]
  have HBB := Aside0.mk (show w.heap.size ≤ B2 ∧ gi < B2 ∧ ga < B2 ∧ B2 ≤ bm from ⟨by rw [hB2]; exact HB2.out.size, by rw [hB2]; exact blk_lt BI2.out, by rw [hB2]; exact blk_lt BA.out, by rw [hB2, hbm]; exact Nat.le_trans HS3.out HS4.out⟩)
  clear hB2 hbm BI BI2 BI3 BI4 BA BA3 BA4 HB1 HB2 HB3 HB4 HO HO4 HX HS3 HS4
  intro wq ⟨HO2, HX2, HMM, BI, BA, HBW, HSZ⟩
  go_wp2_with fail
  go_loopg [8, 9, 22] sh.length (fun gk2 v8 v9 v22 wr => ∃ (pre suf : List S80) (last : List Int) (outs : List S107) (sil : List Int) (D : DataW Unit), Aside0 (sh = pre ++ suf) ∧ v22 = .int .i64 (pre.length : Int) ∧ Aside0 (gk2 = suf.length) ∧ Aside0 (outs.length + sil.length = pre.length ∧ (spoke x a0 a1 a2 sh).1 = outs ++ (speak x a0 a1 a2 last pre.length suf).1 ∧ (spoke x a0 a1 a2 sh).2 = sil ++ (speak x a0 a1 a2 last pre.length suf).2) ∧ Aside0 (∀ t : Int, -40 ≤ rd last t ∧ rd last t ≤ 2000) ∧ Aside0 (RelM D last) ∧ Aside0 (wr.ownsMap Try.prog 3 (plainElem (H := Unit) Try.prog 3) bm pre.length D) ∧ Aside0 (Kd.R k107 107 wr B2 (fun _ => True) v8 outs) ∧ Aside0 (Kd.R (Kd.int .i64) 3 wr B2 (fun _ => True) v9 sil) ∧ Aside0 (wr.heap[gi]? = some (.cells #[.slice Ap x.f0.length cp, .int .i64 x.f1] 40 (0, 0))) ∧ Aside0 (wr.heap[ga]? = some (.cells #[.int .i64 a0, .int .i64 a1, .int .i64 a2] 37 (0, 0))) ∧ Aside0 (Below w.heap.size w wr) ∧ Aside0 (B2 ≤ wr.heap.size))
  case atStart => exact ⟨[], sh, List.replicate 20 (-40), [], [], .map [], ⟨rfl⟩, rfl, ⟨rfl⟩, ⟨rfl, rfl, rfl⟩, ⟨fun t => by
    unfold rd
    rw [List.getD_eq_getElem?_getD, List.getElem?_replicate]
    split <;> simp⟩, ⟨relM_nil⟩, HMM, HO2, HX2, BI, BA, HBW, HSZ⟩
  case round =>
    clear HO2 HX2 HMM BI BA HBW HSZ
    obtain ⟨pre, suf, last, outs, sil, D, HE, rfl, HG2, HM, HLast, HRel, HMM, HO, HX, BI, BA, HBW, HSZ⟩ := hrel
    cases suf with
    | nil =>
      have hlt2 : ¬ pre.length < sh.length := by have := HE.out; rw [this]; simp
      have hle2 : pre.length ≤ sh.length := by have := HE.out; rw [this]; simp
      have HFin := Aside0.mk (show (spoke x a0 a1 a2 sh).1 = outs ∧ (spoke x a0 a1 a2 sh).2 = sil from by have h := HM.out.2; simpa [speak] using h)
      go_wp2_with fail
      go_ret2
      exact ⟨u8, u9, rfl, by rw [HFin.out.1]; exact Kd.R_lower HO.out HBB.out.1, by rw [HFin.out.2]; exact Kd.R_lower HX.out HBB.out.1, HBW.out⟩
    | cons h suf =>
      have hlt2 : pre.length < sh.length := by have := HE.out; rw [this]; simp
      obtain ⟨ads, e, hx0, hx1, hx2⟩ := at_T80 HR1.out (pre.length : Int) (by omega) (by omega)
      cases e
      rw [show rd_T80 sh (pre.length : Int) = h by rw [HE.out]; exact rd80_at pre suf h] at hx0 hx1 hx2
      replace hx0 := (HBW.out.cell (World.block_lt_of_cell? w _ hx0)).trans hx0
      replace hx1 := (HBW.out.cell (World.block_lt_of_cell? w _ hx1)).trans hx1
      replace hx2 := (HBW.out.cell (World.block_lt_of_cell? w _ hx2)).trans hx2
      rw [Int.toNat_natCast] at hx0 hx1 hx2
      go_upto_region 7 with (first | ((with_reducible refine gate_dst (N := 12) rfl ?_); refine box_event ?hg (N := 12) ?hd (cs := #[.int .i64 0, .int .i64 0, .int .i64 0]) (t := 80) ?hr ?_; (case hd => rfl); (case hg => rfl); (case hr => first | (go_simp; done) | (go_simp; rfl)); intro gh hg w8 hbox hb; have HGH := Aside0.mk hg; have BH := Aside0.mk hbox; have HB8 := Aside0.mk hb; have hz0 : w8.cell? ⟨gh, 0, none⟩ = some (.int .i64 0) := (blk_cell BH.out 0).trans rfl; have hz1 : w8.cell? ⟨gh, 1, none⟩ = some (.int .i64 0) := (blk_cell BH.out 1).trans rfl; have hz2 : w8.cell? ⟨gh, 2, none⟩ = some (.int .i64 0) := (blk_cell BH.out 2).trans rfl; have hf0 := blk_frozen BH.out 0; have hf1 := blk_frozen BH.out 1; have hf2 := blk_frozen BH.out 2; clear hg hbox hb))
      refine wp_world (F := fun wy => Aside0 (wy.heap[gh]? = some (.cells #[.int .i64 h.f0, .int .i64 h.f1, .int .i64 h.f2] 80 (0, 0))) ∧ Aside0 (Below wr.heap.size wr wy)) ?facts ?_
      case facts =>
        have hge : wr.heap.size ≤ gh := by rw [HGH.out]; exact Nat.le_refl _
        exact ⟨⟨blk_put (blk_put (blk_put BH.out 0 _ rfl) 1 _ rfl) 2 _ rfl⟩, ⟨below_set (below_set (below_set HB8.out hge) hge) hge⟩⟩
      clear hz0 hz1 hz2 hf0 hf1 hf2 BH HB8 hx0 hx1 hx2
      intro wy ⟨BH, HBY⟩
      have HOY := Aside0.mk (Kd.R_below HO.out HBY.out)
      have HXY := Aside0.mk (Kd.R_below HX.out HBY.out)
      have BIY := Aside0.mk (blk_below BI.out HBY.out)
      have BAY := Aside0.mk (blk_below BA.out HBY.out)
      have HBWY := Aside0.mk (below_on HBW.out HBW.out.size HBY.out)
      have HSY := Aside0.mk (Nat.le_trans HSZ.out HBY.out.size)
      have HMY : Aside0 (wy.ownsMap Try.prog 3 (plainElem (H := Unit) Try.prog 3) bm pre.length D) := ⟨by
        obtain ⟨es, clock, h1, h2⟩ := HMM.out
        exact ⟨es, clock, blk_below h1 HBY.out, h2⟩⟩
      clear HO HX BI BA HBW HSZ HBY HMM
      have bd := okH_bd (HOk.out h (by rw [HE.out]; simp))
      have hlast := HLast.out h.f0
      have hb := HB.out
      have hh0 : wy.cell? ⟨gh, 0, none⟩ = some (.int .i64 h.f0) := (blk_cell BH.out 0).trans rfl
      have hh1 : wy.cell? ⟨gh, 1, none⟩ = some (.int .i64 h.f1) := (blk_cell BH.out 1).trans rfl
      have hh2 : wy.cell? ⟨gh, 2, none⟩ = some (.int .i64 h.f2) := (blk_cell BH.out 2).trans rfl
      have hA0 : wy.cell? ⟨ga, 0, none⟩ = some (.int .i64 a0) := (blk_cell BAY.out 0).trans rfl
      have hA1 : wy.cell? ⟨ga, 1, none⟩ = some (.int .i64 a1) := (blk_cell BAY.out 1).trans rfl
      have hA2 : wy.cell? ⟨ga, 2, none⟩ = some (.int .i64 a2) := (blk_cell BAY.out 2).trans rfl
      have hI0 : wy.cell? ⟨gi, 0, none⟩ = some (.slice Ap x.f0.length cp) := (blk_cell BIY.out 0).trans rfl
      have hI1 : wy.cell? ⟨gi, 1, none⟩ = some (.int .i64 x.f1) := (blk_cell BIY.out 1).trans rfl
      have HKey := Aside0.mk (show keyOf Try.prog 3 (.int .i64 h.f0) = some (.int .i64 h.f0) from keyOf_int_mk Try.underlying3 (WalkArith.wf_i64 (by omega)))
      go_upto_region 8 with (at_lookup; refine wpList_lookup_own_ok_int _ rfl _ _ 104 rfl 3 3 .i64 law3 Try.underlying104 Try.underlying3 (zero3 _) bm pre.length _ rfl HMY.out _ _ rfl HKey.out ?_; intro c hat hwc)
      have hrel := HRel.out.2.2 h.f0 bd.1 bd.2.1
      obtain ⟨th, hth⟩ : ∃ th, th = Maps.has D (Lit.int .i64 h.f0) := ⟨_, rfl⟩
      rw [← hth] at hrel ⊢
      replace hrel : (th = false ∧ rd last h.f0 = -40) ∨ (th = true ∧ c = rd last h.f0) := by
        rcases hrel with h1 | ⟨h1, h2⟩
        · exact .inl h1
        · rw [hat] at h2
          injection h2 with h2; injection h2 with _ h2
          exact .inr ⟨h1, h2⟩
      clear hat hwc hth
      have e1 : IntKind.i64.wrap (h.f1 + a0) = h.f1 + a0 := IntWalk.i64_in _ (by omega)
      have e2 : IntKind.i64.wrap (h.f2 + a1) = h.f2 + a1 := IntWalk.i64_in _ (by omega)
      have e3 : IntKind.i64.wrap (h.f2 - h.f1) = h.f2 - h.f1 := IntWalk.i64_in _ (by omega)
      have e4 : IntKind.i64.wrap (h.f1 - rd last h.f0) = h.f1 - rd last h.f0 := IntWalk.i64_in _ (by omega)
      have e5 : IntKind.i64.wrap (2 * x.f1) = 2 * x.f1 := IntWalk.i64_in _ (by omega)
      have hcases : (mute x a0 a1 a2 (rd last h.f0) h = true ∧ (decide ((x.f0.length : Int) ≤ h.f0) = true ∨ (decide ((x.f0.length : Int) ≤ h.f0) = false ∧ decide (h.f2 - h.f1 < a2) = true) ∨ (decide ((x.f0.length : Int) ≤ h.f0) = false ∧ decide (h.f2 - h.f1 < a2) = false ∧ th = true ∧ c = rd last h.f0 ∧ decide (h.f1 - rd last h.f0 < 2 * x.f1) = true) ∨ (decide ((x.f0.length : Int) ≤ h.f0) = false ∧ decide (h.f2 - h.f1 < a2) = false ∧ th = false ∧ decide (h.f2 + a1 ≤ h.f1 + a0) = true) ∨ (decide ((x.f0.length : Int) ≤ h.f0) = false ∧ decide (h.f2 - h.f1 < a2) = false ∧ th = true ∧ c = rd last h.f0 ∧ decide (h.f1 - rd last h.f0 < 2 * x.f1) = false ∧ decide (h.f2 + a1 ≤ h.f1 + a0) = true))) ∨ (mute x a0 a1 a2 (rd last h.f0) h = false ∧ ((decide ((x.f0.length : Int) ≤ h.f0) = false ∧ decide (h.f2 - h.f1 < a2) = false ∧ th = false ∧ decide (h.f2 + a1 ≤ h.f1 + a0) = false) ∨ (decide ((x.f0.length : Int) ≤ h.f0) = false ∧ decide (h.f2 - h.f1 < a2) = false ∧ th = true ∧ c = rd last h.f0 ∧ decide (h.f1 - rd last h.f0 < 2 * x.f1) = false ∧ decide (h.f2 + a1 ≤ h.f1 + a0) = false))) := by
        have hn : rd last h.f0 = -40 → decide (h.f1 - rd last h.f0 < 2 * x.f1) = false := fun e => by rw [e]; simp; omega
        unfold mute
        cases decide ((x.f0.length : Int) ≤ h.f0) <;> cases decide (h.f2 - h.f1 < a2) <;> cases decide (h.f2 + a1 ≤ h.f1 + a0) <;> rcases hrel with ⟨rfl, hr⟩ | ⟨rfl, rfl⟩
        all_goals first | (have hn' := hn hr; rw [hn']; simp; done) | (cases decide (h.f1 - rd last h.f0 < 2 * x.f1) <;> simp; done)
      have hq0 : 0 ≤ h.f0 := bd.1
      have BD := Aside0.mk bd
      have HC := Aside0.mk hcases
      have HE345 := Aside0.mk (And.intro e3 (And.intro e4 e5))
      clear bd hlast hb hrel hcases e3 e4 e5
      go_quiet (fail)
      rcases HC.out with ⟨hmu, hd⟩ | ⟨hmu, hd⟩
      · have HMU := Aside0.mk hmu
        have HM2 := Aside0.mk (show outs.length + (sil ++ [(pre.length : Int)]).length = (pre ++ [h]).length ∧ (spoke x a0 a1 a2 sh).1 = outs ++ (speak x a0 a1 a2 last (pre ++ [h]).length suf).1 ∧ (spoke x a0 a1 a2 sh).2 = (sil ++ [(pre.length : Int)]) ++ (speak x a0 a1 a2 last (pre ++ [h]).length suf).2 from by
          have hm := HM.out
          refine ⟨by have := hm.1; simp; omega, ?_, ?_⟩
          · rw [hm.2.1]; simp only [speak]; rw [if_pos HMU.out]; simp
          · rw [hm.2.2]; simp only [speak]; rw [if_pos HMU.out]; simp)
        have HSl := Aside0.mk (show sil.length ≤ 1000 by have := HM.out.1; omega)
        clear hmu
        obtain ⟨Av, cv, rfl⟩ := Kd.R_slice HXY.out
        obtain ⟨e3, e4, e5⟩ := HE345.out
        rcases hd with d1 | ⟨d1, d2⟩ | ⟨d1, d2, rfl, rfl, d3⟩ | ⟨d1, d2, rfl, d4⟩ | ⟨d1, d2, rfl, rfl, d3, d4⟩
        all_goals
          go_upto_region 10 with (fail)
          clear hh0 hh1 hh2 hA0 hA1 hA2 hI0 hI1
          go_wp2_with (first | (at_builtin; refine Kd.R_append (Kd.int .i64) (w0 := wy) B2 rfl (.tmp 78) (.tmp 80) 24 3 (.int .i64 0) 8 rfl Try.underlying24 info3 rfl (by decide) (by omega) _ sil (pre.length : Int) [.int .i64 (pre.length : Int)] (fun _ => True) (fun _ => False) rfl rfl ?aP (fun _ hk => hk.elim) ?aF ?aO ?aB ?aS ?aL ?_; (case aP => exact rfl); (case aB => exact (by (repeat apply pw_below_drewN); exact Below.refl _ _)); (case aF => exact (fun _ _ => trivial)); (case aO => exact (by (with_reducible repeat apply Kd.R_drewN); exact HXY.out)); (case aS => exact HSY.out); (case aL => have := HSl.out; omega); intro v9' w9 ho hb9 hg9 _; have HX9 := Aside0.mk ho; have HB9 := Aside0.mk hb9; have HMM9 := Aside0.mk (World.ownsMap.mono (n' := (pre ++ [h]).length) (World.ownsMap.kept (P := Try.prog) (k := 3) (R := plainElem (H := Unit) Try.prog 3) (b := bm) (n := pre.length) (D := D) (by (with_reducible repeat apply map_drewN); exact HMY.out) hg9 (map_ne HMY.out HXY.out)) (by simp)); have HO9 := Aside0.mk (Kd.R_mono (Kd.R_grown (Kd.R_apartR (show Kd.R k107 107 _ B2 (fun _ => True) u8 outs from by (with_reducible repeat apply Kd.R_drewN); exact HOY.out) (show Kd.R (Kd.int .i64) 3 _ B2 (fun _ => True) _ sil from by (with_reducible repeat apply Kd.R_drewN); exact HXY.out) (by decide)) hg9 (fun k hk => hk.2)) (fun _ _ => (trivial : (fun _ : Nat => True) _))); clear ho hb9 hg9))
          go_roundg suf.length
          case measure => have := HG2.out; simp at this; omega
          case rel => exact ⟨pre ++ [h], suf, last, outs, sil ++ [(pre.length : Int)], D, ⟨by rw [HE.out]; simp⟩, by simp, ⟨rfl⟩, HM2, HLast, HRel, HMM9, HO9, HX9, ⟨(HB9.out.block gi HBB.out.2.1).trans BIY.out⟩, ⟨(HB9.out.block ga HBB.out.2.2.1).trans BAY.out⟩, ⟨HBWY.out.trans (HB9.out.mono HBB.out.1)⟩, ⟨Nat.le_trans HSY.out HB9.out.size⟩⟩
      · have HMU := Aside0.mk hmu
        have hh0l : h.f0 < (x.f0.length : Int) := by
          rcases hd with ⟨d1, _⟩ | ⟨d1, _⟩ <;> (have := of_decide_eq_false d1; omega)
        clear hmu
        obtain ⟨e3, e4, e5⟩ := HE345.out
        have HM2 := Aside0.mk (show (outs ++ [voice x a0 a1 h]).length + sil.length = (pre ++ [h]).length ∧ (spoke x a0 a1 a2 sh).1 = (outs ++ [voice x a0 a1 h]) ++ (speak x a0 a1 a2 (last.set h.f0.toNat h.f1) (pre ++ [h]).length suf).1 ∧ (spoke x a0 a1 a2 sh).2 = sil ++ (speak x a0 a1 a2 (last.set h.f0.toNat h.f1) (pre ++ [h]).length suf).2 from by
          have hm := HM.out
          have hn : ¬ (mute x a0 a1 a2 (rd last h.f0) h = true) := by rw [HMU.out]; simp
          refine ⟨by have := hm.1; simp; omega, ?_, ?_⟩
          · rw [hm.2.1]; simp only [speak]; rw [if_neg hn]; simp
          · rw [hm.2.2]; simp only [speak]; rw [if_neg hn]; simp)
        have HLast2 := Aside0.mk (show ∀ t : Int, -40 ≤ rd (last.set h.f0.toNat h.f1) t ∧ rd (last.set h.f0.toNat h.f1) t ≤ 2000 from fun t => by
          have h1 := HLast.out t
          have h2 := BD.out
          unfold rd at *
          rw [List.getD_eq_getElem?_getD, List.getElem?_set]
          rw [List.getD_eq_getElem?_getD] at h1
          split
          · split
            · simp; omega
            · simp
          · exact h1)
        have HRel2 := Aside0.mk (relM_put HRel.out h.f0 h.f1 BD.out.1 BD.out.2.1)
        have HOl := Aside0.mk (show outs.length ≤ 1000 by have := HM.out.1; omega)
        have HWf := Aside0.mk (show (Lit.int .i64 h.f1).wf = true from WalkArith.wf_i64 (by have := BD.out; omega))
        have HPm := Aside0.mk (show (pre ++ [h]).length = pre.length + 1 by simp)
        obtain ⟨Av, cv, rfl⟩ := Kd.R_slice HOY.out
        obtain ⟨adp, e, hcp2⟩ := Kd.at_int HP.out h.f0 hq0 hh0l
        cases e
        replace hcp2 := (HBWY.out.cell (World.block_lt_of_cell? w _ hcp2)).trans hcp2
        rcases hd with ⟨d1, d2, rfl, d4⟩ | ⟨d1, d2, rfl, rfl, d3, d4⟩
        all_goals
          go_upto_region 12 with (at_mapUpdate; refine wpList_mapUpdate_own _ rfl _ _ _ 104 rfl 3 3 law3 Try.underlying104 _ bm pre.length _ rfl HMY.out (by unfold maxLen; omega) _ _ _ rfl rfl HKey.out _ [] (plainElem_int Try.underlying3 HWf.out) ?_; intro w9 hown9 hgrow9)
          refine wp_world (F := fun wz => Aside0 (wz.ownsMap Try.prog 3 (plainElem (H := Unit) Try.prog 3) bm (pre.length + 1) (D.put (.int .i64 h.f0) (.lit (.int .i64 h.f1)))) ∧ Aside0 (wy.grownBy wz (some bm))) ?facts ?_
          case facts => exact ⟨⟨hown9⟩, ⟨⟨hgrow9.os, hgrow9.tape, hgrow9.output, hgrow9.size, hgrow9.block⟩⟩⟩
          clear hown9 hgrow9
          intro wz ⟨HMZ, HGZ⟩
          have HOZ := Aside0.mk (Kd.R_mono (Kd.R_grown (map_apart HMY.out HOY.out) HGZ.out (fun k hk => hk.2)) (fun _ _ => (trivial : (fun _ : Nat => True) _)))
          have HXZ := Aside0.mk (Kd.R_mono (Kd.R_grown (map_apart HMY.out HXY.out) HGZ.out (fun k hk => hk.2)) (fun _ _ => (trivial : (fun _ : Nat => True) _)))
          have HBZ : Aside0 (Below bm wy wz) := ⟨(Below.refl _ _).grown HGZ.out (Nat.le_of_lt HMY.out.lt) (fun j hj => by cases hj; exact Nat.le_refl _)⟩
          have HSZ := Aside0.mk (Nat.le_trans HSY.out HBZ.out.size)
          have BIZ := Aside0.mk ((HBZ.out.block gi (Nat.lt_of_lt_of_le HBB.out.2.1 HBB.out.2.2.2)).trans BIY.out)
          have BAZ := Aside0.mk ((HBZ.out.block ga (Nat.lt_of_lt_of_le HBB.out.2.2.1 HBB.out.2.2.2)).trans BAY.out)
          have HBWZ := Aside0.mk (HBWY.out.trans (HBZ.out.mono (Nat.le_trans HBB.out.1 HBB.out.2.2.2)))
          have hbh : wz.heap[gh]? = wy.heap[gh]? := HGZ.out.block gh (blk_lt BH.out) (by
            intro he; injection he with he; subst he
            obtain ⟨es, clock, hb, _⟩ := HMY.out
            rw [BH.out] at hb; cases hb)
          have BHZ := Aside0.mk (hbh.trans BH.out)
          clear hbh hh0 hh1 hh2 hA0 hA1 hA2 hI0 hI1 hcp2
          have hg0 : wz.cell? ⟨gi, 0, none⟩ = some (.slice (some adp) x.f0.length cp) := (blk_cell BIZ.out 0).trans rfl
          have hg1 : wz.cell? ⟨gh, 0, none⟩ = some (.int .i64 h.f0) := (blk_cell BHZ.out 0).trans rfl
          obtain ⟨adq, e, hcq⟩ := Kd.at_int HP.out h.f0 hq0 hh0l
          cases e
          replace hcq := (HBWZ.out.cell (World.block_lt_of_cell? w _ hcq)).trans hcq
          go_wp2_with (first | (at_builtin; refine Kd.R_append k107 (w0 := wz) B2 rfl (.tmp 87) (.tmp 97) 94 107 (.agg #[(.int .i64 0), (.int .i64 0), (.int .i64 0)]) 24 rfl Try.underlying94 info107 rfl (by decide) (by omega) _ outs (voice x a0 a1 h) [.int .i64 (rd x.f0 h.f0), .int .i64 (h.f1 + a0), .int .i64 (h.f2 + a1)] (fun _ => True) (fun _ => False) rfl rfl ?aP (fun _ hk => hk.elim) ?aF ?aO ?aB ?aS ?aL ?_; (case aP => exact k107_mkM _ _ _ (voice x a0 a1 h)); (case aB => exact (by (repeat apply pw_below_drewN); exact Below.refl _ _)); (case aF => exact (fun _ _ => trivial)); (case aO => exact (by (with_reducible repeat apply Kd.R_drewN); exact HOZ.out)); (case aS => exact HSZ.out); (case aL => have := HOl.out; omega); intro v8' w10 ho hb10 hg10 _; have HO10 := Aside0.mk ho; have HB10 := Aside0.mk hb10; have HMM10 := Aside0.mk (World.ownsMap.mono (n' := (pre ++ [h]).length) (World.ownsMap.kept (P := Try.prog) (k := 3) (R := plainElem (H := Unit) Try.prog 3) (b := bm) (n := pre.length + 1) (D := D.put (.int .i64 h.f0) (.lit (.int .i64 h.f1))) (by (with_reducible repeat apply map_drewN); exact HMZ.out) hg10 (map_ne HMZ.out HOZ.out)) (by simp)); have HX10 := Aside0.mk (Kd.R_mono (Kd.R_grown (Kd.R_apartR (show Kd.R (Kd.int .i64) 3 _ B2 (fun _ => True) u9 sil from by (with_reducible repeat apply Kd.R_drewN); exact HXZ.out) (show Kd.R k107 107 _ B2 (fun _ => True) _ outs from by (with_reducible repeat apply Kd.R_drewN); exact HOZ.out) (by decide)) hg10 (fun k hk => hk.2)) (fun _ _ => (trivial : (fun _ : Nat => True) _))); clear ho hb10 hg10))
          go_roundg suf.length
          case measure => have := HG2.out; simp at this; omega
          case rel => exact ⟨pre ++ [h], suf, last.set h.f0.toNat h.f1, outs ++ [voice x a0 a1 h], sil, _, ⟨by rw [HE.out]; simp⟩, by simp, ⟨rfl⟩, HM2, HLast2, HRel2, HMM10, HO10, HX10, ⟨(HB10.out.block gi HBB.out.2.1).trans BIZ.out⟩, ⟨(HB10.out.block ga HBB.out.2.2.1).trans BAZ.out⟩, ⟨HBWZ.out.trans (HB10.out.mono HBB.out.1)⟩, ⟨Nat.le_trans HSZ.out HB10.out.size⟩⟩
end Go.Proofs.Ythhlmjcfhfkmdaa.Cx
