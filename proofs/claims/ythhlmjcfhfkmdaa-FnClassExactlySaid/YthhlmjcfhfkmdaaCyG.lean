/- The walk of vfFaults: how many faults it returns. -/
import Derived.Test.YthhlmjcfhfkmdaaCyE
namespace Go.Proofs.Ythhlmjcfhfkmdaa.Cx
open Go.RowKit Go.Proofs.Ythhlmjcfhfkmdaa.PFnClassExactly Go.Proofs.YthhlmjcfhfkmdaaW.PrintWords Go.Proofs.YthhlmjcfhfkmdaaW.PrintLast Go.Proofs.YthhlmjcfhfkmdaaW.PrintMore
set_option linter.unusedVariables false
set_option linter.unusedSimpArgs false

def rd_L3 (xs : List (List Int)) (i : Int) : (List Int) := xs.getD i.toNat ([] : List Int)
theorem at_L3 {w : World} {A : Option Addr} {n : Nat} {xs : List (List Int)} (h : Kd.C (Kd.slice 3 (Kd.int .i64)) w A n xs) (i : Int) (h0 : 0 ≤ i) (h1 : i < n) : ∃ ad A0 c0, A = some ad ∧ w.cell? (ad.add i.toNat) = some (.slice A0 (rd_L3 xs i).length c0) ∧ (rd_L3 xs i).length ≤ c0 ∧ (Kd.int .i64).C w A0 (rd_L3 xs i).length (rd_L3 xs i) := by
  obtain ⟨ad, c, e, _, hK, hc0⟩ := Kd.C_get h ([] : List Int) i h0 h1
  have hc : ∀ j u, c[j]? = some u → w.cell? (ad.add (i.toNat * 1 + j)) = some u := hc0
  obtain ⟨A0, c0, rfl, l0, g0⟩ := hK
  exact ⟨ad, A0, c0, e, by have hq := hc 0 _ rfl; rwa [Nat.mul_one, Nat.add_zero] at hq, l0, g0⟩
theorem errs_at (sh : List S80) : ∀ (pre suf : List S58) (kpre ksuf : List Int) (y : S58) (k : Int), kpre.length = pre.length → rd_L3 (errsOf sh (pre ++ y :: suf) (kpre ++ k :: ksuf)) (pre.length : Int) = (if k < 0 then [] else [dev0 y (rd_T80 sh k), dev1 y (rd_T80 sh k)])
  | [], suf, kpre, ksuf, y, k, h => by
    obtain rfl := List.length_eq_zero_iff.1 h
    simp [errsOf, rd_L3]
  | a :: pre, suf, [], ksuf, y, k, h => by simp at h
  | a :: pre, suf, b :: kpre, ksuf, y, k, h => by
    have ih := errs_at sh pre suf kpre ksuf y k (by simpa using h)
    simp only [List.cons_append, errsOf, rd_L3, Int.toNat_natCast] at ih ⊢
    simpa using ih
theorem row_el {w : World} {B : Nat} {ok : Nat → Prop} {v : Value} {rows : List (List Int)} (h : Kd.R (Kd.slice 3 (Kd.int .i64)) 24 w B ok v rows) (j : Nat) (hj : j < rows.length) :
    ∃ g cap u, v = .slice (some ⟨g, 0, none⟩) rows.length cap ∧ ok g ∧ g < w.heap.size ∧ w.cell? ⟨g, j, none⟩ = some u ∧ Kd.R (Kd.int .i64) 3 w B ok u (rd_L3 rows (j : Int)) := by
  obtain ⟨h0, inner, ho, hrep⟩ := h
  obtain ⟨ho1, hown⟩ := ho
  rcases hown with ⟨rfl, he⟩ | ⟨g, cap, cur, rfl, hg, hh, hn, hc, hs, ht⟩
  · omega
  have hlen : inner.length = rows.length := by simpa [Kd.slice] using ho1
  obtain ⟨u, hu, hR⟩ := hrep.2 j rows[j] (by simp [hj])
  have hsz : (Kd.slice 3 (Kd.int .i64)).sz = 1 := rfl
  rw [hsz] at hu
  have h3 := congrArg (fun l => l[0]?) hu
  have hi : inner[j]? = some u := by simpa [List.getElem?_take, List.getElem?_drop] using h3
  have hjc : j < cur.size := by simp [Kd.slice] at hs; omega
  have hcur : cur[j]? = some u := by
    have h3 := congrArg (fun l => l[j]?) ht
    simp only [List.getElem?_take] at h3
    rw [if_pos (by simp [Kd.slice]; omega), hi] at h3
    rw [← Array.getElem?_toList]; exact h3
  refine ⟨g, cap, u, rfl, h0 g (by simp [Value.ownBlock]), (Array.getElem?_eq_some_iff.1 hh).1, ?_, ?_⟩
  · simp only [World.cell?, hh]
    simp [hcur]
  · rw [show rd_L3 rows (j : Int) = rows[j] by simp [rd_L3, List.getD_eq_getElem?_getD, hj]]
    exact Kd.R_mono hR (fun k hk => hk.1)
theorem cell_kept {w6 wr : World} {gl B g j : Nat} {u : Value} (hk : ∀ k, k < B → k ≠ gl → wr.heap[k]? = w6.heap[k]?) (hg : g < B) (hn : g ≠ gl) (h : w6.cell? ⟨g, j, none⟩ = some u) : wr.cell? ⟨g, j, none⟩ = some u := by
  rw [← h]; exact World.cell?_of_block (w := w6) (hk g hg hn)
theorem row_form {α : Type} {d : Kd α} {e B : Nat} {ok : Nat → Prop} {W : World} {v : Value} {xs : List α} (h : d.R e W B ok v xs) : ∃ A n c, v = Value.slice A n c := by
  obtain ⟨A, c, e⟩ := Kd.R_slice h
  exact ⟨A, _, c, e⟩
theorem row_other {α : Type} {d : Kd α} {e B : Nat} {W w1 : World} {u v : Value} {xs : List α} (hE : d.E = []) (h : d.R e W B (fun _ => True) u xs) (hg : W.grownBy w1 v.ownBlock) (hne : NeRow u v) : d.R e w1 B (fun _ => True) u xs :=
  Kd.R_mono (Kd.R_grown (ok := fun k => some k ≠ v.ownBlock) (Kd.R_reok hE h (fun k hk he => hne k hk he.symm)) hg (fun k hk => hk)) (fun _ _ => trivial)
theorem nerow_app {α : Type} {d : Kd α} {e B : Nat} {W : World} {v v1 u : Value} {xs : List α} (h : NeRow v u) (hat : v1.ownBlock = v.ownBlock ∨ ∃ b, v1.ownBlock = some b ∧ W.heap.size ≤ b) (hr : d.R e W B (fun _ => True) u xs) : NeRow v1 u := by
  obtain ⟨inner, ho⟩ := Kd.R_own hr
  exact ne_append h hat ho
theorem row_set {α : Type} {d : Kd α} {e B g j : Nat} {W : World} {u x : Value} {xs : List α} (hE : d.E = []) (h : d.R e W B (fun _ => True) u xs) (hg : g < B) : d.R e (W.setCell ⟨g, j, none⟩ x) B (fun _ => True) u xs :=
  Kd.R_mono (Kd.R_far (p := ⟨g, j, none⟩) (Kd.R_bound h) (fun k hk => by have h1 := hk.2.1; show k ≠ g; omega) _) (fun _ _ => trivial)
/-- The row of five rows, while its first, third and fourth grow. -/
structure St (gl B : Nat) (w4 w6 wr : World) (u0 u2 u3 : Value) (y0 y2 y3 : List Int) : Prop where
  b : wr.heap[gl]? = some (.cells #[u0, .slice none 0 0, u2, u3, .slice none 0 0] 24 (0, 0))
  r0 : Kd.R (Kd.int .i64) 3 wr B (fun _ => True) u0 y0
  r2 : Kd.R (Kd.int .i64) 3 wr B (fun _ => True) u2 y2
  r3 : Kd.R (Kd.int .i64) 3 wr B (fun _ => True) u3 y3
  n02 : NeRow u0 u2
  n03 : NeRow u0 u3
  n23 : NeRow u2 u3
  k : ∀ k, k < B → k ≠ gl → wr.heap[k]? = w6.heap[k]?
  a : Below w4.heap.size w4 wr
  s : B ≤ wr.heap.size
section
variable {gl B : Nat} {w4 w6 wr w9 : World} {u0 u2 u3 v1 : Value} {y0 y2 y3 ys : List Int}
theorem St.below (h : St gl B w4 w6 wr u0 u2 u3 y0 y2 y3) (hb : Below wr.heap.size wr w9) : St gl B w4 w6 w9 u0 u2 u3 y0 y2 y3 where
  b := blk_below h.b hb
  r0 := Kd.R_below h.r0 hb
  r2 := Kd.R_below h.r2 hb
  r3 := Kd.R_below h.r3 hb
  n02 := h.n02
  n03 := h.n03
  n23 := h.n23
  k := fun k hk hg => (hb.block k (Nat.lt_of_lt_of_le hk h.s)).trans (h.k k hk hg)
  a := below_on h.a h.a.size hb
  s := Nat.le_trans h.s hb.size
theorem keep_set {g j : Nat} {u : Value} (hk : ∀ k, k < B → k ≠ gl → w9.heap[k]? = w6.heap[k]?) (hg : g = gl) : ∀ k, k < B → k ≠ gl → (w9.setCell ⟨g, j, none⟩ u).heap[k]? = w6.heap[k]? := fun k h1 h2 => by
  rw [Below.heap_setCell w9 ⟨g, j, none⟩ u k (by show k ≠ g; omega)]; exact hk k h1 h2
theorem St.app0 (h : St gl B w4 w6 wr u0 u2 u3 y0 y2 y3) (hgl : gl < B) (h4 : w4.heap.size ≤ gl) (ho : Kd.R (Kd.int .i64) 3 w9 B (fun _ => True) v1 ys) (hb : Below B wr w9) (hg : wr.grownBy w9 u0.ownBlock) (hat : v1.ownBlock = u0.ownBlock ∨ ∃ b, v1.ownBlock = some b ∧ wr.heap.size ≤ b) :
    St gl B w4 w6 (w9.setCell ⟨gl, 0, none⟩ v1) v1 u2 u3 ys y2 y3 where
  b := blk_put ((hb.block gl hgl).trans h.b) 0 _ rfl
  r0 := row_set rfl ho hgl
  r2 := row_set rfl (row_other rfl h.r2 hg (ne_symm h.n02)) hgl
  r3 := row_set rfl (row_other rfl h.r3 hg (ne_symm h.n03)) hgl
  n02 := nerow_app h.n02 hat h.r2
  n03 := nerow_app h.n03 hat h.r3
  n23 := h.n23
  k := keep_set (fun k hk hg => (hb.block k hk).trans (h.k k hk hg)) rfl
  a := (h.a.trans (hb.mono (by omega))).setCell (by exact h4) _
  s := Nat.le_trans (Nat.le_trans h.s hb.size) (by simp)
theorem St.app2 (h : St gl B w4 w6 wr u0 u2 u3 y0 y2 y3) (hgl : gl < B) (h4 : w4.heap.size ≤ gl) (ho : Kd.R (Kd.int .i64) 3 w9 B (fun _ => True) v1 ys) (hb : Below B wr w9) (hg : wr.grownBy w9 u2.ownBlock) (hat : v1.ownBlock = u2.ownBlock ∨ ∃ b, v1.ownBlock = some b ∧ wr.heap.size ≤ b) :
    St gl B w4 w6 (w9.setCell ⟨gl, 2, none⟩ v1) u0 v1 u3 y0 ys y3 where
  b := blk_put ((hb.block gl hgl).trans h.b) 2 _ rfl
  r0 := row_set rfl (row_other rfl h.r0 hg h.n02) hgl
  r2 := row_set rfl ho hgl
  r3 := row_set rfl (row_other rfl h.r3 hg (ne_symm h.n23)) hgl
  n02 := ne_symm (nerow_app (ne_symm h.n02) hat h.r0)
  n03 := h.n03
  n23 := nerow_app h.n23 hat h.r3
  k := keep_set (fun k hk hg => (hb.block k hk).trans (h.k k hk hg)) rfl
  a := (h.a.trans (hb.mono (by omega))).setCell (by exact h4) _
  s := Nat.le_trans (Nat.le_trans h.s hb.size) (by simp)
theorem St.app3 (h : St gl B w4 w6 wr u0 u2 u3 y0 y2 y3) (hgl : gl < B) (h4 : w4.heap.size ≤ gl) (ho : Kd.R (Kd.int .i64) 3 w9 B (fun _ => True) v1 ys) (hb : Below B wr w9) (hg : wr.grownBy w9 u3.ownBlock) (hat : v1.ownBlock = u3.ownBlock ∨ ∃ b, v1.ownBlock = some b ∧ wr.heap.size ≤ b) :
    St gl B w4 w6 (w9.setCell ⟨gl, 3, none⟩ v1) u0 u2 v1 y0 y2 ys where
  b := blk_put ((hb.block gl hgl).trans h.b) 3 _ rfl
  r0 := row_set rfl (row_other rfl h.r0 hg h.n03) hgl
  r2 := row_set rfl (row_other rfl h.r2 hg h.n23) hgl
  r3 := row_set rfl ho hgl
  n02 := h.n02
  n03 := ne_symm (nerow_app (ne_symm h.n03) hat h.r0)
  n23 := ne_symm (nerow_app (ne_symm h.n23) hat h.r2)
  k := keep_set (fun k hk hg => (hb.block k hk).trans (h.k k hk hg)) rfl
  a := (h.a.trans (hb.mono (by omega))).setCell (by exact h4) _
  s := Nat.le_trans (Nat.le_trans h.s hb.size) (by simp)
end
def cntTo (L : List (List Int)) (j : Nat) : Nat := ((L.take j).map List.length).sum
theorem cnt_step (L : List (List Int)) (j : Nat) (h : j < L.length) : cntTo L (j + 1) = cntTo L j + (rd_L3 L (j : Int)).length := by
  unfold cntTo rd_L3
  rw [List.take_succ_eq_append_getElem h, List.map_append, List.sum_append]
  simp only [Int.toNat_natCast, List.getD_eq_getElem?_getD, List.getElem?_eq_getElem h, List.map_cons, List.map_nil, List.sum_cons, List.sum_nil, Option.getD_some, Nat.add_zero]
theorem cnt_mono (L : List (List Int)) : ∀ (i j : Nat), i ≤ j → cntTo L i ≤ cntTo L j
  | i, 0, h => by rw [show i = 0 by omega]; exact Nat.le_refl _
  | i, j + 1, h => by
    by_cases e : i = j + 1
    · rw [e]; exact Nat.le_refl _
    · refine Nat.le_trans (cnt_mono L i j (by omega)) ?_
      by_cases hl : j < L.length
      · rw [cnt_step L j hl]; omega
      · unfold cntTo
        rw [List.take_of_length_le (by omega), List.take_of_length_le (by omega)]; exact Nat.le_refl _
set_option maxHeartbeats 8000000 in
set_option maxRecDepth 100000 in
theorem sfaults_c (Ap : Option Addr) (cp : Nat) (x : S40) (A1 : Option Addr) (c1 : Nat) (l : List S58) (A2 : Option Addr) (c2 : Nat) (sh : List S80) (a0 a1 a2 m : Int) (w : World)
    (hp : Kd.C (Kd.int .i64) w Ap x.f0.length x.f0) (hcp : x.f0.length ≤ cp) (hr1 : Kd.C k58 w A1 l.length l) (hc1 : l.length ≤ c1) (hr2 : Kd.C k80 w A2 sh.length sh) (hc2 : sh.length ≤ c2)
    (hx : x.f0.length ≤ 20) (hrep : 0 ≤ x.f1 ∧ x.f1 ≤ 20) (hl : l.length ≤ 1000) (hlok : ∀ y ∈ l, okN y = true) (hs : sh.length ≤ 1000) (hok : ∀ h ∈ sh, okH h = true) (ha0 : 0 ≤ a0 ∧ a0 ≤ 40) (ha1 : 0 ≤ a1 ∧ a1 ≤ 40) :
    Calls Try.prog 44 #[.agg #[.slice Ap x.f0.length cp, .int .i64 x.f1], .slice A1 l.length c1, .slice A2 sh.length c2, .agg #[.int .i64 a0, .int .i64 a1, .int .i64 a2], .int .i64 m] w fun e w' => ∃ A c, e = .returned (.slice A (faultRows m x l sh a0 a1 a2).length c) ∧ Below w.heap.size w w' := by
  have HP := Aside0.mk hp
  have HR1 := Aside0.mk hr1
  have HR2 := Aside0.mk hr2
  have HOk := Aside0.mk hok
  have HLok := Aside0.mk hlok
  have HB := Aside0.mk (And.intro hrep (And.intro ha0 ha1))
  clear hp hr1 hr2 hok hlok hrep ha0 ha1
  have hu40 := Try.underlying40
  have hu37 := Try.underlying37
  have hmk : ∀ W : World, (Instr.makeSlice 71 (.int .i64 5) (.int .i64 5)).run Try.prog W = .ok (.slice (some ⟨W.heap.size, 0, none⟩) 5 5) (W.alloc (.cells #[.slice none 0 0, .slice none 0 0, .slice none 0 0, .slice none 0 0, .slice none 0 0] 24)) := by
    intro W
    have h := print_make_of (P := Try.prog) 71 24 (.slice none 0 0) 24 Try.underlying71 info24 rfl (by decide) 5 (by decide) W
    rw [show madeCells #[Value.slice none 0 0] 5 = #[.slice none 0 0, .slice none 0 0, .slice none 0 0, .slice none 0 0, .slice none 0 0] from by kernel_rfl] at h
    exact h
  go_enter Try.func44, Try.ntmps44
  go_upto_region 1 with (first | ((with_reducible refine gate_dst (N := 5) rfl ?_); refine box_event ?hg (N := 5) ?hd (cs := #[.slice Ap x.f0.length cp, .int .i64 x.f1]) (t := 40) ?hr ?_; (case hd => rfl); (case hg => rfl); (case hr => first | (go_simp; done) | (go_simp; rfl)); intro gi hg w1 hbox hb; have BI := Aside0.mk hbox; have HB1 := Aside0.mk hb; clear hg hbox hb) | ((with_reducible refine gate_dst (N := 8) rfl ?_); refine box_event ?hg (N := 8) ?hd (cs := #[.int .i64 a0, .int .i64 a1, .int .i64 a2]) (t := 37) ?hr ?_; (case hd => rfl); (case hg => rfl); (case hr => first | (go_simp; done) | (go_simp; rfl)); intro ga hg w2 hbox hb; have BA := Aside0.mk hbox; have BI2 := Aside0.mk (blk_below BI.out hb); have HB2 := Aside0.mk (below_on HB1.out HB1.out.size hb); clear hg hbox hb))
  have hI0 : w2.cell? ⟨gi, 0, none⟩ = some (.slice Ap x.f0.length cp) := (blk_cell BI2.out 0).trans rfl
  have hI1 : w2.cell? ⟨gi, 1, none⟩ = some (.int .i64 x.f1) := (blk_cell BI2.out 1).trans rfl
  go_wp2_with fail
  refine (smatch_c Ap cp x A1 c1 l A2 c2 sh w2 (Kd.C_below HP.out HB2.out) hcp (Kd.C_below HR1.out HB2.out) hc1 (Kd.C_below HR2.out HB2.out) hc2 hx hl hs (fun h hh => (okH_bd (HOk.out h hh)).1)).mono ?_
  rintro e w3 ⟨v28, v29, rfl, _, hv2, hb⟩
  have HX3 := Aside0.mk hv2
  have HB3 := Aside0.mk (below_on HB2.out HB2.out.size hb)
  have BI3 := Aside0.mk (blk_below BI2.out hb)
  have BA3 := Aside0.mk (blk_below BA.out hb)
  clear hv2 hb hI0 hI1 BI BI2 BA HB1 HB2
  have hI0 : w3.cell? ⟨gi, 0, none⟩ = some (.slice Ap x.f0.length cp) := (blk_cell BI3.out 0).trans rfl
  have hI1 : w3.cell? ⟨gi, 1, none⟩ = some (.int .i64 x.f1) := (blk_cell BI3.out 1).trans rfl
  have hA0 : w3.cell? ⟨ga, 0, none⟩ = some (.int .i64 a0) := (blk_cell BA3.out 0).trans rfl
  have hA1 : w3.cell? ⟨ga, 1, none⟩ = some (.int .i64 a1) := (blk_cell BA3.out 1).trans rfl
  have hA2 : w3.cell? ⟨ga, 2, none⟩ = some (.int .i64 a2) := (blk_cell BA3.out 2).trans rfl
  go_wp2_with fail
  refine (spy_c Ap cp x A2 c2 sh a0 a1 a2 w3 (Kd.C_below HP.out HB3.out) hcp (Kd.C_below HR2.out HB3.out) hc2 hx HB.out.1 hs HOk.out HB.out.2.1 HB.out.2.2).mono ?_
  rintro e w4 ⟨v35, v36, rfl, _, hv2, hb⟩
  have HSi := Aside0.mk hv2
  have HX4 := Aside0.mk (Kd.R_below HX3.out hb)
  have HB4 := Aside0.mk (below_on HB3.out HB3.out.size hb)
  have BI4 := Aside0.mk (blk_below BI3.out hb)
  have BA4 := Aside0.mk (blk_below BA3.out hb)
  clear hv2 hb hI0 hI1 hA0 hA1 hA2 BI3 BA3 HB3 HX3
  go_upto_region 4 with (fail)
  obtain ⟨Ax, cx, rfl⟩ := Kd.R_slice HX4.out
  obtain ⟨Asl, csl, rfl⟩ := Kd.R_slice HSi.out
  obtain ⟨gl, hgl⟩ : ∃ g, g = w4.heap.size := ⟨_, rfl⟩
  refine wp_world (F := fun wq => Aside0 (wq.heap[gl]? = some (.cells #[.slice none 0 0, .slice none 0 0, .slice none 0 0, .slice none 0 0, .slice none 0 0] 24 (0, 0))) ∧ Aside0 (Below w4.heap.size w4 wq)) ?facts ?_
  case facts => exact ⟨⟨by rw [hgl]; exact blk_new _ _⟩, ⟨below_alloc (Below.refl _ _) _⟩⟩
  rw [← hgl]
  intro w5 ⟨BL, HB5g⟩
  have HB5 : Aside0 (Below w4.heap.size w4 w5) := ⟨by rw [← hgl]; exact HB5g.out⟩
  clear HB5g
  have HGE := Aside0.mk hgl
  clear hgl hmk
  have HW5 := Aside0.mk (below_on HB4.out HB4.out.size HB5.out)
  have BI5 := Aside0.mk (blk_below BI4.out HB5.out)
  have hI0 : w5.cell? ⟨gi, 0, none⟩ = some (.slice Ap x.f0.length cp) := (blk_cell BI5.out 0).trans rfl
  have hI1 : w5.cell? ⟨gi, 1, none⟩ = some (.int .i64 x.f1) := (blk_cell BI5.out 1).trans rfl
  go_wp2_with fail
  refine (errs_c Ap cp x A1 c1 l A2 c2 sh w5 (Kd.C_below HP.out HW5.out) hcp (Kd.C_below HR1.out HW5.out) hc1 (Kd.C_below HR2.out HW5.out) hc2 hx hl HLok.out hs HOk.out).mono ?_
  rintro e w6 ⟨v41, rfl, hv, hb⟩
  have hel : (errsOf sh l (holesOf x.f0 sh l)).length = l.length := errs_len _ _ _ (holes_len _ _ _)
  obtain ⟨Ae, ce, rfl⟩ := Kd.R_slice hv
  have HEr := Aside0.mk (Kd.R_mono (ok' := fun k => k ≠ gl) (Kd.R_bound hv) (fun k hk he => by
    have h1 := hk.2.1
    have h2 := blk_lt BL.out
    omega))
  have BL6 := Aside0.mk (blk_below BL.out hb)
  have HB6 := Aside0.mk (below_on HB5.out HB5.out.size hb)
  clear hv hb hI0 hI1 BL HB5 BI5
  obtain ⟨B3, hB3⟩ : ∃ b, b = w6.heap.size := ⟨_, rfl⟩
  have HBE := Aside0.mk hB3
  have HG4 := Aside0.mk (show w4.heap.size ≤ gl by rw [HGE.out]; exact Nat.le_refl _)
  have HGL := Aside0.mk (show gl < B3 by rw [hB3]; exact blk_lt BL6.out)
  have HSN := Aside0.mk (show B3 ≤ w6.heap.size by rw [hB3]; exact Nat.le_refl _)
  have HKB := Aside0.mk (holes_bd x.f0 sh l)
  have hhl := holes_len x.f0 sh l
  have HHL := Aside0.mk hhl
  clear hB3 hhl
  go_wp2_with fail
  go_loopg [43] l.length (fun gk v43 wr => ∃ (pre suf : List S58) (kpre ksuf : List Int) (u0 u2 u3 : Value) (y0 y2 y3 : List Int), Aside0 (l = pre ++ suf) ∧ Aside0 (holesOf x.f0 sh l = kpre ++ ksuf ∧ kpre.length = pre.length ∧ ksuf.length = suf.length) ∧ v43 = .int .i64 (pre.length : Int) ∧ Aside0 (gk = suf.length) ∧ Aside0 (y0.length ≤ pre.length ∧ y2.length ≤ pre.length ∧ y3.length ≤ pre.length ∧ (noteRows m x l sh).length = y0.length + y2.length + y3.length + (rowsFrom m sh pre.length suf ksuf).length) ∧ Aside0 (St gl B3 w4 w6 wr u0 u2 u3 y0 y2 y3))
  case atStart => exact ⟨[], l, [], holesOf x.f0 sh l, _, _, _, [], [], [], ⟨rfl⟩, ⟨rfl, rfl, HHL.out⟩, rfl, ⟨rfl⟩, ⟨by simp, by simp, by simp, by simp [noteRows]⟩, ⟨⟨BL6.out, Kd.R_nil _ _ _ _ _, Kd.R_nil _ _ _ _ _, Kd.R_nil _ _ _ _ _, ne_nil _, ne_nil _, ne_nil _, fun _ _ _ => rfl, HB6.out, HSN.out⟩⟩⟩
  case round =>
    clear BL6 HB6 HSN
    obtain ⟨pre, suf, kpre, ksuf, u0, u2, u3, y0, y2, y3, HE, HK, rfl, HG, HM, HS⟩ := hrel
    cases suf with
    | nil =>
      have hlt2 : ¬ pre.length < l.length := by have := HE.out; rw [this]; simp
      have hle2 : pre.length ≤ l.length := by have := HE.out; rw [this]; simp
      have HTot := Aside0.mk (show cntTo [y0, freeFrom 0 (usedOf x.f0 sh l), y2, y3, (spoke x a0 a1 a2 sh).2] 5 = (faultRows m x l sh a0 a1 a2).length ∧ cntTo [y0, freeFrom 0 (usedOf x.f0 sh l), y2, y3, (spoke x a0 a1 a2 sh).2] 5 ≤ 5000 from by
        have hm := HM.out
        have h1 := freed_len x.f0 sh l
        have h2 := silent_len x a0 a1 a2 sh
        have h3 : (faultRows m x l sh a0 a1 a2).length = (noteRows m x l sh).length + (freeFrom 0 (usedOf x.f0 sh l)).length + (spoke x a0 a1 a2 sh).2.length := by simp [faultRows]; omega
        have h4 : (noteRows m x l sh).length = y0.length + y2.length + y3.length := by rw [hm.2.2.2]; simp [rowsFrom]
        rw [h3, h4]
        simp [cntTo]; omega)
      have hc1 : wr.cell? ⟨gl, 1, none⟩ = some (.slice none 0 0) := (blk_cell HS.out.b 1).trans rfl
      have hc4 : wr.cell? ⟨gl, 4, none⟩ = some (.slice none 0 0) := (blk_cell HS.out.b 4).trans rfl
      have hf1 := blk_frozen HS.out.b 1
      have hf4 := blk_frozen HS.out.b 4
      go_upto_region 16 with (fail)
      refine wp_world (F := fun wz => Aside0 (∀ j : Nat, j < 5 → ∃ A c, wz.cell? ⟨gl, j, none⟩ = some (.slice A (rd_L3 [y0, freeFrom 0 (usedOf x.f0 sh l), y2, y3, (spoke x a0 a1 a2 sh).2] (j : Int)).length c) ∧ Kd.C (Kd.int .i64) wz A (rd_L3 [y0, freeFrom 0 (usedOf x.f0 sh l), y2, y3, (spoke x a0 a1 a2 sh).2] (j : Int)).length (rd_L3 [y0, freeFrom 0 (usedOf x.f0 sh l), y2, y3, (spoke x a0 a1 a2 sh).2] (j : Int))) ∧ Aside0 (Below w4.heap.size w4 wz) ∧ Aside0 (gl < wz.heap.size)) ?facts ?_
      case facts =>
        have hb1 := blk_put HS.out.b 1 (.slice Ax (freeFrom 0 (usedOf x.f0 sh l)).length cx) rfl
        have hb2 := blk_put hb1 4 (.slice Asl (spoke x a0 a1 a2 sh).2.length csl) rfl
        have hbw : Below w4.heap.size w4 ((wr.setCell ⟨gl, 1, none⟩ (.slice Ax (freeFrom 0 (usedOf x.f0 sh l)).length cx)).setCell ⟨gl, 4, none⟩ (.slice Asl (spoke x a0 a1 a2 sh).2.length csl)) := (HS.out.a.setCell (by exact HG4.out) _).setCell (by exact HG4.out) _
        refine ⟨⟨fun j hj => ?_⟩, ⟨hbw⟩, ⟨blk_lt hb2⟩⟩
        have r0 := row_set (j := 4) (x := .slice Asl (spoke x a0 a1 a2 sh).2.length csl) rfl (row_set (j := 1) (x := .slice Ax (freeFrom 0 (usedOf x.f0 sh l)).length cx) rfl HS.out.r0 HGL.out) HGL.out
        have r2 := row_set (j := 4) (x := .slice Asl (spoke x a0 a1 a2 sh).2.length csl) rfl (row_set (j := 1) (x := .slice Ax (freeFrom 0 (usedOf x.f0 sh l)).length cx) rfl HS.out.r2 HGL.out) HGL.out
        have r3 := row_set (j := 4) (x := .slice Asl (spoke x a0 a1 a2 sh).2.length csl) rfl (row_set (j := 1) (x := .slice Ax (freeFrom 0 (usedOf x.f0 sh l)).length cx) rfl HS.out.r3 HGL.out) HGL.out
        have r1 := Kd.R_reads' (Kd.R_below HX4.out hbw)
        have r4 := Kd.R_reads' (Kd.R_below HSi.out hbw)
        obtain ⟨A0', c0', rfl, _, g0⟩ := Kd.R_reads r0
        obtain ⟨A2', c2', rfl, _, g2⟩ := Kd.R_reads r2
        obtain ⟨A3', c3', rfl, _, g3⟩ := Kd.R_reads r3
        match j, hj with
        | 0, _ => exact ⟨A0', c0', (blk_cell hb2 0).trans rfl, g0⟩
        | 1, _ => exact ⟨Ax, cx, (blk_cell hb2 1).trans rfl, r1.2.2⟩
        | 2, _ => exact ⟨A2', c2', (blk_cell hb2 2).trans rfl, g2⟩
        | 3, _ => exact ⟨A3', c3', (blk_cell hb2 3).trans rfl, g3⟩
        | 4, _ => exact ⟨Asl, csl, (blk_cell hb2 4).trans rfl, r4.2.2⟩
      intro wz ⟨HZ, HBZW, HGZ⟩
      obtain ⟨LY, hLY⟩ : ∃ q, q = [y0, freeFrom 0 (usedOf x.f0 sh l), y2, y3, (spoke x a0 a1 a2 sh).2] := ⟨_, rfl⟩
      rw [← hLY] at HZ HTot
      have HLY := Aside0.mk (show LY.length = 5 by rw [hLY]; rfl)
      clear hLY hc1 hc4 hf1 hf4 HS HM
      obtain ⟨B4, hB4⟩ : ∃ b, b = wz.heap.size := ⟨_, rfl⟩
      have HBZ := Aside0.mk hB4
      have HO := Aside0.mk (Kd.R_nil (Kd.slice 3 (Kd.int .i64)) 24 wz B4 (fun _ => True))
      have HBN : Aside0 (Below B4 wz wz) := ⟨Below.refl _ _⟩
      have HSN := Aside0.mk (show B4 ≤ wz.heap.size by rw [hB4]; exact Nat.le_refl _)
      clear hB4
      go_wp2_with fail
      go_loopg [18, 96] 5 (fun gk v18 v96 wr => ∃ (j : Nat) (rows : List (List Int)), j ≤ 5 ∧ v96 = .int .i64 (j : Int) ∧ Aside0 (gk = 5 - j) ∧ Aside0 (rows.length = cntTo LY j) ∧ Aside0 (Kd.R (Kd.slice 3 (Kd.int .i64)) 24 wr B4 (fun _ => True) v18 rows) ∧ Aside0 (Below B4 wz wr) ∧ Aside0 (B4 ≤ wr.heap.size))
      case atStart => exact ⟨0, [], by omega, rfl, ⟨rfl⟩, ⟨rfl⟩, HO, HBN, HSN⟩
      case round =>
        clear HO HBN HSN
        obtain ⟨j, rows, hj5, rfl, HGJ, HRC, HO2, HB2, HS2⟩ := hrel
        by_cases hj : j < 5
        · obtain ⟨Aj, cj, hx0, hCj⟩ := HZ.out j hj
          replace hx0 := (HB2.out.cell (by exact (HBZ.out.symm ▸ HGZ.out))).trans hx0
          have HCj := Aside0.mk hCj
          have HRn := Aside0.mk (show rows.length + (rd_L3 LY (j : Int)).length = cntTo LY (j + 1) ∧ cntTo LY (j + 1) ≤ 5000 from by
            have h1 := cnt_step LY j (by rw [HLY.out]; omega)
            have h2 := cnt_mono LY (j + 1) 5 (by omega)
            have h3 := HTot.out.2
            refine ⟨by rw [h1, HRC.out], by omega⟩)
          clear hCj
          obtain ⟨zs, hzs⟩ : ∃ q, q = rd_L3 LY (j : Int) := ⟨_, rfl⟩
          rw [← hzs] at hx0 HCj HRn
          clear hzs
          have hjI : (j : Int) < 5 := by omega
          have hjd : decide ((j : Int) < 5) = true := decide_eq_true hjI
          have hzl : zs.length ≤ 5000 := by have := HRn.out; omega
          go_wp2_with fail
          go_loopg [18, 103] zs.length (fun gk v18 v103 wr => ∃ (zp zq : List Int) (rows3 : List (List Int)), Aside0 (zs = zp ++ zq) ∧ v103 = .int .i64 (zp.length : Int) ∧ Aside0 (gk = zq.length) ∧ Aside0 (rows3.length = rows.length + zp.length) ∧ Aside0 (Kd.R (Kd.slice 3 (Kd.int .i64)) 24 wr B4 (fun _ => True) v18 rows3) ∧ Aside0 (Below B4 wz wr) ∧ Aside0 (B4 ≤ wr.heap.size))
          case atStart => exact ⟨[], zs, rows, ⟨rfl⟩, rfl, ⟨rfl⟩, ⟨rfl⟩, HO2, HB2, HS2⟩
          case round =>
            clear HO2 HB2 HS2 hx0
            obtain ⟨zp, zq, rows3, HE3, rfl, HG3, HM3, HO3, HB3, HS3⟩ := hrel
            cases zq with
            | nil =>
              have hlt4 : ¬ zp.length < zs.length := by have := HE3.out; rw [this]; simp
              have hle4 : zp.length ≤ zs.length := by have := HE3.out; rw [this]; simp
              have HRC2 := Aside0.mk (show rows3.length = cntTo LY (j + 1) from by
                have h1 := congrArg List.length HE3.out
                simp at h1
                rw [HM3.out, ← HRn.out.1, h1])
              go_wp2_with fail
              go_roundg (5 - (j + 1))
              case measure => have := HGJ.out; omega
              case rel => exact ⟨j + 1, rows3, by omega, by simp, ⟨rfl⟩, HRC2, HO3, HB3, HS3⟩
            | cons q zq =>
              have hlt4 : zp.length < zs.length := by have := HE3.out; rw [this]; simp
              obtain ⟨ads, e, hk0⟩ := Kd.at_int HCj.out (zp.length : Int) (by omega) (by omega)
              cases e
              rw [show rd zs (zp.length : Int) = q by rw [HE3.out]; exact rd_at zp zq q, Int.toNat_natCast] at hk0
              replace hk0 := (HB3.out.cell (HBZ.out ▸ World.block_lt_of_cell? wz _ hk0)).trans hk0
              have HRL := Aside0.mk (show rows3.length ≤ 6000 by have := HM3.out; have := HRn.out; omega)
              go_wp2_with (first | ((with_reducible refine gate_dst (N := 110) rfl ?_); refine Kd.R_lit (Kd.int .i64) _ 3 ?hg (N := 110) ?hd (xs := [(j : Int), q]) (inner := [.int .i64 (j : Int), .int .i64 q]) (ok := fun _ => True) (okp := fun _ => True) ?hr ?hp (fun _ hk => hk) trivial (Below.refl _ _) (Nat.le_refl _) (by simp) ?_; (case hd => rfl); (case hg => rfl); (case hr => first | (go_simp; done) | (go_simp; rfl)); (case hp => exact (Reps.one (show Kd.M (Kd.int .i64) _ _ _ (j : Int) [.int .i64 (j : Int)] from rfl) (Reps.one (show Kd.M (Kd.int .i64) _ _ _ q [.int .i64 q] from rfl) (Reps.none _ _)))); intro vp wp ho hb hg_ hnew_; clear hg_ hnew_; have HLit := Aside0.mk (pair_lit ho hb (by (with_reducible repeat apply Kd.R_drewN); exact HO3.out) (by (repeat apply pw_below_drewN); exact HB3.out) HS3.out); clear ho hb; (obtain ⟨Ap_, cp_, eap_⟩ := Kd.R_slice HLit.out.1); subst eap_) | (at_builtin; refine Kd.R_append (Kd.slice 3 (Kd.int .i64)) (w0 := wz) B4 rfl (.tmp 107) (.tmp 111) 71 24 (.slice none 0 0) 24 rfl Try.underlying71 info24 rfl (by decide) (by omega) _ rows3 [(j : Int), q] [.slice Ap_ [(j : Int), q].length cp_] (fun _ => True) (fun k => some k ≠ u18.ownBlock) rfl rfl ?aP (fun _ hk => ⟨trivial, hk⟩) ?aF ?aO ?aB ?aS ?aL ?_; (case aP => exact Kd.M_row (by (with_reducible repeat apply Kd.R_drewN); exact HLit.out.1)); (case aB => exact (by (repeat apply pw_below_drewN); exact HLit.out.2.2.1)); (case aF => exact (fun _ _ => trivial)); (case aO => exact (by (with_reducible repeat apply Kd.R_drewN); exact HLit.out.2.1)); (case aS => exact HLit.out.2.2.2); (case aL => have := HRL.out; omega); intro vo' wo ho hb9 _ _; have HO9 := Aside0.mk ho; have HB9 := Aside0.mk hb9; have HS9 := Aside0.mk (show B4 ≤ wo.heap.size by rw [HBZ.out]; exact Below.size hb9); clear ho hb9))
              go_roundg zq.length
              case measure => have := HG3.out; simp at this; omega
              case rel => exact ⟨zp ++ [q], zq, rows3 ++ [[(j : Int), q]], ⟨by rw [HE3.out]; simp⟩, by simp, ⟨rfl⟩, ⟨by simp [HM3.out]; omega⟩, HO9, HB9, HS9⟩
        · obtain rfl : j = 5 := by omega
          have HR5 := Aside0.mk (show rows.length = (faultRows m x l sh a0 a1 a2).length from by rw [HRC.out, HTot.out.1])
          obtain ⟨Av, cv, rfl⟩ := Kd.R_slice HO2.out
          go_wp2_with fail
          go_ret
          exact ⟨Av, cv, by rw [← HR5.out]; rfl, (HB4.out.trans (HBZW.out.mono HB4.out.size)).trans (HB2.out.mono (by rw [HBZ.out]; exact Nat.le_trans HB4.out.size HBZW.out.size))⟩
    | cons y suf =>
      have hlt2 : pre.length < l.length := by have := HE.out; rw [this]; simp
      obtain ⟨k, ksuf, rfl⟩ : ∃ k r, ksuf = k :: r := by
        cases ksuf with
        | nil => have := HK.out.2.2; simp at this
        | cons k r => exact ⟨k, r, rfl⟩
      obtain ⟨ge, ce', ui, hve, hge, hgeb, hx0, hRi⟩ := row_el HEr.out pre.length (by rw [hel]; omega)
      injection hve with hve1 _ hve3
      subst hve1 hve3
      have hrow : rd_L3 (errsOf sh l (holesOf x.f0 sh l)) (pre.length : Int) = (if k < 0 then [] else [dev0 y (rd_T80 sh k), dev1 y (rd_T80 sh k)]) := by
        rw [HK.out.1, HE.out]
        exact errs_at sh pre suf kpre ksuf y k HK.out.2.1
      rw [hrow] at hRi
      replace hx0 := cell_kept HS.out.k (HBE.out ▸ hgeb) hge hx0
      have hkb := HKB.out k (by rw [HK.out.1]; simp)
      have hbl0 : wr.cell? ⟨gl, 0, none⟩ = some u0 := (blk_cell HS.out.b 0).trans rfl
      have hbl2 : wr.cell? ⟨gl, 2, none⟩ = some u2 := (blk_cell HS.out.b 2).trans rfl
      have hbl3 : wr.cell? ⟨gl, 3, none⟩ = some u3 := (blk_cell HS.out.b 3).trans rfl
      have HRi := Aside0.mk hRi
      clear hRi hrow hgeb hge
      have HYL := Aside0.mk (show y0.length ≤ 1000 ∧ y2.length ≤ 1000 ∧ y3.length ≤ 1000 by have := HM.out; omega)
      by_cases hkn : k < 0
      · rw [if_pos hkn] at HRi
        obtain ⟨Ai, ci, rfl⟩ := Kd.R_slice HRi.out
        have HM2 := Aside0.mk (show (y0 ++ [(pre.length : Int)]).length ≤ (pre ++ [y]).length ∧ y2.length ≤ (pre ++ [y]).length ∧ y3.length ≤ (pre ++ [y]).length ∧ (noteRows m x l sh).length = (y0 ++ [(pre.length : Int)]).length + y2.length + y3.length + (rowsFrom m sh (pre ++ [y]).length suf ksuf).length from by
          have hm := HM.out
          refine ⟨by simp; omega, by simp; omega, by simp; omega, ?_⟩
          rw [hm.2.2.2]; simp [rowsFrom, pairRows, hkn]; omega)
        go_wp2_with (first | (at_builtin; refine Kd.R_append (Kd.int .i64) (w0 := wr) B3 rfl (.tmp 54) (.tmp 56) 24 3 (.int .i64 0) 8 rfl Try.underlying24 info3 rfl (by decide) (by omega) _ y0 (pre.length : Int) [.int .i64 (pre.length : Int)] (fun _ => True) (fun _ => False) rfl rfl ?aP (fun _ hk => hk.elim) ?aF ?aO ?aB ?aS ?aL ?_; (case aP => exact rfl); (case aB => exact Below.refl _ _); (case aF => exact (fun _ _ => trivial)); (case aO => exact HS.out.r0); (case aS => exact HS.out.s); (case aL => have := HYL.out; omega); intro v0' w0' ho hb9 hg9 hat9; (obtain ⟨A0_, n0_, c0_, ev_⟩ := row_form ho); subst ev_; have HS0 := Aside0.mk (St.app0 HS.out HGL.out HG4.out ho hb9 hg9 hat9); have hcell : w0'.cell? ⟨gl, 0, none⟩ = some u0 := (blk_cell ((hb9.block gl HGL.out).trans HS.out.b) 0).trans rfl; have hfrz := blk_frozen ((hb9.block gl HGL.out).trans HS.out.b) 0; clear ho hb9 hg9 hat9))
        go_roundg suf.length
        case measure => have := HG.out; simp at this; omega
        case rel => exact ⟨pre ++ [y], suf, kpre ++ [k], ksuf, _, u2, u3, _, y2, y3, ⟨by rw [HE.out]; simp⟩, ⟨by rw [HK.out.1]; simp, by simp [HK.out.2.1], by have := HK.out.2.2; simp at this; exact this⟩, by simp, ⟨rfl⟩, HM2, HS0⟩
      · rw [if_neg hkn] at HRi
        obtain ⟨hk1, hk2⟩ : 0 ≤ k ∧ k < (sh.length : Int) := by rcases hkb with h | h <;> omega
        have HKN := Aside0.mk hkn
        have hYok := HLok.out y (by rw [HE.out]; simp)
        have hHok : okH (rd_T80 sh k) = true := HOk.out _ (by
          have hkn2 : k.toNat < sh.length := by omega
          unfold rd_T80
          rw [List.getD_eq_getElem?_getD, List.getElem?_eq_getElem hkn2]
          exact List.getElem_mem hkn2)
        have HDV := Aside0.mk (dev_bd hYok hHok)
        obtain ⟨gv, cv, rfl, _, hgvb, _⟩ := Kd.R_form HRi.out (by simp)
        have hgv : gv ≠ gl := HRi.out.1 gv (by simp [Value.ownBlock])
        obtain ⟨adv, e, hq0⟩ := Kd.at_int (Kd.R_reads' HRi.out).2.2 (0 : Int) (by omega) (by simp)
        cases e
        obtain ⟨adv', e, hq1⟩ := Kd.at_int (Kd.R_reads' HRi.out).2.2 (1 : Int) (by omega) (by simp)
        cases e
        replace hq0 : w6.cell? ⟨gv, 0, none⟩ = some (.int .i64 (dev0 y (rd_T80 sh k))) := hq0
        replace hq1 : w6.cell? ⟨gv, 1, none⟩ = some (.int .i64 (dev1 y (rd_T80 sh k))) := hq1
        have HVC := Aside0.mk (show ∀ w' : World, (∀ q, q < B3 → q ≠ gl → w'.heap[q]? = w6.heap[q]?) → w'.cell? ⟨gv, 1, none⟩ = some (.int .i64 (dev1 y (rd_T80 sh k))) from fun w' hw => cell_kept hw (HBE.out ▸ hgvb) hgv hq1)
        replace hq0 := cell_kept HS.out.k (HBE.out ▸ hgvb) hgv hq0
        clear hq1 hgvb hgv hbl0 hbl2 hbl3 hkb hYok hHok hkn
        go_wp2_with fail
        refine (abs_c (dev0 y (rd_T80 sh k)) HDV.out.1 HDV.out.2.1 wr).mono ?_
        rintro e w7 ⟨rfl, hb⟩
        have HS7 := Aside0.mk (HS.out.below hb)
        clear hb hq0 hx0
        by_cases g0 : m < ab (dev0 y (rd_T80 sh k)) <;> by_cases g1 : m < ab (dev1 y (rd_T80 sh k))
        · 
          have F0 : far0 m sh y k = true := decide_eq_true g0
          have F1 : far1 m sh y k = true := decide_eq_true g1
          have HF := Aside0.mk (And.intro F0 F1)
          have d0 : decide (m < ab (dev0 y (rd_T80 sh k))) = true := F0
          have d1 : decide (m < ab (dev1 y (rd_T80 sh k))) = true := F1
          clear F0 F1 g0 g1
          have HM2 := Aside0.mk (show y0.length ≤ (pre ++ [y]).length ∧ (y2 ++ [(pre.length : Int)]).length ≤ (pre ++ [y]).length ∧ (y3 ++ [(pre.length : Int)]).length ≤ (pre ++ [y]).length ∧ (noteRows m x l sh).length = y0.length + (y2 ++ [(pre.length : Int)]).length + (y3 ++ [(pre.length : Int)]).length + (rowsFrom m sh (pre ++ [y]).length suf ksuf).length from by
            have hm := HM.out
            refine ⟨by simp; omega, by simp; omega, by simp; omega, ?_⟩
            rw [hm.2.2.2]; simp only [rowsFrom, pairRows, if_neg (show ¬ k < 0 by have := HKN.out; omega), HF.out.1, HF.out.2]; simp <;> omega)
          have hbl2 : w7.cell? ⟨gl, 2, none⟩ = some u2 := (blk_cell HS7.out.b 2).trans rfl
          go_upto_region 11 with (first | (at_builtin; refine Kd.R_append (Kd.int .i64) (w0 := w7) B3 rfl (.tmp 68) (.tmp 70) 24 3 (.int .i64 0) 8 rfl Try.underlying24 info3 rfl (by decide) (by omega) _ y2 (pre.length : Int) [.int .i64 (pre.length : Int)] (fun _ => True) (fun _ => False) rfl rfl ?aP (fun _ hk => hk.elim) ?aF ?aO ?aB ?aS ?aL ?_; (case aP => exact rfl); (case aB => exact Below.refl _ _); (case aF => exact (fun _ _ => trivial)); (case aO => exact HS7.out.r2); (case aS => exact HS7.out.s); (case aL => have := HYL.out; omega); intro v2' w2' ho hb9 hg9 hat9; (obtain ⟨A2_, n2_, c2_, ev_⟩ := row_form ho); subst ev_; have HS2 := Aside0.mk (St.app2 HS7.out HGL.out HG4.out ho hb9 hg9 hat9); have hcell : w2'.cell? ⟨gl, 2, none⟩ = some u2 := (blk_cell ((hb9.block gl HGL.out).trans HS7.out.b) 2).trans rfl; have hfrz := blk_frozen ((hb9.block gl HGL.out).trans HS7.out.b) 2; clear ho hb9 hg9 hat9))
          refine wp_world (F := fun wz => Aside0 (St gl B3 w4 w6 wz u0 (.slice A2_ n2_ c2_) u3 y0 (y2 ++ [(pre.length : Int)]) y3)) HS2 ?_
          clear hcell hfrz hbl2
          intro w8 HS8
          have hv1 : w8.cell? ⟨gv, 1, none⟩ = some (.int .i64 (dev1 y (rd_T80 sh k))) := HVC.out w8 (fun q hq hne => HS8.out.k q hq hne)
          go_wp2_with fail
          refine (abs_c (dev1 y (rd_T80 sh k)) HDV.out.2.2.1 HDV.out.2.2.2 w8).mono ?_
          rintro e w9 ⟨rfl, hb⟩
          have HS9 := Aside0.mk (HS8.out.below hb)
          clear hb hv1
          have hbl3 : w9.cell? ⟨gl, 3, none⟩ = some u3 := (blk_cell HS9.out.b 3).trans rfl
          go_wp2_with (first | (at_builtin; refine Kd.R_append (Kd.int .i64) (w0 := w9) B3 rfl (.tmp 82) (.tmp 84) 24 3 (.int .i64 0) 8 rfl Try.underlying24 info3 rfl (by decide) (by omega) _ y3 (pre.length : Int) [.int .i64 (pre.length : Int)] (fun _ => True) (fun _ => False) rfl rfl ?aP (fun _ hk => hk.elim) ?aF ?aO ?aB ?aS ?aL ?_; (case aP => exact rfl); (case aB => exact Below.refl _ _); (case aF => exact (fun _ _ => trivial)); (case aO => exact HS9.out.r3); (case aS => exact HS9.out.s); (case aL => have := HYL.out; omega); intro v3' w3' ho hb9 hg9 hat9; (obtain ⟨A3_, n3_, c3_, ev_⟩ := row_form ho); subst ev_; have HS3 := Aside0.mk (St.app3 HS9.out HGL.out HG4.out ho hb9 hg9 hat9); have hcell : w3'.cell? ⟨gl, 3, none⟩ = some u3 := (blk_cell ((hb9.block gl HGL.out).trans HS9.out.b) 3).trans rfl; have hfrz := blk_frozen ((hb9.block gl HGL.out).trans HS9.out.b) 3; clear ho hb9 hg9 hat9))
          go_roundg suf.length
          case measure => have := HG.out; simp at this; omega
          case rel => exact ⟨pre ++ [y], suf, kpre ++ [k], ksuf, u0, _, _, y0, _, _, ⟨by rw [HE.out]; simp⟩, ⟨by rw [HK.out.1]; simp, by simp [HK.out.2.1], by have := HK.out.2.2; simp at this; exact this⟩, by simp, ⟨rfl⟩, HM2, HS3⟩
        · 
          have F0 : far0 m sh y k = true := decide_eq_true g0
          have F1 : far1 m sh y k = false := decide_eq_false g1
          have HF := Aside0.mk (And.intro F0 F1)
          have d0 : decide (m < ab (dev0 y (rd_T80 sh k))) = true := F0
          have d1 : decide (m < ab (dev1 y (rd_T80 sh k))) = false := F1
          clear F0 F1 g0 g1
          have HM2 := Aside0.mk (show y0.length ≤ (pre ++ [y]).length ∧ (y2 ++ [(pre.length : Int)]).length ≤ (pre ++ [y]).length ∧ y3.length ≤ (pre ++ [y]).length ∧ (noteRows m x l sh).length = y0.length + (y2 ++ [(pre.length : Int)]).length + y3.length + (rowsFrom m sh (pre ++ [y]).length suf ksuf).length from by
            have hm := HM.out
            refine ⟨by simp; omega, by simp; omega, by simp; omega, ?_⟩
            rw [hm.2.2.2]; simp only [rowsFrom, pairRows, if_neg (show ¬ k < 0 by have := HKN.out; omega), HF.out.1, HF.out.2]; simp <;> omega)
          have hbl2 : w7.cell? ⟨gl, 2, none⟩ = some u2 := (blk_cell HS7.out.b 2).trans rfl
          go_upto_region 11 with (first | (at_builtin; refine Kd.R_append (Kd.int .i64) (w0 := w7) B3 rfl (.tmp 68) (.tmp 70) 24 3 (.int .i64 0) 8 rfl Try.underlying24 info3 rfl (by decide) (by omega) _ y2 (pre.length : Int) [.int .i64 (pre.length : Int)] (fun _ => True) (fun _ => False) rfl rfl ?aP (fun _ hk => hk.elim) ?aF ?aO ?aB ?aS ?aL ?_; (case aP => exact rfl); (case aB => exact Below.refl _ _); (case aF => exact (fun _ _ => trivial)); (case aO => exact HS7.out.r2); (case aS => exact HS7.out.s); (case aL => have := HYL.out; omega); intro v2' w2' ho hb9 hg9 hat9; (obtain ⟨A2_, n2_, c2_, ev_⟩ := row_form ho); subst ev_; have HS2 := Aside0.mk (St.app2 HS7.out HGL.out HG4.out ho hb9 hg9 hat9); have hcell : w2'.cell? ⟨gl, 2, none⟩ = some u2 := (blk_cell ((hb9.block gl HGL.out).trans HS7.out.b) 2).trans rfl; have hfrz := blk_frozen ((hb9.block gl HGL.out).trans HS7.out.b) 2; clear ho hb9 hg9 hat9))
          refine wp_world (F := fun wz => Aside0 (St gl B3 w4 w6 wz u0 (.slice A2_ n2_ c2_) u3 y0 (y2 ++ [(pre.length : Int)]) y3)) HS2 ?_
          clear hcell hfrz hbl2
          intro w8 HS8
          have hv1 : w8.cell? ⟨gv, 1, none⟩ = some (.int .i64 (dev1 y (rd_T80 sh k))) := HVC.out w8 (fun q hq hne => HS8.out.k q hq hne)
          go_wp2_with fail
          refine (abs_c (dev1 y (rd_T80 sh k)) HDV.out.2.2.1 HDV.out.2.2.2 w8).mono ?_
          rintro e w9 ⟨rfl, hb⟩
          have HS9 := Aside0.mk (HS8.out.below hb)
          clear hb hv1
          go_wp2_with fail
          go_roundg suf.length
          case measure => have := HG.out; simp at this; omega
          case rel => exact ⟨pre ++ [y], suf, kpre ++ [k], ksuf, u0, _, u3, y0, _, _, ⟨by rw [HE.out]; simp⟩, ⟨by rw [HK.out.1]; simp, by simp [HK.out.2.1], by have := HK.out.2.2; simp at this; exact this⟩, by simp, ⟨rfl⟩, HM2, HS9⟩
        · 
          have F0 : far0 m sh y k = false := decide_eq_false g0
          have F1 : far1 m sh y k = true := decide_eq_true g1
          have HF := Aside0.mk (And.intro F0 F1)
          have d0 : decide (m < ab (dev0 y (rd_T80 sh k))) = false := F0
          have d1 : decide (m < ab (dev1 y (rd_T80 sh k))) = true := F1
          clear F0 F1 g0 g1
          have HM2 := Aside0.mk (show y0.length ≤ (pre ++ [y]).length ∧ y2.length ≤ (pre ++ [y]).length ∧ (y3 ++ [(pre.length : Int)]).length ≤ (pre ++ [y]).length ∧ (noteRows m x l sh).length = y0.length + y2.length + (y3 ++ [(pre.length : Int)]).length + (rowsFrom m sh (pre ++ [y]).length suf ksuf).length from by
            have hm := HM.out
            refine ⟨by simp; omega, by simp; omega, by simp; omega, ?_⟩
            rw [hm.2.2.2]; simp only [rowsFrom, pairRows, if_neg (show ¬ k < 0 by have := HKN.out; omega), HF.out.1, HF.out.2]; simp <;> omega)
          go_upto_region 11 with (fail)
          have hv1 : w7.cell? ⟨gv, 1, none⟩ = some (.int .i64 (dev1 y (rd_T80 sh k))) := HVC.out w7 (fun q hq hne => HS7.out.k q hq hne)
          go_wp2_with fail
          refine (abs_c (dev1 y (rd_T80 sh k)) HDV.out.2.2.1 HDV.out.2.2.2 w7).mono ?_
          rintro e w9 ⟨rfl, hb⟩
          have HS9 := Aside0.mk (HS7.out.below hb)
          clear hb hv1
          have hbl3 : w9.cell? ⟨gl, 3, none⟩ = some u3 := (blk_cell HS9.out.b 3).trans rfl
          go_wp2_with (first | (at_builtin; refine Kd.R_append (Kd.int .i64) (w0 := w9) B3 rfl (.tmp 82) (.tmp 84) 24 3 (.int .i64 0) 8 rfl Try.underlying24 info3 rfl (by decide) (by omega) _ y3 (pre.length : Int) [.int .i64 (pre.length : Int)] (fun _ => True) (fun _ => False) rfl rfl ?aP (fun _ hk => hk.elim) ?aF ?aO ?aB ?aS ?aL ?_; (case aP => exact rfl); (case aB => exact Below.refl _ _); (case aF => exact (fun _ _ => trivial)); (case aO => exact HS9.out.r3); (case aS => exact HS9.out.s); (case aL => have := HYL.out; omega); intro v3' w3' ho hb9 hg9 hat9; (obtain ⟨A3_, n3_, c3_, ev_⟩ := row_form ho); subst ev_; have HS3 := Aside0.mk (St.app3 HS9.out HGL.out HG4.out ho hb9 hg9 hat9); have hcell : w3'.cell? ⟨gl, 3, none⟩ = some u3 := (blk_cell ((hb9.block gl HGL.out).trans HS9.out.b) 3).trans rfl; have hfrz := blk_frozen ((hb9.block gl HGL.out).trans HS9.out.b) 3; clear ho hb9 hg9 hat9))
          go_roundg suf.length
          case measure => have := HG.out; simp at this; omega
          case rel => exact ⟨pre ++ [y], suf, kpre ++ [k], ksuf, u0, u2, _, y0, _, _, ⟨by rw [HE.out]; simp⟩, ⟨by rw [HK.out.1]; simp, by simp [HK.out.2.1], by have := HK.out.2.2; simp at this; exact this⟩, by simp, ⟨rfl⟩, HM2, HS3⟩
        · 
          have F0 : far0 m sh y k = false := decide_eq_false g0
          have F1 : far1 m sh y k = false := decide_eq_false g1
          have HF := Aside0.mk (And.intro F0 F1)
          have d0 : decide (m < ab (dev0 y (rd_T80 sh k))) = false := F0
          have d1 : decide (m < ab (dev1 y (rd_T80 sh k))) = false := F1
          clear F0 F1 g0 g1
          have HM2 := Aside0.mk (show y0.length ≤ (pre ++ [y]).length ∧ y2.length ≤ (pre ++ [y]).length ∧ y3.length ≤ (pre ++ [y]).length ∧ (noteRows m x l sh).length = y0.length + y2.length + y3.length + (rowsFrom m sh (pre ++ [y]).length suf ksuf).length from by
            have hm := HM.out
            refine ⟨by simp; omega, by simp; omega, by simp; omega, ?_⟩
            rw [hm.2.2.2]; simp only [rowsFrom, pairRows, if_neg (show ¬ k < 0 by have := HKN.out; omega), HF.out.1, HF.out.2]; simp <;> omega)
          go_upto_region 11 with (fail)
          have hv1 : w7.cell? ⟨gv, 1, none⟩ = some (.int .i64 (dev1 y (rd_T80 sh k))) := HVC.out w7 (fun q hq hne => HS7.out.k q hq hne)
          go_wp2_with fail
          refine (abs_c (dev1 y (rd_T80 sh k)) HDV.out.2.2.1 HDV.out.2.2.2 w7).mono ?_
          rintro e w9 ⟨rfl, hb⟩
          have HS9 := Aside0.mk (HS7.out.below hb)
          clear hb hv1
          go_wp2_with fail
          go_roundg suf.length
          case measure => have := HG.out; simp at this; omega
          case rel => exact ⟨pre ++ [y], suf, kpre ++ [k], ksuf, u0, u2, u3, y0, _, _, ⟨by rw [HE.out]; simp⟩, ⟨by rw [HK.out.1]; simp, by simp [HK.out.2.1], by have := HK.out.2.2; simp at this; exact this⟩, by simp, ⟨rfl⟩, HM2, HS9⟩
end Go.Proofs.Ythhlmjcfhfkmdaa.Cx
