/- Sorting rows of pairs: slices.SortFunc over slices.Compare returns and turns nothing but the row. -/
import Derived.Test.YthhlmjcfhfkmdaaCyD
import Derived.Test.YthhlmjcfhfkmdaaYz
namespace Go.Proofs.Ythhlmjcfhfkmdaa.Cx
open Go.RowKit Go.Sort Go.Proofs.Ythhlmjcfhfkmdaa.PFnClassExactly Go.Proofs.YthhlmjcfhfkmdaaW.PrintWords Go.Proofs.YthhlmjcfhfkmdaaW.PrintLast Go.Proofs.YthhlmjcfhfkmdaaW.PrintMore
set_option linter.unusedVariables false
set_option linter.unusedSimpArgs false

/-- slices.Compare. -/
def cmpL : List Int → List Int → Int
  | [], [] => 0
  | [], _ :: _ => -1
  | _ :: _, [] => 1
  | x :: r, y :: t => if x < y then -1 else if y < x then 1 else cmpL r t
theorem cmpL_neg : ∀ x y, cmpL y x = - cmpL x y
  | [], [] => rfl
  | [], _ :: _ => rfl
  | _ :: _, [] => rfl
  | x :: r, y :: t => by
    have ih := cmpL_neg r t
    unfold cmpL
    split
    · rw [if_neg (by omega)]
    · split <;> simp_all
theorem cmpL_le : ∀ x y z, cmpL x y ≤ 0 → cmpL y z ≤ 0 → cmpL x z ≤ 0
  | [], _, [], _, _ => by simp [cmpL]
  | [], _, _ :: _, _, _ => by simp [cmpL]
  | _ :: _, [], _, h, _ => by simp [cmpL] at h
  | _ :: _, _ :: _, [], _, h => by simp [cmpL] at h
  | x :: r, y :: t, z :: u, h1, h2 => by
    have ih := cmpL_le r t u
    unfold cmpL at h1 h2 ⊢
    split at h1
    · split at h2
      · rw [if_pos (by omega)]; omega
      · split at h2
        · omega
        · rw [if_pos (by omega)]; omega
    · split at h1
      · omega
      · split at h2
        · rw [if_pos (by omega)]; omega
        · split at h2
          · omega
          · rw [if_neg (by omega), if_neg (by omega)]; exact ih h1 h2
theorem cmpL_lt : ∀ x y z, cmpL x y < 0 → cmpL y z < 0 → cmpL x z < 0
  | [], [], _, h, _ => by simp [cmpL] at h
  | [], _ :: _, [], _, h => by simp [cmpL] at h
  | [], _, _ :: _, _, _ => by simp [cmpL]
  | _ :: _, [], _, h, _ => by simp [cmpL] at h
  | _ :: _, _ :: _, [], _, h => by simp [cmpL] at h
  | x :: r, y :: t, z :: u, h1, h2 => by
    have ih := cmpL_lt r t u
    unfold cmpL at h1 h2 ⊢
    split at h1
    · split at h2
      · rw [if_pos (by omega)]; omega
      · split at h2
        · omega
        · rw [if_pos (by omega)]; omega
    · split at h1
      · omega
      · split at h2
        · rw [if_pos (by omega)]; omega
        · split at h2
          · omega
          · rw [if_neg (by omega), if_neg (by omega)]; exact ih h1 h2
theorem cmp_ev (l0 l1 : List Int) (h0 : l0.length ≤ 1048576) (h1 : l1.length ≤ 1048576) : Ev (fun k => slices_Compare_int_int.f k l0 l1) (cmpL l0 l1) := by
  have key : ∀ suf pre s1 p1 : List Int, l0 = pre ++ suf → l1 = p1 ++ s1 → p1.length = pre.length → Ev (fun k => slices_Compare_int_int.l0 k l0 l1 l0 (l0.length : Int) (pre.length : Int)) (cmpL suf s1) := by
    intro suf
    induction suf with
    | nil =>
      intro pre s1 p1 he he1 hp
      refine Ev.step (f := fun _ => some (cmpL [] s1)) (fun k => ?_) (Ev.now _)
      simp only [slices_Compare_int_int.l0]
      rw [if_neg (by rw [he]; simp)]
      cases s1 with
      | nil => rw [if_neg (by rw [he, he1]; simp; omega)]; rfl
      | cons y t => rw [if_pos (by rw [he, he1]; simp; omega)]; rfl
    | cons x suf ih =>
      intro pre s1 p1 he he1 hp
      have hlen : l0.length = pre.length + suf.length + 1 := by rw [he]; simp; omega
      have hr : rd l0 (pre.length : Int) = x := by rw [he]; exact rd_at pre suf x
      have hw : wrap64 ((pre.length : Int) + 1) = ((pre ++ [x]).length : Int) := by
        rw [w64 (by omega) (by omega)]; simp
      cases s1 with
      | nil =>
        refine Ev.step (f := fun _ => some 1) (fun k => ?_) (Ev.now _)
        simp only [slices_Compare_int_int.l0]
        rw [if_pos (by omega), if_pos (by omega), if_pos (by omega), if_pos (by rw [he1]; simp; omega)]
      | cons y t =>
        have hlen1 : l1.length = p1.length + t.length + 1 := by rw [he1]; simp; omega
        have hr1 : rd l1 (pre.length : Int) = y := by rw [he1, ← hp]; exact rd_at p1 t y
        have hi := ih (pre ++ [x]) t (p1 ++ [y]) (by rw [he]; simp) (by rw [he1]; simp) (by simp [hp])
        have hn : ∀ a, cmp_isNaN_int.f a = some false := fun a => by simp [cmp_isNaN_int.f]
        by_cases hxy : x < y
        · rw [show cmpL (x :: suf) (y :: t) = -1 by simp [cmpL, hxy]]
          refine Ev.step (f := fun _ => some (-1)) (fun k => ?_) (Ev.now _)
          simp only [slices_Compare_int_int.l0, hr, hr1, cmp_Compare_int.f, hn, Option.bind_some]
          rw [if_pos (by omega), if_pos (by omega), if_pos (by omega), if_neg (by omega), if_pos (by omega)]
          simp [hxy]
        · by_cases hyx : y < x
          · rw [show cmpL (x :: suf) (y :: t) = 1 by simp [cmpL, hxy, hyx]]
            refine Ev.step (f := fun _ => some 1) (fun k => ?_) (Ev.now _)
            simp only [slices_Compare_int_int.l0, hr, hr1, cmp_Compare_int.f, hn, Option.bind_some]
            rw [if_pos (by omega), if_pos (by omega), if_pos (by omega), if_neg (by omega), if_pos (by omega)]
            simp [hxy, hyx]
          · rw [show cmpL (x :: suf) (y :: t) = cmpL suf t by simp [cmpL, hxy, hyx]]
            refine Ev.step (fun k => ?_) hi
            simp only [slices_Compare_int_int.l0, hr, hr1, cmp_Compare_int.f, hn, Option.bind_some]
            rw [if_pos (by omega), if_pos (by omega), if_pos (by omega), if_neg (by omega), if_pos (by omega), hw]
            simp [hxy, hyx]
  exact key l0 [] l1 [] rfl rfl rfl
theorem put_below' {B : Nat} {W w : World} {enc : Nat → Value} (h : Below B W w) (hB : B ≤ w.heap.size) {g : Nat} (hg : B ≤ g) (d : Array Nat) (q : Nat) (os : Array Obj) : Below B W (Go.Proofs.sortWorld enc w g 0 q d os) := by
  have hs : (Go.Proofs.sortWorld enc w g 0 q d os).heap.size = w.heap.size + os.size := by
    unfold Go.Proofs.sortWorld Go.Sort.grow
    simp [size_putRow]
  refine ⟨h.os, h.tape, h.output, by rw [hs]; exact Nat.le_trans h.size (Nat.le_add_right _ _), fun k hk => ?_⟩
  have hk2 : k < w.heap.size := Nat.lt_of_lt_of_le hk hB
  rw [← h.block k hk]
  unfold Go.Proofs.sortWorld Go.Sort.grow putRow mapBlock
  show ((w.heap.modify g _) ++ os)[k]? = _
  rw [Array.getElem?_append_left (by simpa using hk2), Array.getElem?_modify, if_neg (by omega)]
set_option maxRecDepth 100000 in
theorem sort_rows_c (B : Nat) (v : Value) (rows : List (List Int)) (w : World) (hr : Kd.R (Kd.slice 3 (Kd.int .i64)) 24 w B (fun _ => True) v rows) (hv : v.ownBlock.isSome = true) (hB : B ≤ w.heap.size) (h2 : ∀ r ∈ rows, r.length = 2) (hl : rows.length ≤ 1048576) :
    Calls Try.prog 67 #[v, .func (.func 68) #[] #[]] w fun e w' => e = .returned (.tuple #[]) ∧ ∀ W, Below B W w → Below B W w' := by
  obtain ⟨h0, inner, ho, hrep⟩ := hr
  obtain ⟨ho1, hown⟩ := ho
  rcases hown with ⟨rfl, _⟩ | ⟨g, cap, cur, rfl, hg, hh, hn, hc, hs, ht⟩
  · simp [Value.ownBlock] at hv
  have hlen : inner.length = rows.length := by simpa [Kd.slice] using ho1
  have hgl : g < w.heap.size := (Array.getElem?_eq_some_iff.1 hh).1
  have hel : ∀ j (hj : j < rows.length), ∃ u, inner[j]? = some u ∧ Kd.R (Kd.int .i64) 3 w B (fun k => k ≠ g) u rows[j] := by
    intro j hj
    have h := hrep.2 j rows[j] (by simp [hj])
    obtain ⟨u, hu, hR⟩ := h
    refine ⟨u, ?_, Kd.R_mono hR (fun k hk he => hk.2 (by rw [he]; simp [Value.ownBlock]))⟩
    have hsz : (Kd.slice 3 (Kd.int .i64)).sz = 1 := rfl
    rw [hsz] at hu
    have h3 := congrArg (fun l => l[0]?) hu
    simpa [List.getElem?_take, List.getElem?_drop] using h3
  obtain ⟨d, hd, hdj⟩ : ∃ d : Array Nat, d.size = rows.length ∧ ∀ j, j < rows.length → d[j]! = j := ⟨Array.range rows.length, by simp, fun j hj => by simp [hj]⟩
  have hswo : SWO (Go.Proofs.ltOf (fun i j : Nat => cmpL (rows.getD i []) (rows.getD j []))) := by
    refine ⟨fun x => ?_, fun x y z h1 h2 => ?_, fun x y z h1 h2 => ?_⟩
    · have := cmpL_neg (rows.getD x []) (rows.getD x [])
      simp only [Go.Proofs.ltOf, decide_eq_false_iff_not]; omega
    · simp only [Go.Proofs.ltOf, decide_eq_true_eq] at *
      exact cmpL_lt _ _ _ h1 h2
    · simp only [Go.Proofs.ltOf, decide_eq_false_iff_not, Int.not_lt] at *
      have e1 := cmpL_neg (rows.getD x []) (rows.getD y [])
      have e2 := cmpL_neg (rows.getD y []) (rows.getD z [])
      have e3 := cmpL_neg (rows.getD x []) (rows.getD z [])
      have := cmpL_le _ _ _ (show cmpL (rows.getD z []) (rows.getD y []) ≤ 0 by omega) (show cmpL (rows.getD y []) (rows.getD x []) ≤ 0 by omega)
      omega
  have hone : Go.Proofs.OneCell (fun i : Nat => inner.getD i (.slice none 0 0)) := by
    intro i
    by_cases hi : i < rows.length
    · obtain ⟨u, hu, hR⟩ := hel i hi
      obtain ⟨A, c, rfl⟩ := Kd.R_slice hR
      simp [List.getD_eq_getElem?_getD, hu, Value.oneCell']
    · have : inner.length ≤ i := by omega
      simp [List.getD_eq_getElem?_getD, this, Value.oneCell']
  have hholds : Holds (fun i : Nat => inner.getD i (.slice none 0 0)) w g 0 d := by
    intro j hj
    rw [hd] at hj
    obtain ⟨u, hu, hR⟩ := hel j hj
    have hjc : j < cur.size := by simp [Kd.slice] at hs; omega
    have hcur : cur[j]? = some u := by
      have h3 := congrArg (fun l => l[j]?) ht
      simp only [List.getElem?_take] at h3
      rw [if_pos (by simp [Kd.slice]; omega), hu] at h3
      rw [← Array.getElem?_toList]; exact h3
    rw [hdj j hj]
    constructor
    · simp only [World.cell?, hh, Nat.zero_add]
      simp [hcur, List.getD_eq_getElem?_getD, hu]
    · simp [World.frozen?, hh]
  have hcmp : Go.Proofs.CmpLays1 Try.prog 68 #[] (fun i : Nat => inner.getD i (.slice none 0 0)) (fun i j : Nat => cmpL (rows.getD i []) (rows.getD j [])) g 0 d.size w := by
    intro m os dk hdk x y
    have hrd : ∀ i : Nat, ∃ A c, inner.getD i (.slice none 0 0) = .slice A (rows.getD i []).length c ∧ (rows.getD i []).length ≤ c ∧ Kd.C (Kd.int .i64) (Go.Proofs.sortWorld (fun i : Nat => inner.getD i (.slice none 0 0)) w g 0 m dk os) A (rows.getD i []).length (rows.getD i []) := by
      intro i
      by_cases hi : i < rows.length
      · obtain ⟨u, hu, hR⟩ := hel i hi
        have hR2 : Kd.R (Kd.int .i64) 3 (Go.Proofs.sortWorld (fun i : Nat => inner.getD i (.slice none 0 0)) w g 0 m dk os) B (fun k => k ≠ g) u rows[i] := Kd.R_step hR (fun k hk hlt => by
          unfold Go.Proofs.sortWorld Go.Sort.grow putRow mapBlock
          show ((w.heap.modify g _) ++ os)[k]? = _
          rw [Array.getElem?_append_left (by simpa using hlt), Array.getElem?_modify, if_neg (by omega)])
        obtain ⟨A, c, e, hc, hC⟩ := Kd.R_reads hR2
        have hg : rows.getD i [] = rows[i] := by simp [List.getD_eq_getElem?_getD, hi]
        rw [hg]
        exact ⟨A, c, by rw [List.getD_eq_getElem?_getD, hu]; exact e, hc, hC⟩
      · have h3 : inner.length ≤ i := by omega
        have h4 : rows.length ≤ i := by omega
        have hg : rows.getD i [] = [] := by simp [List.getD_eq_getElem?_getD, h4]
        rw [hg]
        refine ⟨none, 0, by simp [List.getD_eq_getElem?_getD, h3], by simp, ?_⟩
        exact (Kd.R_reads' (Kd.R_nil (Kd.int .i64) 3 _ 0 (fun _ => True))).2.2
    have hl2 : ∀ i : Nat, (rows.getD i []).length ≤ 1048576 := by
      intro i
      by_cases hi : i < rows.length
      · have hg : rows.getD i [] = rows[i] := by simp [List.getD_eq_getElem?_getD, hi]
        rw [hg, h2 _ (List.getElem_mem hi)]; omega
      · have h4 : rows.length ≤ i := by omega
        simp [List.getD_eq_getElem?_getD, h4]
    obtain ⟨A, c, ex, hc, hC⟩ := hrd x
    obtain ⟨A', c', ey, hc', hC'⟩ := hrd y
    obtain ⟨k, hk⟩ := (cmp_ev (rows.getD x []) (rows.getD y []) (hl2 x) (hl2 y)).rounds
    have hcall := slices_Compare_int_int.calls k A c (rows.getD x []) A' c' (rows.getD y []) _ _ hC hc hC' hc' hk
    show Calls Try.prog 68 (#[inner.getD x (.slice none 0 0), inner.getD y (.slice none 0 0)] ++ #[]) _ _
    rw [ex, ey]
    refine hcall.mono fun e w' ⟨h1, q, h2⟩ => ⟨h1, q, #[], ?_⟩
    rw [h2, grow_empty]
  have hmain := Try.slices_SortFunc (fun i : Nat => inner.getD i (.slice none 0 0)) hone (fun i j : Nat => cmpL (rows.getD i []) (rows.getD j [])) hswo 68 #[] g 0 cap d w (fun args w => enters_ Try.func68 (by kernel_rfl) rfl args w) hcmp hholds hgl (by rw [hd]; omega)
  rw [hd] at hmain
  refine hmain.mono fun e w' ⟨h1, d', n, os, _, _, hw⟩ => ⟨h1, fun W hb => ?_⟩
  rw [hw]
  exact put_below' hb hB hg _ _ _
end Go.Proofs.Ythhlmjcfhfkmdaa.Cx
