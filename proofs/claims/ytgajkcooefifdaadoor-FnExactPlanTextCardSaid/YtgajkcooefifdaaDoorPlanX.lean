/- The walk of words: numbers, separated by single blanks. -/
import Derived.Test.YtgajkcooefifdaaDoorPlanW
import Derived.Lib.AppendIntMem
import Derived.Lib.ItoaLen
namespace Go.Proofs.YtgajkcooefifdaaDoor.Plan
open Go.RowKit Go.Proofs.YtgajkcooefifdaaDoorW.PrintWords Go.Proofs.YtgajkcooefifdaaDoorW.PrintLast Go.Proofs.YtgajkcooefifdaaDoorW.PrintMore
open Go.Proofs.YtgajkcooefifdaaDoor.PFnExactPlanText
set_option linter.unusedVariables false
set_option linter.unusedSimpArgs false

abbrev Pow (W : World) : Prop := Lib.TabBelow Tryd.prog W.heap.size W "internal/strconv.uint64pow10" .u64 Lib.pow10Tab
theorem pow_on {W w : World} (h : Pow W) (hb : Below W.heap.size W w) : Pow w := fun w' hw => h w' (below_on hb hb.size hw)
theorem info9 : (Tryd.prog.info? 9).map (fun i => (i.zero, i.size, i.bytes)) = some (some (.string ⟨#[]⟩), 1, 16) := by kernel_rfl
def str (n : Int) : ByteArray := ⟨(Lib.itoa n).toArray⟩
theorem itoa_len (n : Int) (h0 : 0 ≤ n) (h1 : n ≤ 1000000) : (Lib.itoa n).length ≤ 20 := by
  obtain ⟨m, rfl⟩ := Int.eq_ofNat_of_zero_le h0
  rw [Lib.itoa_nonneg, Lib.decDigits_length]
  exact Lib.nDigits_le20 m (by omega)
theorem lens_le (B : Nat) : ∀ xs : List (List UInt8), (∀ x ∈ xs, x.length ≤ B) → Lib.lens xs ≤ B * xs.length
  | [], _ => by simp [Lib.lens]
  | x :: r, h => by
    have h1 := h x (by simp)
    have h2 := lens_le B r (fun y hy => h y (by simp [hy]))
    have e : Lib.lens (x :: r) = x.length + Lib.lens r := by simp [Lib.lens]
    rw [e, List.length_cons, Nat.mul_succ]; omega
theorem join_len (xs : List (List UInt8)) (B : Nat) (h : ∀ x ∈ xs, x.length ≤ B) : (Lib.join xs [32]).length ≤ (B + 1) * xs.length := by
  cases xs with
  | nil => simp [Lib.join_nil]
  | cons x r =>
    rw [Lib.join_length]
    have := lens_le B (x :: r) h
    simp only [List.length_cons, List.length_nil] at *
    have e : (B + 1) * (r.length + 1) = B * (r.length + 1) + (r.length + 1) := by rw [Nat.add_mul, Nat.one_mul]
    rw [e]; omega
theorem strs_data (l : List Int) : (l.map str).map (·.data.toList) = l.map Lib.itoa := by
  rw [List.map_map]; apply List.map_congr_left; intro n _; simp [str]
theorem grow_below (w : World) (os : Array Obj) : Below w.heap.size w (Go.Sort.grow w os) :=
  ⟨rfl, rfl, rfl, by simp [Go.Sort.grow], fun k hk => by simp [Go.Sort.grow, Array.getElem?_append_left hk]⟩
theorem itoa_c (n : Int) (h0 : 0 ≤ n) (h1 : n ≤ 1000000) (w : World) (hT : Pow w) :
    Calls Tryd.prog 35 #[.int .i64 n] w fun e w' => e = .returned (.string (str n)) ∧ Below w.heap.size w w' := by
  refine (Tryd.strconv_Itoa n (by omega) (by omega) w hT.here).mono ?_
  rintro e w' ⟨rfl, k, os, rfl⟩
  exact ⟨rfl, (pw_below_drewN (Below.refl _ _) k).trans (by have h := grow_below (w.drewN k) os; exact h)⟩
set_option maxHeartbeats 4000000 in
set_option maxRecDepth 100000 in
theorem words_c (A : Option Addr) (c : Nat) (l : List Int) (w : World) (hT : Pow w) (hr : Kd.C (Kd.int .i64) w A l.length l) (hc : l.length ≤ c) (hl : l.length ≤ 1000) (hv : ∀ n ∈ l, 0 ≤ n ∧ n ≤ 1000000) :
    Calls Tryd.prog 25 #[.slice A l.length c] w fun e w' => e = .returned (.string ⟨(Lib.join (l.map Lib.itoa) [32]).toArray⟩) ∧ Below w.heap.size w w' := by
  have HR := Aside0.mk hr
  have HT := Aside0.mk hT
  have H0 := Aside0.mk (Below.refl w.heap.size w)
  have HV := Aside0.mk hv
  clear hr hT hv
  go_enter Tryd.func25, Tryd.ntmps25
  go_wp2_with (first | ((with_reducible refine gate_dst (N := 6) rfl ?_); refine Kd.R_lit Kd.string _ 9 ?hg (N := 6) ?hd (xs := ([] : List ByteArray)) (inner := []) (ok := fun _ => True) (okp := fun _ => True) ?hr ?hp (fun _ hk => hk) trivial (Below.refl _ _) (Nat.le_refl _) (by simp) ?_; (case hd => rfl); (case hg => rfl); (case hr => first | (go_simp; done) | (go_simp; rfl)); (case hp => exact (Reps.none _ _)); intro v6 w6 ho hb hg_ hnew_; clear hg_ hnew_; have HO := Aside0.mk ho; have HB := Aside0.mk hb; clear ho hb))
  go_loopg [3, 9] l.length (fun gk v3 v9 wr => ∃ pre suf : List Int, Aside0 (l = pre ++ suf) ∧ v9 = .int .i64 (pre.length : Int) ∧ Aside0 (gk = suf.length) ∧ Aside0 (Kd.R Kd.string 9 wr w.heap.size (fun _ => True) v3 (pre.map str)) ∧ Aside0 (Below w.heap.size w wr))
  case atStart => exact ⟨[], l, ⟨rfl⟩, rfl, ⟨rfl⟩, HO, HB⟩
  case round =>
    clear HO HB
    obtain ⟨pre, suf, HE, rfl, HG, HO, HB⟩ := hrel
    cases suf with
    | nil =>
      have hlt : ¬ pre.length < l.length := by have := HE.out; rw [this]; simp
      have hle : pre.length ≤ l.length := by have := HE.out; rw [this]; simp
      have HL := Aside0.mk (show l = pre by rw [HE.out]; simp)
      by_cases hz : pre = []
      · subst hz
        obtain ⟨Av, cv, rfl, hlv, hCv⟩ := Kd.R_reads HO.out
        clear hCv hlv
        go_wp2_with fail
        refine (Tryd.strings_Join_none Av cv ⟨#[32]⟩ wr).mono ?_
        rintro e w1 ⟨rfl, rfl⟩
        go_wp2_with fail
        go_ret
        exact ⟨by rw [HL.out]; rfl, HB.out⟩
      · have hpos : 0 < pre.length := by
          rcases Nat.eq_zero_or_pos pre.length with h | h
          · exact absurd (List.length_eq_zero_iff.1 h) hz
          · exact h
        clear hz
        obtain ⟨g, cv, rfl, hg1, hg2, hcl⟩ := Kd.R_form HO.out (by simpa using hpos)
        have hCv := (Kd.R_reads' HO.out)
        have HQ := Aside0.mk hCv
        have HG2 := Aside0.mk hg2
        clear hCv hg1 hcl hg2
        have hcells : ∀ (j : Nat) x, (pre.map str)[j]? = some x → wr.cell? ⟨g, 0 + j, none⟩ = some (.string x) := by
          intro j x hj
          have hjl : j < (pre.map str).length := (List.getElem?_eq_some_iff.1 hj).1
          obtain ⟨ad2, ea, hcell⟩ := Kd.at_string HQ.out.2.2 (j : Int) (by omega) (by omega)
          cases ea
          rw [Int.toNat_natCast, add_plain] at hcell
          rw [Nat.zero_add, hcell]
          simp [rdOf, List.getD_eq_getElem?_getD, hj]
        have hlen : (Lib.join ((pre.map str).map (·.data.toList)) [32]).length ≤ 140737488355328 := by
          rw [strs_data]
          have h1 := join_len (pre.map Lib.itoa) 20 (by
            intro x hx
            obtain ⟨n, hn, rfl⟩ := List.mem_map.1 hx
            have := HV.out n (by rw [HE.out]; simp [hn])
            exact itoa_len n this.1 this.2)
          rw [List.length_map] at h1
          omega
        have hjn := Tryd.strings_Join g 0 cv (pre.map str) ⟨#[32]⟩ wr hcells HG2.out (by have := HL.out; rw [List.length_map]; rw [this] at hl; omega) HQ.out.2.1 hlen
        rw [List.length_map] at hjn
        have HJN := Aside0.mk hjn
        clear hjn hcells hlen
        go_wp2_with fail
        refine HJN.out.mono ?_
        rintro e w1 ⟨rfl, hb⟩
        have HB1 := Aside0.mk (below_on HB.out HB.out.size hb)
        clear hb
        go_wp2_with fail
        go_ret
        refine ⟨?_, HB1.out⟩
        have e := strs_data pre
        rw [List.map_map] at e
        rw [e, HL.out]; rfl
    | cons y suf =>
      have hlt : pre.length < l.length := by have := HE.out; rw [this]; simp
      obtain ⟨ad, e, hx⟩ := Kd.at_int HR.out (pre.length : Int) (by omega) (by omega)
      cases e
      rw [show rd l (pre.length : Int) = y by rw [HE.out]; exact rd_at pre suf y] at hx
      replace hx := (HB.out.cell (World.block_lt_of_cell? w _ hx)).trans hx
      rw [Int.toNat_natCast] at hx
      have hy := HV.out y (by rw [HE.out]; simp)
      obtain ⟨Av, cv, rfl⟩ := Kd.R_slice HO.out
      go_wp2_with fail
      refine (itoa_c y hy.1 hy.2 wr (pow_on HT.out HB.out)).mono ?_
      rintro e w1 ⟨rfl, hb⟩
      have HB1 := Aside0.mk (below_on HB.out HB.out.size hb)
      have HO1 := Aside0.mk (show Kd.R Kd.string 9 w1 w.heap.size (fun _ => True) (.slice Av pre.length cv) (pre.map str) from by have h := Kd.R_below HO.out hb; rwa [List.length_map] at h)
      clear hb HO hx
      go_wp2_with (first | (at_builtin; refine Kd.R_append Kd.string (w0 := w) w.heap.size rfl (.tmp 13) (.tmp 16) 35 9 (.string ⟨#[]⟩) 16 rfl Tryd.underlying35 info9 rfl (by decide) (by omega) _ (pre.map str) (str y) [.string (str y)] (fun _ => True) (fun _ => False) rfl rfl ?aP (fun _ hk => hk.elim) ?aF ?aO ?aB ?aS ?aL ?_; (case aP => exact rfl); (case aB => exact HB1.out); (case aF => exact (fun _ _ => trivial)); (case aO => exact HO1.out); (case aS => exact HB1.out.size); (case aL => simp; omega); intro v2 w2 ho hb _ _; have HO2 := Aside0.mk ho; have HB2 := Aside0.mk hb; clear ho hb HO1 HB1))
      go_roundg suf.length
      case measure => have := HG.out; simp at this; omega
      case rel => exact ⟨pre ++ [y], suf, ⟨by rw [HE.out]; simp⟩, by simp, ⟨rfl⟩, ⟨by rw [List.map_append]; exact HO2.out⟩, HB2⟩
end Go.Proofs.YtgajkcooefifdaaDoor.Plan
