/- The walk of impl.PlanText, in closed words. -/
import Derived.Test.YtgajkcooefifdaaDoorPlanS
import Derived.Deep.QuietTactic
import Derived.BigQuiet
namespace Go.Proofs.YtgajkcooefifdaaDoor.Plan
open Go.RowKit Go.Proofs.YtgajkcooefifdaaDoorW.PrintWords Go.Proofs.YtgajkcooefifdaaDoorW.PrintLast Go.Proofs.YtgajkcooefifdaaDoorW.PrintMore
open Go.Proofs.YtgajkcooefifdaaDoor.PFnExactPlanText
set_option linter.unusedVariables false
set_option linter.unusedSimpArgs false

theorem own_below' {w w1 : World} {B : Nat} {e : TypeId} {s n : Nat} {v : Value} {xs : List Value} (h : w.ownsRow B e s v n xs) (hb : Below w.heap.size w w1) : w1.ownsRow B e s v n xs := by
  obtain ⟨h1, h2⟩ := h
  refine ⟨h1, ?_⟩
  rcases h2 with h2 | ⟨g, cap, cur, hv, hg, hh, r⟩
  · exact .inl h2
  · exact .inr ⟨g, cap, cur, hv, hg, by rw [hb.block g (Array.getElem?_eq_some_iff.1 hh).1]; exact hh, r⟩
theorem at_below {T e : TypeId} {B b : Nat} {p : Value} {bs : List Value} {w w1 : World} (h : Lib.BuilderAt T e B b p bs w) (hb : Below w.heap.size w w1) : Lib.BuilderAt T e B b p bs w1 := by
  have hlt := h.lt
  obtain ⟨hB, v, hh, ho, hne⟩ := h
  exact ⟨hB, v, by rw [hb.block b hlt]; exact hh, own_below' ho hb, hne⟩
theorem is_below {T e : TypeId} {B b : Nat} {bs : List Value} {w w1 : World} (h : Lib.IsBuilder T e B b bs w) (hb : Below w.heap.size w w1) : Lib.IsBuilder T e B b bs w1 :=
  h.elim (fun x => .inl (at_below x hb)) (fun x => .inr (at_below x hb))
theorem is_size {T e : TypeId} {B b : Nat} {bs : List Value} {w : World} (h : Lib.IsBuilder T e B b bs w) : B ≤ w.heap.size := by
  rcases h with h | h
  · have := h.lt; have := h.1; omega
  · have := h.lt; have := h.1; omega
/-- A write, in bytes. -/
theorem put_c (B b : Nat) (l : List UInt8) (s : ByteArray) (w : World) (h : Lib.IsBuilder 49 5 B b (Lib.byteCells l) w) (hlen : l.length + s.size ≤ 140737488355328) :
    Calls Tryd.prog 24 #[.pointer (some ⟨b, 0, none⟩), .string s] w fun e w' => e = .returned (.tuple #[.int .i64 s.size, .nilIface]) ∧ (Lib.IsBuilder 49 5 B b (Lib.byteCells (l ++ s.data.toList)) w' ∧ Below B w w') := by
  refine (write_calls B b _ s w h (by rw [Lib.byteCells_length]; exact hlen) (is_size h)).mono ?_
  rintro e w' ⟨rfl, hb, hl⟩
  refine ⟨rfl, .inr ?_, hl⟩
  have e : Lib.byteCells l ++ Lib.strCells s = Lib.byteCells (l ++ s.data.toList) := by simp [Lib.byteCells, Lib.strCells]
  rwa [e] at hb

theorem join_two (a b : List UInt8) : Lib.join [a, b] [32] = a ++ [32] ++ b := by simp [Lib.join]
theorem two_size (l : List S43) (f : List Int) (y : Int) (h0 : 0 ≤ y) (h1 : y ≤ 1000000) (h2 : 0 ≤ rd f y) (h3 : rd f y ≤ 1000000) : (Lib.itoa y ++ [32] ++ Lib.itoa (rd f y)).length ≤ 41 := by
  have a := itoa_len y h0 h1
  have b := itoa_len _ h2 h3
  simp only [List.length_append, List.length_cons, List.length_nil]
  omega
theorem line_more (l : List S43) (f pre : List Int) (y : Int) (t : List UInt8) (ht : t = tail l f y) : planBytes l f pre ++ (Lib.itoa y ++ [32] ++ Lib.itoa (rd f y)) ++ t ++ [10] = planBytes l f (pre ++ [y]) := by
  subst ht
  simp [planBytes, line]
set_option maxHeartbeats 8000000 in
set_option maxRecDepth 100000 in
theorem iplan_c (A0 : Option Addr) (c0 : Nat) (l : List S43) (A1 : Option Addr) (c1 : Nat) (o : List Int) (w : World) (hT : Pow w) (hr0 : Kd.C k43 w A0 l.length l) (hc0 : l.length ≤ c0) (hr1 : Kd.C (Kd.int .i64) w A1 o.length o) (hc1 : o.length ≤ c1) (hl : l.length ≤ 1048576) (ho : o.length ≤ 1048576) :
    Calls Tryd.prog 11 #[.slice A0 l.length c0, .slice A1 o.length c1] w fun e w' => e = .returned (.tuple #[.string (planStr l o), .bool (ordOk l o)]) ∧ Below w.heap.size w w' := by
  have HR0 := Aside0.mk hr0
  have HR1 := Aside0.mk hr1
  have HT := Aside0.mk hT
  clear hr0 hr1 hT
  go_enter Tryd.func11, Tryd.ntmps11
  go_wp2_with fail
  refine (iorder_c A0 c0 l A1 c1 o w HR0.out hc0 HR1.out hc1 hl ho).mono ?_
  rintro e w1 ⟨rfl, hb⟩
  have HB1 := Aside0.mk hb
  clear hb
  cases hj : ordOk l o with
  | false =>
    have HR := Aside0.mk (show planStr l o = ⟨#[]⟩ by simp [planStr, hj])
    have HN := Aside0.mk hj
    clear hj
    go_wp2_with fail
    go_ret2
    exact ⟨by rw [HR.out, HN.out]; rfl, HB1.out⟩
  | true =>
    have HJ := Aside0.mk hj
    have HR := Aside0.mk (show planStr l o = ⟨(planBytes l (fin l o) o).toArray⟩ by simp [planStr, hj])
    clear hj
    go_wp2_with fail
    refine (ifin_c A0 c0 l A1 c1 o w1 (Kd.C_below HR0.out HB1.out) hc0 (Kd.C_below HR1.out HB1.out) hc1 HJ.out).mono ?_
    rintro e w2 ⟨vf, rfl, hf, hb⟩
    have HB2 := Aside0.mk (below_on HB1.out HB1.out.size hb)
    obtain ⟨AF, cF, rfl, hcF, hCF⟩ := Kd.R_reads hf
    clear hf hb
    have HF := Aside0.mk hCF
    clear hCF
    have HFL := Aside0.mk (fin_len l o)
    have HP := Aside0.mk (ord_true HJ.out)
    have HFB := Aside0.mk (fun y => fin_bd (l := l) (o := o) HJ.out y)
    generalize hfo : fin l o = f at *
    clear hfo HB1
    go_wp2_with (first | ((with_reducible refine gate_dst (N := 7) rfl ?_); refine box_event ?hg (N := 7) ?hd (cs := #[.pointer none, .slice none 0 0]) (t := 49) ?hr ?_; (case hd => rfl); (case hg => rfl); (case hr => first | (go_simp; done) | (go_simp; rfl)); intro gb hgb wb hbox hb; have HBX := Aside0.mk (show Lib.IsBuilder 49 5 gb gb (Lib.byteCells (planBytes l f [])) wb from Or.inl ⟨Nat.le_refl _, .slice none 0 0, hbox, World.ownsRow_nil _ _ _ _, by simp [Value.ownBlock]⟩); have HGB := Aside0.mk hgb; have HBB := Aside0.mk (show Below gb w2 wb from hgb ▸ hb); clear hbox hb hgb))
    have HWG := Aside0.mk (show w.heap.size ≤ gb from by rw [HGB.out]; exact HB2.out.size)
    go_loopg [19] o.length (fun gk v19 wr => ∃ pre suf : List Int, Aside0 (o = pre ++ suf) ∧ v19 = .int .i64 (pre.length : Int) ∧ Aside0 (gk = suf.length) ∧ Aside0 (Lib.IsBuilder 49 5 gb gb (Lib.byteCells (planBytes l f pre)) wr) ∧ Aside0 (Below gb w2 wr))
    case atStart => exact ⟨[], o, ⟨rfl⟩, rfl, ⟨rfl⟩, HBX, HBB⟩
    case round =>
      clear HBX HBB
      obtain ⟨pre, suf, HE, rfl, HG, HBX, HB⟩ := hrel
      have HBW := Aside0.mk (show Below w.heap.size w wr from HB2.out.trans (HB.out.mono HWG.out))
      cases suf with
      | nil =>
        have hlt : ¬ pre.length < o.length := by have := HE.out; rw [this]; simp
        have hle : pre.length ≤ o.length := by have := HE.out; rw [this]; simp
        have HQ := Aside0.mk (show o = pre by rw [HE.out]; simp)
        go_wp2_with fail
        refine (Tryd.Builder_String_any gb gb (planBytes l f pre) wr HBX.out (is_size HBX.out)).mono ?_
        rintro e w5 ⟨rfl, hb⟩
        have HB5 := Aside0.mk (HBW.out.trans (hb.mono HWG.out))
        clear hb
        go_wp2_with fail
        go_ret2
        exact ⟨by rw [HR.out, HJ.out, HQ.out]; rfl, HB5.out⟩
      | cons y suf =>
        have hlt : pre.length < o.length := by have := HE.out; rw [this]; simp
        obtain ⟨ad, e, hx⟩ := Kd.at_int HR1.out (pre.length : Int) (by omega) (by omega)
        cases e
        rw [show rd o (pre.length : Int) = y by rw [HE.out]; exact rd_at pre suf y] at hx
        replace hx := (HBW.out.cell (World.block_lt_of_cell? w _ hx)).trans hx
        rw [Int.toNat_natCast] at hx
        obtain ⟨hi, ha, hll, hol⟩ := HP.out
        have hy := hi y (by rw [HE.out]; simp)
        have hpl := flat_len (l := l) (f := f) 47 pre (fun z hz => by
          have hz := hi z (by rw [HE.out]; simp [hz])
          have := HFB.out z hz.1 hz.2
          exact line_len hz.1 (by omega) this.1 (by omega))
        have hd := HFB.out y hy.1 hy.2
        have HPL := Aside0.mk (show (planBytes l f pre).length ≤ 100000 from by omega)
        have H2 := Aside0.mk (two_size l f y hy.1 (by omega) hd.1 (by omega))
        have hfl := HFL.out
        obtain ⟨adf, e, hxf⟩ := Kd.at_int HF.out y hy.1 (by omega)
        cases e
        have HXF := Aside0.mk hxf
        obtain ⟨adl, e, hl0, hl1, hl2⟩ := at_T43 HR0.out y hy.1 (by omega)
        cases e
        have HXL := Aside0.mk hl1
        have hxf : wr.cell? (adf.add y.toNat) = some (.int .i64 (rd f y)) := (HB.out.cell (by rw [HGB.out]; exact World.block_lt_of_cell? w2 _ hxf)).trans hxf
        clear hl0 hl1 hl2
        have hy0 := hy.1
        have hyl := hy.2
        have hyf : y < (f.length : Int) := by omega
        have HV := Aside0.mk (show ∀ n ∈ [y, rd f y], 0 ≤ n ∧ n ≤ 1000000 from by
          intro n hn
          simp at hn
          rcases hn with rfl | rfl
          · omega
          · omega)
        clear hpl hi ha hol hy hd hll hfl
        go_wp2_with (first | ((with_reducible refine gate_dst (N := 28) rfl ?_); refine Kd.R_lit (Kd.int .i64) _ 3 ?hg (N := 28) ?hd (xs := ([y, rd f y] : List Int)) (inner := [.int .i64 y, .int .i64 (rd f y)]) (ok := fun _ => True) (okp := fun _ => True) ?hr ?hp (fun _ hk => hk) trivial (Below.refl _ _) (Nat.le_refl _) (by simp) ?_; (case hd => rfl); (case hg => rfl); (case hr => first | (go_simp; done) | (go_simp; rfl)); (case hp => exact (Reps.one (show Kd.M (Kd.int .i64) _ _ _ y [.int .i64 y] from rfl) (Reps.one (show Kd.M (Kd.int .i64) _ _ _ (rd f y) [.int .i64 (rd f y)] from rfl) (Reps.none _ _)))); intro vs w17 ho18 hb hg_ hnew_; clear hg_ hnew_; obtain ⟨AS, cS, rfl, hcS, hCS⟩ := Kd.R_reads ho18; have HBX1 := Aside0.mk (is_below HBX.out hb); have HB1 := Aside0.mk (HB.out.trans (hb.mono (is_size HBX.out))); have HBW1 := Aside0.mk (below_on HBW.out HBW.out.size hb); have HCS := Aside0.mk hCS; have HcS := Aside0.mk hcS; clear ho18 hb hcS hCS))
        refine (words_c AS cS [y, rd f y] w17 (pow_on HT.out HBW1.out) HCS.out HcS.out (by simp) HV.out).mono ?_
        rintro e w18 ⟨rfl, hb⟩
        have HBX2 := Aside0.mk (is_below HBX1.out hb)
        have HB2' := Aside0.mk (HB1.out.trans (hb.mono (is_size HBX1.out)))
        have HBW2 := Aside0.mk (below_on HBW1.out HBW1.out.size hb)
        clear hb HBX1 HB1 HBW1
        have HJ2 := Aside0.mk (show Lib.join ([y, rd f y].map Lib.itoa) [32] = Lib.itoa y ++ [32] ++ Lib.itoa (rd f y) from join_two _ _)
        obtain ⟨ts, hts⟩ : ∃ ts : List UInt8, ts = Lib.itoa y ++ [32] ++ Lib.itoa (rd f y) := ⟨_, rfl⟩
        have H2' := Aside0.mk (show (⟨ts.toArray⟩ : ByteArray).size ≤ 41 from by have h2 := H2.out; rw [← hts] at h2; simpa [ByteArray.size] using h2)
        have H2l := Aside0.mk (show ts.length ≤ 41 from by have h2 := H2.out; rw [← hts] at h2; exact h2)
        rw [HJ2.out, ← hts]
        have HTS := Aside0.mk hts
        clear hts
        go_wp2_with fail
        refine (put_c gb gb (planBytes l f pre) ⟨ts.toArray⟩ w18 HBX2.out (by have h1 := HPL.out; have h2 := H2'.out; omega)).mono ?_
        rintro e w19 ⟨rfl, hbx, hb⟩
        have HBX3 := Aside0.mk hbx
        have HB3' := Aside0.mk (HB2'.out.trans hb)
        have HBW3 := Aside0.mk (HBW2.out.trans (hb.mono HWG.out))
        clear hb hbx HBX2 HB2' HBW2
        have hxf9 : w19.cell? (adf.add y.toNat) = some (.int .i64 (rd f y)) := (HB3'.out.cell (by rw [HGB.out]; exact World.block_lt_of_cell? w2 _ HXF.out)).trans HXF.out
        have hl9 := (HBW3.out.cell (World.block_lt_of_cell? w _ HXL.out)).trans HXL.out
        by_cases hlt8 : rd f y > (rd_T43 l y).f1
        · have dd : decide ((rd_T43 l y).f1 < rd f y) = true := by simpa using hlt8
          have HTL := Aside0.mk (show [32, 108, 97, 116, 101] = tail l f y by simp only [tail, if_pos hlt8])
          clear hlt8 hxf hx
          go_wp2_with fail
          go_quiet (fail)
          go_wp2_with fail
          have HBX4 := Aside0.mk (is_below HBX3.out (pw_below_drewN (Below.refl _ _) nq))
          have HB4 := Aside0.mk (pw_below_drewN HB3'.out nq)
          have HBW4 := Aside0.mk (pw_below_drewN HBW3.out nq)
          clear HBX3 HB3' HBW3 hxf9 hl9 dd
          refine (put_c gb gb _ ⟨#[32, 108, 97, 116, 101]⟩ _ HBX4.out (by have h1 := HPL.out; have h2 := H2l.out; simp only [List.length_append]; simp [ByteArray.size]; omega)).mono ?_
          rintro e w20 ⟨rfl, hbx, hb⟩
          have HBX5 := Aside0.mk hbx
          have HB5 := Aside0.mk (HB4.out.trans hb)
          have HBW5 := Aside0.mk (HBW4.out.trans (hb.mono HWG.out))
          clear hb hbx HBX4 HB4 HBW4
          go_wp2_with fail
          refine (put_c gb gb _ ⟨#[10]⟩ _ HBX5.out (by have h1 := HPL.out; have h2 := H2l.out; simp only [List.length_append]; simp [ByteArray.size]; omega)).mono ?_
          rintro e w21 ⟨rfl, hbx, hb⟩
          have HBX6 := Aside0.mk hbx
          have HB6 := Aside0.mk (HB5.out.trans hb)
          clear hb hbx HBX5 HB5 HBW5
          have HLN := Aside0.mk (line_more l f pre y _ HTL.out)
          rw [← HTS.out] at HLN
          go_wp2_with fail
          go_roundg suf.length
          case measure => have := HG.out; simp at this; omega
          case rel => exact ⟨pre ++ [y], suf, ⟨by rw [HE.out]; simp⟩, by simp, ⟨rfl⟩, ⟨by rw [← HLN.out]; exact HBX6.out⟩, HB6⟩
        · have dd : decide ((rd_T43 l y).f1 < rd f y) = false := by simpa using hlt8
          have HTL := Aside0.mk (show [] = tail l f y by simp only [tail, if_neg hlt8])
          clear hlt8 hxf hx
          go_wp2_with fail
          go_quiet (fail)
          go_wp2_with fail
          have HBX4 := Aside0.mk (is_below HBX3.out (pw_below_drewN (Below.refl _ _) nq))
          have HB4 := Aside0.mk (pw_below_drewN HB3'.out nq)
          have HBW4 := Aside0.mk (pw_below_drewN HBW3.out nq)
          clear HBX3 HB3' HBW3 hxf9 hl9 dd
          refine (put_c gb gb _ ⟨#[10]⟩ _ HBX4.out (by have h1 := HPL.out; have h2 := H2l.out; simp only [List.length_append]; simp [ByteArray.size]; omega)).mono ?_
          rintro e w20 ⟨rfl, hbx, hb⟩
          have HBX6 := Aside0.mk hbx
          have HB6 := Aside0.mk (HB4.out.trans hb)
          clear hb hbx HBX4 HB4 HBW4
          have HLN := Aside0.mk (line_more l f pre y _ HTL.out)
          rw [← HTS.out, List.append_nil] at HLN
          go_wp2_with fail
          go_roundg suf.length
          case measure => have := HG.out; simp at this; omega
          case rel => exact ⟨pre ++ [y], suf, ⟨by rw [HE.out]; simp⟩, by simp, ⟨rfl⟩, ⟨by rw [← HLN.out]; exact HBX6.out⟩, HB6⟩
end Go.Proofs.YtgajkcooefifdaaDoor.Plan
