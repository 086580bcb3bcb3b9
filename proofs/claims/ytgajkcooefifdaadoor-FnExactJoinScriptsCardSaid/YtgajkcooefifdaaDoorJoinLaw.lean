/- The reference's JoinScripts in plain words, and the walk of the law of JoinScripts. -/
import Derived.Test.YtgajkcooefifdaaDoorJoin
namespace Go.Proofs.YtgajkcooefifdaaDoor.Join
open Go.RowKit Go.Proofs.YtgajkcooefifdaaDoorW.PrintWords Go.Proofs.YtgajkcooefifdaaDoorW.PrintLast Go.Proofs.YtgajkcooefifdaaDoorW.PrintMore
open Go.Proofs.YtgajkcooefifdaaDoor.PFnExactJoinScripts
set_option linter.unusedVariables false
set_option linter.unusedSimpArgs false

theorem w64 {x : Int} (h0 : -9223372036854775808 ≤ x) (h1 : x ≤ 9223372036854775807) : wrap64 x = x := by
  unfold wrap64; omega
theorem bt_get (s : ByteArray) (i : Nat) (h : i < s.size) : bt s (i : Int) = ((s.data.toList[i]'(by simpa using h)).toNat : Int) := by
  have := (bt_at s (i : Int) (by simpa using h)).symm
  rw [this]
  simp [ByteArray.getElem_eq_getElem_data]
theorem split_ev (s : ByteArray) (hs : s.size ≤ 2000) : ∀ (d i f : Nat) (acc : List ByteArray), i + d = s.size → f ≤ i → acc.length ≤ i →
    ∃ r, Ev (fun k => spec_l1Split.l0 k s 10 acc (f : Int) (i : Int)) r ∧ r.length = acc.length + (s.data.toList.drop i).count 10 + 1 := by
  intro d
  induction d with
  | zero =>
    intro i f acc h1 h2 h3
    refine ⟨acc ++ [s.extract f s.size], Ev.step (f := fun _ => some (acc ++ [s.extract f s.size])) (fun k => ?_) (Ev.now _), ?_⟩
    · simp only [spec_l1Split.l0]
      rw [if_neg (by omega), if_pos (by omega), if_pos (by omega), if_pos (by omega)]
      simp
    · have : s.data.toList.drop i = [] := by rw [List.drop_eq_nil_iff]; simp; omega
      rw [this]; simp
  | succ d ih =>
    intro i f acc h1 h2 h3
    have hi : i < s.size := by omega
    have hb := bt_get s i hi
    have hd : s.data.toList.drop i = s.data.toList[i]'(by simpa using hi) :: s.data.toList.drop (i + 1) := List.drop_eq_getElem_cons (by simpa using hi)
    have hw : wrap64 ((i : Int) + 1) = ((i + 1 : Nat) : Int) := by rw [w64 (by omega) (by omega)]; rfl
    by_cases hc : s.data.toList[i]'(by simpa using hi) = 10
    · obtain ⟨r, hr, hl⟩ := ih (i + 1) (i + 1) (acc ++ [s.extract f i]) (by omega) (Nat.le_refl _) (by simp; omega)
      refine ⟨r, Ev.step (fun k => ?_) hr, ?_⟩
      · simp only [spec_l1Split.l0]
        rw [if_pos (by omega), if_pos (by omega), if_pos (by rw [hb, hc]; rfl), if_pos (by omega), if_pos (by omega), if_pos (by omega), if_pos (by omega), hw]
        simp
      · rw [hl, hd, hc, List.count_cons_self]; simp; omega
    · obtain ⟨r, hr, hl⟩ := ih (i + 1) f acc (by omega) (by omega) (by omega)
      refine ⟨r, Ev.step (fun k => ?_) hr, ?_⟩
      · simp only [spec_l1Split.l0]
        rw [if_pos (by omega), if_pos (by omega), if_neg (by rw [hb]; intro e; apply hc; apply UInt8.toNat_inj.1; show _ = 10; omega), hw]
      · rw [hl, hd, List.count_cons_of_ne hc]
theorem last_byte (s : ByteArray) (h : ¬ s.toList = []) : ∃ n : Nat, s.size = n + 1 ∧ (bt s (n : Int) != 10) = !ends s := by
  rw [Lib.toList_data] at h
  have hl : s.data.toList.length = s.size := by simp
  rcases List.eq_nil_or_concat s.data.toList with hn | ⟨p, y, hp⟩
  · exact absurd hn h
  · rw [List.concat_eq_append] at hp
    have hz : s.size = p.length + 1 := by rw [← hl, hp]; simp
    refine ⟨p.length, hz, ?_⟩
    rw [bt_get s p.length (by omega)]
    have he : s.data.toList[p.length]'(by omega) = y := by
      have h2 : s.data.toList[p.length]? = some y := by rw [hp]; simp
      rw [List.getElem?_eq_getElem (by omega)] at h2
      exact Option.some.inj h2
    rw [he]
    unfold ends
    rw [hp]
    by_cases hy : y = 10
    · subst hy
      have : Lib.hasSuffix (p ++ [10]) [10] = true := List.isSuffixOf_iff_suffix.2 ⟨p, rfl⟩
      rw [this]; rfl
    · have : Lib.hasSuffix (p ++ [y]) [10] = false := by
        cases hh : Lib.hasSuffix (p ++ [y]) [10] with
        | false => rfl
        | true =>
          obtain ⟨q, hq⟩ := List.isSuffixOf_iff_suffix.1 hh
          exact absurd (List.append_inj_right' hq rfl) (by simpa using fun e => hy e.symm)
      rw [this]
      have : ¬ ((y.toNat : Int) = 10) := by intro e; apply hy; apply UInt8.toNat_inj.1; show _ = 10; omega
      simpa using this
theorem lines_ev (s : ByteArray) (hs : s.size ≤ 4194304) : ∃ r, Ev (fun k => spec_csLines.f k s) (r, okS s) := by
  by_cases h1 : s.size ≤ 2000
  · have hyes : okT s = true → ∃ r, Ev (fun k => spec_csLines.j0 k s false) (r, okS s) := by
      intro ht
      obtain ⟨r, hr, hl⟩ := split_ev s h1 s.size 0 0 [] (by omega) (Nat.le_refl _) (Nat.le_refl _)
      have hl2 : r.length = nl s + 1 := by rw [hl]; simp [nl]
      replace hr : Ev (fun k => spec_l1Split.f k s 10) r := hr
      have hcn : nl s ≤ s.size := by
        have := List.count_le_length (a := (10 : UInt8)) (l := s.data.toList)
        have hl : s.data.toList.length = s.size := by simp
        unfold nl; omega
      have hq : wrap64 ((r.length : Int) - 1) = (nl s : Int) := by rw [w64 (by omega) (by omega)]; omega
      have htl : (r.take (nl s)).length = nl s := by simp; omega
      by_cases h2 : nl s ≤ 40
      · refine ⟨r.take (nl s), Ev.step (fun k => by simp only [spec_csLines.j0]; rw [if_neg (by simp)]) (Ev.bind hr ?_)⟩
        refine Ev.congr (f := fun _ => some (r.take (nl s), true)) (fun k => ?_) (by simpa [okS, ht, h1, h2] using Ev.now (r.take (nl s), true))
        rw [hq, if_pos (by omega), if_pos (by omega)]
        simp only [Option.bind_some, Int.toNat_natCast]
        rw [if_neg (by rw [htl]; omega)]
      · refine ⟨[], Ev.step (fun k => by simp only [spec_csLines.j0]; rw [if_neg (by simp)]) (Ev.bind hr ?_)⟩
        refine Ev.congr (f := fun _ => some ([], false)) (fun k => ?_) (by simpa [okS, ht, h1, h2] using Ev.now (([] : List ByteArray), false))
        rw [hq, if_pos (by omega), if_pos (by omega)]
        simp only [Option.bind_some, Int.toNat_natCast]
        rw [if_pos (by rw [htl]; omega)]
    by_cases h : s.toList = []
    · obtain ⟨r, hr⟩ := hyes (by simp [okT, h])
      refine ⟨r, Ev.congr (fun k => ?_) hr⟩
      unfold spec_csLines.f
      rw [if_neg (by omega), if_pos h]
    · obtain ⟨n, hn, hb⟩ := last_byte s h
      have hq : wrap64 ((s.size : Int) - 1) = (n : Int) := by rw [w64 (by omega) (by omega)]; omega
      have hf : ∀ k, spec_csLines.f k s = spec_csLines.j0 k s (!ends s) := by
        intro k
        unfold spec_csLines.f
        rw [if_neg (by omega), if_neg h, hq, if_pos (by omega), if_pos (by omega), hb]
      cases he : ends s with
      | true =>
        obtain ⟨r, hr⟩ := hyes (by simp [okT, he])
        exact ⟨r, Ev.congr (fun k => by rw [hf k, he]; rfl) hr⟩
      | false =>
        refine ⟨[], Ev.congr (fun k => hf k) ?_⟩
        refine Ev.step (f := fun _ => some ([], false)) (fun k => ?_) (by simpa [okS, okT, h, he] using Ev.now (([] : List ByteArray), false))
        simp only [spec_csLines.j0, he]; rw [if_pos (by simp)]
  · refine ⟨[], ?_⟩
    have : okS s = false := by simp [okS, h1]
    rw [this]
    refine Ev.congr (f := fun k => spec_csLines.j0 k s true) (fun k => ?_) (Ev.step (f := fun _ => some ([], false)) (fun k => ?_) (Ev.now _))
    · unfold spec_csLines.f; rw [if_pos (by omega)]
    · simp only [spec_csLines.j0]; rw [if_pos trivial]
theorem spec_join (a b : ByteArray) (ha : a.size ≤ 1048576) (hb : b.size ≤ 1048576) : ∃ k, spec_JoinScripts.f k a b = some ((joined a b).1, (joined a b).2) := by
  obtain ⟨r1, h1⟩ := lines_ev a (by omega)
  obtain ⟨r2, h2⟩ := lines_ev b (by omega)
  obtain ⟨r3, h3⟩ := lines_ev (a ++ b) (by simp; omega)
  refine Ev.rounds (Ev.bind h1 (Ev.bind h2 (Ev.congr (fun k => by rw [if_pos (by omega)]) (Ev.bind h3 ?_))))
  refine Ev.congr (f := fun _ => some ((joined a b).1, (joined a b).2)) (fun k => ?_) (Ev.now _)
  cases g1 : okS a <;> cases g2 : okS b <;> cases g3 : okS (a ++ b) <;> simp [joined, g1, g2, g3]
set_option maxHeartbeats 1000000 in
theorem law_long0 (a b : ByteArray) (w : World) (ha : 1048576 < a.size) :
    Calls Tryd.prog 3 #[.string a, .string b] w fun e w' => e = .returned (.bool true) ∧ Below w.heap.size w w' := by
  have H0 := Aside0.mk (Below.refl w.heap.size w)
  have d : decide ((1048576 : Int) < (a.size : Int)) = true := by simp; omega
  go_enter Tryd.func3, Tryd.ntmps3
  go_wp2_with fail
  go_ret
  exact ⟨rfl, H0.out⟩
set_option maxHeartbeats 1000000 in
theorem law_long1 (a b : ByteArray) (w : World) (ha : ¬ 1048576 < a.size) (hb : 1048576 < b.size) :
    Calls Tryd.prog 3 #[.string a, .string b] w fun e w' => e = .returned (.bool true) ∧ Below w.heap.size w w' := by
  have H0 := Aside0.mk (Below.refl w.heap.size w)
  have d : decide ((1048576 : Int) < (a.size : Int)) = false := by simp; omega
  have d2 : decide ((1048576 : Int) < (b.size : Int)) = true := by simp; omega
  go_enter Tryd.func3, Tryd.ntmps3
  go_wp2_with fail
  go_ret
  exact ⟨rfl, H0.out⟩
set_option maxHeartbeats 1000000 in
theorem law_main (a b : ByteArray) (w : World) (hsh : w.ShapedOpen Tryd.prog) (ha : ¬ 1048576 < a.size) (hb : ¬ 1048576 < b.size) :
    Calls Tryd.prog 3 #[.string a, .string b] w fun e w' => e = .returned (.bool true) ∧ Below w.heap.size w w' := by
  have SH := Aside0.mk hsh
  clear hsh
  have d : decide ((1048576 : Int) < (a.size : Int)) = false := by simp; omega
  have d2 : decide ((1048576 : Int) < (b.size : Int)) = false := by simp; omega
  obtain ⟨k, hk⟩ := spec_join a b (by omega) (by omega)
  have HK := Aside0.mk hk
  clear hk
  go_enter Tryd.func3, Tryd.ntmps3
  go_wp2_with fail
  refine (spec_JoinScripts.calls k a b _ _ w HK.out).mono ?_
  rintro e w1 ⟨rfl, hb1⟩
  have B1 := Aside0.mk hb1
  clear hb1
  go_wp2_with fail
  refine (join_calls a b w1 (shaped_below SH.out B1.out) (by omega) (by omega)).mono ?_
  rintro e w2 ⟨rfl, hb2⟩
  have B2 := Aside0.mk (B1.out.trans (hb2.mono B1.out.size))
  clear hb2
  generalize (joined a b).1 = r1
  generalize (joined a b).2 = r2
  have e1 : (r1.toList != r1.toList) = false := by simp
  have e2 : (r2 != r2) = false := by simp
  go_wp2_with fail
  go_ret
  exact ⟨rfl, B2.out⟩
theorem law_walk (a b : ByteArray) (w : World) (hsh : w.ShapedOpen Tryd.prog) :
    Calls Tryd.prog 3 #[.string a, .string b] w fun e w' => e = .returned (.bool true) ∧ Below w.heap.size w w' := by
  by_cases ha : 1048576 < a.size
  · exact law_long0 a b w ha
  · by_cases hb : 1048576 < b.size
    · exact law_long1 a b w ha hb
    · exact law_main a b w hsh ha hb
end Go.Proofs.YtgajkcooefifdaaDoor.Join
