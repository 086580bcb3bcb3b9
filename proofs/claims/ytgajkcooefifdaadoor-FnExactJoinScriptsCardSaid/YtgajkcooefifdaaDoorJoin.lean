/- Contracts of textLines, scriptLines and JoinScripts of the program: whether texts are scripts goes by their last bytes, sizes and newlines. -/
import Derived.Test.YtgajkcooefifdaaDoorShelf
import Derived.Test.YtgajkcooefifdaaDoorPFnExactJoinScriptsx1
import Derived.Lib.SplitLaws
namespace Go.Proofs.YtgajkcooefifdaaDoor.Join
open Go.RowKit Go.Proofs.YtgajkcooefifdaaDoorW.PrintWords Go.Proofs.YtgajkcooefifdaaDoorW.PrintLast Go.Proofs.YtgajkcooefifdaaDoorW.PrintMore
open Go.Proofs.YtgajkcooefifdaaDoor.PFnExactJoinScripts
set_option linter.unusedVariables false
set_option linter.unusedSimpArgs false

theorem shaped_below {P : Program} {w w' : World} (h : w.ShapedOpen P) (hb : Below w.heap.size w w') : w'.ShapedOpen P :=
  h.keptBut (hb.frame (fun _ => False)) (fun _ h => h.elim)
def nl (s : ByteArray) : Nat := s.data.toList.count 10
def ends (s : ByteArray) : Bool := Lib.hasSuffix s.data.toList [10]

set_option maxHeartbeats 1000000 in
theorem textLines_empty (s : ByteArray) (w : World) (h : s.toList = []) :
    Calls Tryd.prog 29 #[.string s] w fun e w' => e = .returned (.tuple #[.slice none 0 0, .bool true]) ∧ Below w.heap.size w w' := by
  have H0 := Aside0.mk (Below.refl w.heap.size w)
  go_enter Tryd.func29, Tryd.ntmps29
  go_wp2
  go_ret2
  exact ⟨rfl, H0.out⟩
theorem notEmpty {s : ByteArray} (h : ¬ s.toList = []) : (!s.toList.isEmpty) = true := by
  cases hs : s.toList with
  | nil => exact absurd hs h
  | cons => rfl
set_option maxHeartbeats 1000000 in
theorem textLines_no (s : ByteArray) (w : World) (h : ¬ s.toList = []) (hs : s.size ≤ 4194304) (he : ends s = false) :
    Calls Tryd.prog 29 #[.string s] w fun e w' => e = .returned (.tuple #[.slice none 0 0, .bool false]) ∧ Below w.heap.size w w' := by
  have H0 := Aside0.mk (Below.refl w.heap.size w)
  have E := Aside0.mk he
  have hE := notEmpty h
  have hE2 : s.toList.isEmpty = false := by simpa using hE
  clear he
  go_enter Tryd.func29, Tryd.ntmps29
  go_wp2_with fail
  refine (Tryd.strings_HasSuffix s ⟨#[10]⟩ w (by omega)).mono ?_
  rintro e w1 ⟨rfl, rfl⟩
  rw [show Lib.hasSuffix s.data.toList (ByteArray.mk #[10]).data.toList = false from E.out]
  go_wp2_with fail
  go_ret2
  exact ⟨rfl, H0.out⟩
set_option maxHeartbeats 1000000 in
theorem textLines_yes (s : ByteArray) (w : World) (hsh : w.ShapedOpen Tryd.prog) (h : ¬ s.toList = []) (hs : s.size ≤ 4194304) (he : ends s = true) :
    Calls Tryd.prog 29 #[.string s] w fun e w' => ∃ g c : Nat, e = .returned (.tuple #[.slice (some ⟨g, 0, none⟩) (Lib.countB (s.extract 0 (s.size - 1)) ⟨#[10]⟩ + 1) c, .bool true]) ∧ Below w.heap.size w w' := by
  have H0 := Aside0.mk (Below.refl w.heap.size w)
  have E := Aside0.mk he
  have SH := Aside0.mk hsh
  have hE := notEmpty h
  have hE2 : s.toList.isEmpty = false := by simpa using hE
  clear he hsh
  go_enter Tryd.func29, Tryd.ntmps29
  go_wp2_with fail
  refine (Tryd.strings_HasSuffix s ⟨#[10]⟩ w (by omega)).mono ?_
  rintro e w1 ⟨rfl, rfl⟩
  rw [show Lib.hasSuffix s.data.toList (ByteArray.mk #[10]).data.toList = true from E.out]
  have hpos : 0 < s.size := by
    cases hz : s.size with
    | zero =>
      exfalso
      apply h
      rw [Lib.toList_data]
      exact List.length_eq_zero_iff.1 (by simpa using hz)
    | succ n => omega
  go_wp2_with fail
  refine (Tryd.strings_Split_shaped _ ⟨#[10]⟩ _ SH.out (by simp; omega) (by decide)).mono ?_
  rintro e w2 ⟨rfl, rfl⟩
  go_wp2_with fail
  go_ret2
  exact ⟨_, _, rfl, (Below.refl _ _).alloc (Nat.le_refl _) _⟩

/-! Lines are newlines. -/
theorem count_nl (l : List UInt8) : Lib.count l [10] = l.count 10 := Lib.count_one 10 l
theorem drop_last (l : List UInt8) (h : Lib.hasSuffix l [10] = true) : ∃ p, l = p ++ [10] := by
  obtain ⟨p, hp⟩ := List.isSuffixOf_iff_suffix.1 h
  exact ⟨p, hp.symm⟩
theorem pieces (s : ByteArray) (he : ends s = true) : Lib.countB (s.extract 0 (s.size - 1)) ⟨#[10]⟩ + 1 = nl s := by
  obtain ⟨p, hp⟩ := drop_last _ he
  have hl : s.size = p.length + 1 := by
    have := congrArg List.length hp
    simpa using this
  have e1 : (s.extract 0 (s.size - 1)).data.toList = p := by
    rw [ByteArray.data_extract, Array.toList_extract]
    simp [List.extract_eq_take_drop, hp, hl]
  show Lib.count (s.extract 0 (s.size - 1)).data.toList [10] + 1 = s.data.toList.count 10
  rw [e1, count_nl, hp, List.count_append]
  simp
/-- A text of lines. -/
def okT (s : ByteArray) : Bool := decide (s.toList = []) || ends s
theorem textLines_calls (s : ByteArray) (w : World) (hsh : w.ShapedOpen Tryd.prog) (hs : s.size ≤ 4194304) :
    Calls Tryd.prog 29 #[.string s] w fun e w' => ∃ (A : Option Addr) (n c : Nat), e = .returned (.tuple #[.slice A n c, .bool (okT s)]) ∧ (okT s = true → n = nl s) ∧ Below w.heap.size w w' := by
  by_cases h : s.toList = []
  · refine (textLines_empty s w h).mono ?_
    rintro e w' ⟨rfl, hb⟩
    refine ⟨none, 0, 0, by simp [okT, h], fun _ => ?_, hb⟩
    rw [Lib.toList_data] at h
    simp [nl, h]
  · cases he : ends s with
    | false =>
      refine (textLines_no s w h hs he).mono ?_
      rintro e w' ⟨rfl, hb⟩
      exact ⟨none, 0, 0, by simp [okT, h, he], fun h2 => by simp [okT, h, he] at h2, hb⟩
    | true =>
      refine (textLines_yes s w hsh h hs he).mono ?_
      rintro e w' ⟨g, c, rfl, hb⟩
      exact ⟨_, _, _, by rw [show okT s = true by simp [okT, he]], fun _ => pieces s he, hb⟩
/-- A script. -/
def okS (s : ByteArray) : Bool := okT s && (decide (s.size ≤ 2000) && decide (nl s ≤ 40))
set_option maxHeartbeats 1000000 in
theorem scriptLines_calls (s : ByteArray) (w : World) (hsh : w.ShapedOpen Tryd.prog) (hs : s.size ≤ 4194304) :
    Calls Tryd.prog 15 #[.string s] w fun e w' => ∃ v : Value, e = .returned (.tuple #[v, .bool (okS s)]) ∧ Below w.heap.size w w' := by
  have SH := Aside0.mk hsh
  clear hsh
  go_enter Tryd.func15, Tryd.ntmps15
  go_wp2_with fail
  refine (textLines_calls s w SH.out hs).mono ?_
  rintro e w1 ⟨A, n, c, rfl, hn, hb⟩
  have HB := Aside0.mk hb
  clear hb
  cases h1 : okT s with
  | false =>
    have HS := Aside0.mk (show okS s = false by simp [okS, h1])
    clear hn h1
    go_wp2_with fail
    go_ret2
    exact ⟨_, by rw [HS.out]; rfl, HB.out⟩
  | true =>
    obtain rfl := hn h1
    by_cases h2 : s.size ≤ 2000
    · by_cases h3 : nl s ≤ 40
      · have HS := Aside0.mk (show okS s = true by simp [okS, h1, h2, h3])
        have d2 : decide ((s.size : Int) ≤ 2000) = true := by simp; omega
        have d3 : decide ((nl s : Int) ≤ 40) = true := by simp; omega
        clear hn h1
        go_wp2_with fail
        go_ret2
        exact ⟨_, by rw [HS.out]; rfl, HB.out⟩
      · have HS := Aside0.mk (show okS s = false by simp [okS, h1, h2, h3])
        have d2 : decide ((s.size : Int) ≤ 2000) = true := by simp; omega
        have d3 : decide ((nl s : Int) ≤ 40) = false := by simp; omega
        clear hn h1
        go_wp2_with fail
        go_ret2
        exact ⟨_, by rw [HS.out]; rfl, HB.out⟩
    · have HS := Aside0.mk (show okS s = false by simp [okS, h1, h2])
      have d2 : decide ((s.size : Int) ≤ 2000) = false := by simp; omega
      clear hn h1
      go_wp2_with fail
      go_ret2
      exact ⟨_, by rw [HS.out]; rfl, HB.out⟩
def joined (a b : ByteArray) : ByteArray × Bool := if okS a && (okS b && okS (a ++ b)) then (a ++ b, true) else (⟨#[]⟩, false)
set_option maxHeartbeats 1000000 in
theorem join_calls (a b : ByteArray) (w : World) (hsh : w.ShapedOpen Tryd.prog) (ha : a.size ≤ 1048576) (hb : b.size ≤ 1048576) :
    Calls Tryd.prog 6 #[.string a, .string b] w fun e w' => e = .returned (.tuple #[.string (joined a b).1, .bool (joined a b).2]) ∧ Below w.heap.size w w' := by
  have SH := Aside0.mk hsh
  clear hsh
  go_enter Tryd.func6, Tryd.ntmps6
  go_wp2_with fail
  refine (scriptLines_calls a w SH.out (by omega)).mono ?_
  rintro e w1 ⟨v1, rfl, hb1⟩
  have B1 := Aside0.mk hb1
  clear hb1
  go_wp2_with fail
  refine (scriptLines_calls b w1 (shaped_below SH.out B1.out) (by omega)).mono ?_
  rintro e w2 ⟨v2, rfl, hb2⟩
  have B2 := Aside0.mk (B1.out.trans (hb2.mono B1.out.size))
  clear hb2
  go_wp2_with fail
  refine (scriptLines_calls (a ++ b) w2 (shaped_below SH.out B2.out) (by simp; omega)).mono ?_
  rintro e w3 ⟨v3, rfl, hb3⟩
  have B3 := Aside0.mk (B2.out.trans (hb3.mono B2.out.size))
  clear hb3
  cases h1 : okS a with
  | false =>
    cases h2 : okS b <;> cases h3 : okS (a ++ b)
    all_goals
      have HJ := Aside0.mk (show joined a b = (⟨#[]⟩, false) by simp [joined, h1])
      clear h1
      go_wp2_with fail
      go_ret2
      exact ⟨by rw [HJ.out]; rfl, B3.out⟩
  | true =>
    cases h2 : okS b with
    | false =>
      cases h3 : okS (a ++ b)
      all_goals
        have HJ := Aside0.mk (show joined a b = (⟨#[]⟩, false) by simp [joined, h1, h2])
        clear h1 h2
        go_wp2_with fail
        go_ret2
        exact ⟨by rw [HJ.out]; rfl, B3.out⟩
    | true =>
      cases h3 : okS (a ++ b) with
      | false =>
        have HJ := Aside0.mk (show joined a b = (⟨#[]⟩, false) by simp [joined, h1, h2, h3])
        clear h1 h2 h3
        go_wp2_with fail
        go_ret2
        exact ⟨by rw [HJ.out]; rfl, B3.out⟩
      | true =>
        have HJ := Aside0.mk (show joined a b = (a ++ b, true) by simp [joined, h1, h2, h3])
        clear h1 h2 h3
        go_wp2_with fail
        go_ret2
        exact ⟨by rw [HJ.out]; rfl, B3.out⟩
end Go.Proofs.YtgajkcooefifdaaDoor.Join
