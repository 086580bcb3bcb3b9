/- Plain laws of the printed functions that FnExactFindTheme reaches: what is found; conversions, comparisons, marks. -/
import Derived.Test.YtgajkcooefifdaaPureA
import Derived.Test.YtgajkcooefifdaaPFnExactFindThemex4
import Derived.Test.YtgajkcooefifdaaX6
import Derived.Test.YtgajkcooefifdaaX7
import Derived.Test.YtgajkcooefifdaaPFnExactFindThemex8
namespace Go.Proofs.Ytgajkcooefifdaa.PureA
open Go.RowKit Go.Proofs.Ytgajkcooefifdaa.PFnExactFindTheme Go.Proofs.YtgajkcooefifdaaW.PrintWords Go.Proofs.YtgajkcooefifdaaW.PrintLast
set_option linter.unusedVariables false
set_option linter.unusedSimpArgs false

def sameN (p s n : Int) (z : S62) : Bool := (p == z.f0 && (s == z.f1 && (n == z.f2)))
def has (l : List S62) (p s n : Int) : Bool := l.any (sameN p s n)
theorem spec_has (l : List S62) (hl : l.length ≤ 1048576) (p s n : Int) : Ev (fun k => spec_fdHas.f k l p s n) (has l p s n) := by
  have key : ∀ (suf pre : List S62), l = pre ++ suf → Ev (fun k => spec_fdHas.l0 k l (l.length : Int) (pre.length : Int) p s n) (suf.any (sameN p s n)) := by
    intro suf
    induction suf with
    | nil =>
      intro pre he
      refine Ev.step (f := fun _ => some false) (fun k => ?_) (Ev.now _)
      simp only [spec_fdHas.l0]
      rw [if_neg (by rw [he]; simp)]
    | cons x suf ih =>
      intro pre he
      have hlen : l.length = pre.length + suf.length + 1 := by rw [he]; simp; omega
      have hr : rd_T62 l (pre.length : Int) = x := by rw [he]; exact rd62_at pre suf x
      have hw : wrap64 ((pre.length : Int) + 1) = ((pre ++ [x]).length : Int) := by
        rw [w64 (by omega) (by omega)]; simp
      have hi := ih (pre ++ [x]) (by rw [he]; simp)
      cases hc : sameN p s n x with
      | true =>
        refine Ev.step (f := fun _ => some true) (fun k => ?_) (by simpa [hc] using Ev.now true)
        simp only [spec_fdHas.l0, hr]
        rw [if_pos (by omega), if_pos (by omega), if_pos (by omega), if_pos (show (p == x.f0 && (s == x.f1 && (n == x.f2))) = true from hc)]
      | false =>
        rw [show (x :: suf).any (sameN p s n) = suf.any (sameN p s n) from by simp [hc]]
        refine Ev.step (fun k => ?_) hi
        simp only [spec_fdHas.l0, hr]
        rw [if_pos (by omega), if_pos (by omega), if_pos (by omega), if_neg (by rw [show (p == x.f0 && (s == x.f1 && (n == x.f2))) = false from hc]; simp), hw]
  exact key l [] rfl
theorem impl_has (l : List S62) (hl : l.length ≤ 1048576) (p s n : Int) : Ev (fun k => impl_Note_43.f k l p s n) (has l p s n) := by
  have key : ∀ (suf pre : List S62), l = pre ++ suf → ∃ r : Int, Ev (fun k => impl_Note_72.l0 k l (l.length : Int) (pre.length : Int) p s n) r ∧ decide (r ≥ 0) = suf.any (sameN p s n) := by
    intro suf
    induction suf with
    | nil =>
      intro pre he
      refine ⟨-1, Ev.step (f := fun _ => some (-1)) (fun k => ?_) (Ev.now _), rfl⟩
      simp only [impl_Note_72.l0]
      rw [if_neg (by rw [he]; simp)]
    | cons x suf ih =>
      intro pre he
      have hlen : l.length = pre.length + suf.length + 1 := by rw [he]; simp; omega
      have hr : rd_T62 l (pre.length : Int) = x := by rw [he]; exact rd62_at pre suf x
      have hw : wrap64 ((pre.length : Int) + 1) = ((pre ++ [x]).length : Int) := by
        rw [w64 (by omega) (by omega)]; simp
      obtain ⟨r, hi, hd⟩ := ih (pre ++ [x]) (by rw [he]; simp)
      cases hc : sameN p s n x with
      | true =>
        refine ⟨(pre.length : Int), Ev.step (f := fun _ => some (pre.length : Int)) (fun k => ?_) (Ev.now _), by simp [hc]⟩
        simp only [impl_Note_72.l0, hr]
        rw [if_pos (by omega), if_pos (by omega), if_pos (by omega), if_pos (show (p == x.f0 && (s == x.f1 && (n == x.f2))) = true from hc)]
      | false =>
        refine ⟨r, Ev.step (fun k => ?_) hi, by simpa [hc] using hd⟩
        simp only [impl_Note_72.l0, hr]
        rw [if_pos (by omega), if_pos (by omega), if_pos (by omega), if_neg (by rw [show (p == x.f0 && (s == x.f1 && (n == x.f2))) = false from hc]; simp), hw]
  obtain ⟨r, h, hd⟩ := key l [] rfl
  refine Ev.congr (f := fun k => (impl_Note_72.f k l p s n).bind fun t => some (decide (t ≥ 0))) (fun k => rfl) ?_
  refine Ev.bind (a := r) h ?_
  have : has l p s n = decide (r ≥ 0) := hd.symm
  rw [this]; exact Ev.now _

def okTheme (t : List S62) : Bool := score t && (decide (1 ≤ t.length) && decide (t.length ≤ 8))
def asked (l t : List S62) : Bool := score l && okTheme t
theorem impl_theme (t : List S62) (hl : t.length ≤ 1048576) : Ev (fun k => impl_isTheme.f k t) (okTheme t) := by
  by_cases h1 : 1 ≤ t.length
  · by_cases h2 : t.length ≤ 8
    · refine Ev.congr (f := fun k => (impl_IsScore.f k t).bind fun x => some x) (fun k => ?_) (Ev.bind (impl_score t hl) ?_)
      · unfold impl_isTheme.f; rw [if_pos (by omega), if_pos (by omega)]
      · simpa [okTheme, h1, h2] using Ev.now _
    · refine Ev.congr (f := fun _ => some false) (fun k => ?_) (by simpa [okTheme, h1, h2] using Ev.now _)
      unfold impl_isTheme.f; rw [if_pos (by omega), if_neg (by omega)]
  · refine Ev.congr (f := fun _ => some false) (fun k => ?_) (by simpa [okTheme, h1] using Ev.now _)
    unfold impl_isTheme.f; rw [if_neg (by omega)]
theorem spec_theme (t : List S62) (hl : t.length ≤ 1048576) : Ev (fun k => spec_fdTheme.f k t) (okTheme t) := by
  refine Ev.bind (spec_score t hl) ?_
  cases h : score t with
  | false => simpa [okTheme, h] using Ev.now _
  | true =>
    have : okTheme t = (decide (1 ≤ t.length) && decide (t.length ≤ 8)) := by simp [okTheme, h]
    rw [this]
    refine Ev.congr (f := fun _ => some (decide (1 ≤ t.length) && decide (t.length ≤ 8))) (fun k => ?_) (Ev.now _)
    unfold spec_l1In.f
    by_cases h1 : 1 ≤ t.length
    · rw [if_pos rfl, if_pos (by omega)]; simp [h1]; omega
    · rw [if_pos rfl, if_neg (by omega)]; simp [h1]
theorem spec_asked (l t : List S62) (hl : l.length ≤ 1048576) (ht : t.length ≤ 1048576) : Ev (fun k => spec_fdAsked.f k l t) (asked l t) := by
  refine Ev.bind (spec_score l hl) ?_
  cases h : score l with
  | false => simpa [asked, h] using Ev.now _
  | true =>
    have : asked l t = okTheme t := by simp [asked, h]
    rw [this]
    exact Ev.congr (fun k => by rw [if_pos rfl]) (Ev.bind (spec_theme t ht) (Ev.now _))

/-- All notes of a theme are there, moved. -/
def allHas (l t : List S62) (a b : Int) : Bool := t.all (fun y => has l (wrap64 (y.f0 + b)) (wrap64 (y.f1 + a)) y.f2)
def rowFor (l t : List S62) (x : S62) : List (List Int) := if allHas l t (wrap64 (x.f1 - (rd_T62 t 0).f1)) (wrap64 (x.f0 - (rd_T62 t 0).f0)) then [[wrap64 (x.f1 - (rd_T62 t 0).f1), wrap64 (x.f0 - (rd_T62 t 0).f0)]] else []
def found (l t : List S62) : List S62 → List (List Int)
  | [] => []
  | x :: r => rowFor l t x ++ found l t r
theorem found_len (l t : List S62) : ∀ s, (found l t s).length ≤ s.length
  | [] => by simp [found]
  | x :: s => by
    have := found_len l t s
    unfold found rowFor
    split <;> simp <;> omega
theorem found_two (l t : List S62) : ∀ s, ∀ r ∈ found l t s, r.length = 2
  | [] => by simp [found]
  | x :: s => by
    have := found_two l t s
    intro r hr
    unfold found rowFor at hr
    rcases List.mem_append.1 hr with hr | hr
    · split at hr
      · simp at hr; subst hr; rfl
      · simp at hr
    · exact this r hr
def themeRes (l t : List S62) : List (List Int) × Bool := if asked l t then (found l t l, true) else ([], false)

theorem impl_find_inner (l t : List S62) (hl : l.length ≤ 1048576) (ht : t.length ≤ 1048576) (a b i : Int) (x6 : List (List Int)) (hx : x6.length ≤ 1048576) (R : List (List Int) × Bool) :
    ∀ (suf pre : List S62) (v : Bool), t = pre ++ suf → Ev (fun k => impl_FindTheme.l0 k l t (if (v && allHas l suf a b) = true then x6 ++ [[a, b]] else x6) l (l.length : Int) (wrap64 (i + 1))) R →
      Ev (fun k => impl_FindTheme.l1 k l t x6 a b v l (l.length : Int) i t (t.length : Int) (pre.length : Int)) R := by
  intro suf
  induction suf with
  | nil =>
    intro pre v he hn
    refine Ev.step (fun k => ?_) hn
    simp only [impl_FindTheme.l1]
    rw [if_neg (by rw [he]; simp)]
    cases v with
    | true => rw [if_pos rfl, if_pos (by omega), if_pos (by simp [allHas])]
    | false => rw [if_neg (by simp), if_neg (by simp)]
  | cons y suf ih =>
    intro pre v he hn
    have hlen : t.length = pre.length + suf.length + 1 := by rw [he]; simp; omega
    have hr : rd_T62 t (pre.length : Int) = y := by rw [he]; exact rd62_at pre suf y
    have hw : wrap64 ((pre.length : Int) + 1) = ((pre ++ [y]).length : Int) := by
      rw [w64 (by omega) (by omega)]; simp
    cases v with
    | true =>
      have hi := ih (pre ++ [y]) (has l (wrap64 (y.f0 + b)) (wrap64 (y.f1 + a)) y.f2) (by rw [he]; simp) (by
        have : (true && allHas l (y :: suf) a b) = (has l (wrap64 (y.f0 + b)) (wrap64 (y.f1 + a)) y.f2 && allHas l suf a b) := by simp [allHas]
        rw [this] at hn; exact hn)
      refine Ev.step (f := fun k => (impl_Note_43.f k l (wrap64 (y.f0 + b)) (wrap64 (y.f1 + a)) y.f2).bind fun r => impl_FindTheme.l1 k l t x6 a b r l (l.length : Int) i t (t.length : Int) ((pre ++ [y]).length : Int)) (fun k => ?_) (Ev.bind (impl_has l hl _ _ _) hi)
      simp only [impl_FindTheme.l1, hr]
      rw [if_pos (by omega), if_pos (by omega), if_pos (by omega), if_pos trivial, hw]
    | false =>
      have hi := ih (pre ++ [y]) false (by rw [he]; simp) (by simpa using hn)
      refine Ev.step (fun k => ?_) hi
      simp only [impl_FindTheme.l1, hr]
      rw [if_pos (by omega), if_pos (by omega), if_pos (by omega), if_neg (by simp), hw]
theorem impl_find_outer (l t : List S62) (hl : l.length ≤ 1048576) (ht : t.length ≤ 1048576) (h1 : 1 ≤ t.length) :
    ∀ (suf pre : List S62) (x6 : List (List Int)), l = pre ++ suf → x6.length ≤ pre.length → Ev (fun k => impl_FindTheme.l0 k l t x6 l (l.length : Int) (pre.length : Int)) (x6 ++ found l t suf, true) := by
  intro suf
  induction suf with
  | nil =>
    intro pre x6 he hx
    refine Ev.step (f := fun _ => some (x6, true)) (fun k => ?_) (by simpa [found] using Ev.now (x6, true))
    simp only [impl_FindTheme.l0]
    rw [if_neg (by rw [he]; simp)]
  | cons x suf ih =>
    intro pre x6 he hx
    have hlen : l.length = pre.length + suf.length + 1 := by rw [he]; simp; omega
    have hr : rd_T62 l (pre.length : Int) = x := by rw [he]; exact rd62_at pre suf x
    have hw : wrap64 ((pre.length : Int) + 1) = ((pre ++ [x]).length : Int) := by
      rw [w64 (by omega) (by omega)]; simp
    refine Ev.step (f := fun k => impl_FindTheme.l1 k l t x6 (wrap64 (x.f1 - (rd_T62 t 0).f1)) (wrap64 (x.f0 - (rd_T62 t 0).f0)) true l (l.length : Int) (pre.length : Int) t (t.length : Int) (([] : List S62).length : Int)) (fun k => ?_) (impl_find_inner l t hl ht _ _ _ x6 (by omega) _ t [] true rfl ?_)
    · simp only [impl_FindTheme.l0, hr]
      rw [if_pos (by omega), if_pos (by omega), if_pos (by omega), if_pos (by omega)]; rfl
    · rw [hw]
      have hi := ih (pre ++ [x]) (x6 ++ rowFor l t x) (by rw [he]; simp) (by unfold rowFor; split <;> simp <;> omega)
      have e1 : x6 ++ found l t (x :: suf) = x6 ++ rowFor l t x ++ found l t suf := by simp [found]
      rw [e1]
      have e2 : (if (true && allHas l t (wrap64 (x.f1 - (rd_T62 t 0).f1)) (wrap64 (x.f0 - (rd_T62 t 0).f0))) = true then x6 ++ [[wrap64 (x.f1 - (rd_T62 t 0).f1), wrap64 (x.f0 - (rd_T62 t 0).f0)]] else x6) = x6 ++ rowFor l t x := by
        unfold rowFor
        cases allHas l t (wrap64 (x.f1 - (rd_T62 t 0).f1)) (wrap64 (x.f0 - (rd_T62 t 0).f0)) <;> simp
      rw [e2]; exact hi

theorem spec_find_inner (l t : List S62) (hl : l.length ≤ 1048576) (ht : t.length ≤ 1048576) (a b i : Int) (x6 : List (List Int)) (hx : x6.length ≤ 1048576) (R : List (List Int) × Bool) :
    ∀ (suf pre : List S62) (v : Bool), t = pre ++ suf → Ev (fun k => spec_FindTheme.l0 k l t (if (v && allHas l suf a b) = true then x6 ++ [[a, b]] else x6) l (l.length : Int) (wrap64 (i + 1))) R →
      Ev (fun k => spec_FindTheme.l1 k l t x6 a b v l (l.length : Int) i t (t.length : Int) (pre.length : Int)) R := by
  intro suf
  induction suf with
  | nil =>
    intro pre v he hn
    refine Ev.step (fun k => ?_) hn
    simp only [spec_FindTheme.l1]
    rw [if_neg (by rw [he]; simp)]
    cases v with
    | true => rw [if_pos rfl, if_pos (by omega), if_pos (by simp [allHas])]
    | false => rw [if_neg (by simp), if_neg (by simp)]
  | cons y suf ih =>
    intro pre v he hn
    have hlen : t.length = pre.length + suf.length + 1 := by rw [he]; simp; omega
    have hr : rd_T62 t (pre.length : Int) = y := by rw [he]; exact rd62_at pre suf y
    have hw : wrap64 ((pre.length : Int) + 1) = ((pre ++ [y]).length : Int) := by
      rw [w64 (by omega) (by omega)]; simp
    cases v with
    | true =>
      have hi := ih (pre ++ [y]) (has l (wrap64 (y.f0 + b)) (wrap64 (y.f1 + a)) y.f2) (by rw [he]; simp) (by
        have : (true && allHas l (y :: suf) a b) = (has l (wrap64 (y.f0 + b)) (wrap64 (y.f1 + a)) y.f2 && allHas l suf a b) := by simp [allHas]
        rw [this] at hn; exact hn)
      refine Ev.step (f := fun k => (spec_fdHas.f k l (wrap64 (y.f0 + b)) (wrap64 (y.f1 + a)) y.f2).bind fun r => spec_FindTheme.l1 k l t x6 a b r l (l.length : Int) i t (t.length : Int) ((pre ++ [y]).length : Int)) (fun k => ?_) (Ev.bind (spec_has l hl _ _ _) hi)
      simp only [spec_FindTheme.l1, hr]
      rw [if_pos (by omega), if_pos (by omega), if_pos (by omega), if_pos trivial, hw]
    | false =>
      have hi := ih (pre ++ [y]) false (by rw [he]; simp) (by simpa using hn)
      refine Ev.step (fun k => ?_) hi
      simp only [spec_FindTheme.l1, hr]
      rw [if_pos (by omega), if_pos (by omega), if_pos (by omega), if_neg (by simp), hw]
theorem spec_find_outer (l t : List S62) (hl : l.length ≤ 1048576) (ht : t.length ≤ 1048576) (h1 : 1 ≤ t.length) :
    ∀ (suf pre : List S62) (x6 : List (List Int)), l = pre ++ suf → x6.length ≤ pre.length → Ev (fun k => spec_FindTheme.l0 k l t x6 l (l.length : Int) (pre.length : Int)) (x6 ++ found l t suf, true) := by
  intro suf
  induction suf with
  | nil =>
    intro pre x6 he hx
    refine Ev.step (f := fun _ => some (x6, true)) (fun k => ?_) (by simpa [found] using Ev.now (x6, true))
    simp only [spec_FindTheme.l0]
    rw [if_neg (by rw [he]; simp)]
  | cons x suf ih =>
    intro pre x6 he hx
    have hlen : l.length = pre.length + suf.length + 1 := by rw [he]; simp; omega
    have hr : rd_T62 l (pre.length : Int) = x := by rw [he]; exact rd62_at pre suf x
    have hw : wrap64 ((pre.length : Int) + 1) = ((pre ++ [x]).length : Int) := by
      rw [w64 (by omega) (by omega)]; simp
    refine Ev.step (f := fun k => spec_FindTheme.l1 k l t x6 (wrap64 (x.f1 - (rd_T62 t 0).f1)) (wrap64 (x.f0 - (rd_T62 t 0).f0)) true l (l.length : Int) (pre.length : Int) t (t.length : Int) (([] : List S62).length : Int)) (fun k => ?_) (spec_find_inner l t hl ht _ _ _ x6 (by omega) _ t [] true rfl ?_)
    · simp only [spec_FindTheme.l0, hr]
      rw [if_pos (by omega), if_pos (by omega), if_pos (by omega), if_pos (by omega)]; rfl
    · rw [hw]
      have hi := ih (pre ++ [x]) (x6 ++ rowFor l t x) (by rw [he]; simp) (by unfold rowFor; split <;> simp <;> omega)
      have e1 : x6 ++ found l t (x :: suf) = x6 ++ rowFor l t x ++ found l t suf := by simp [found]
      rw [e1]
      have e2 : (if (true && allHas l t (wrap64 (x.f1 - (rd_T62 t 0).f1)) (wrap64 (x.f0 - (rd_T62 t 0).f0))) = true then x6 ++ [[wrap64 (x.f1 - (rd_T62 t 0).f1), wrap64 (x.f0 - (rd_T62 t 0).f0)]] else x6) = x6 ++ rowFor l t x := by
        unfold rowFor
        cases allHas l t (wrap64 (x.f1 - (rd_T62 t 0).f1)) (wrap64 (x.f0 - (rd_T62 t 0).f0)) <;> simp
      rw [e2]; exact hi

theorem okTheme_len {t : List S62} (h : okTheme t = true) : 1 ≤ t.length ∧ t.length ≤ 8 := by
  simp [okTheme] at h; omega
theorem score_len {t : List S62} (h : score t = true) : t.length ≤ 30 := by
  simp [score] at h; omega
theorem spec_find (l t : List S62) (hl : l.length ≤ 1048576) (ht : t.length ≤ 1048576) : Ev (fun k => spec_FindTheme.f k l t) (themeRes l t) := by
  refine Ev.bind (spec_asked l t hl ht) ?_
  unfold themeRes
  cases h : asked l t with
  | false => exact Ev.congr (f := fun _ => some ([], false)) (fun k => by rw [if_neg (by simp)]) (Ev.now _)
  | true =>
    have ht1 : okTheme t = true := by simp [asked] at h; exact h.2
    exact Ev.congr (fun k => by rw [if_pos rfl]; rfl) (spec_find_outer l t hl ht (okTheme_len ht1).1 l [] [] rfl (by simp))
theorem impl_find (l t : List S62) (hl : l.length ≤ 1048576) (ht : t.length ≤ 1048576) : Ev (fun k => impl_FindTheme.f k l t) (themeRes l t) := by
  refine Ev.bind (impl_score l hl) ?_
  unfold themeRes asked
  cases h : score l with
  | false =>
    refine Ev.congr (f := fun k => impl_FindTheme.j0 k l t true) (fun k => by rw [if_neg (by simp)]) ?_
    exact Ev.step (f := fun _ => some ([], false)) (fun k => by simp only [impl_FindTheme.j0]; rw [if_pos trivial]) (Ev.now _)
  | true =>
    refine Ev.congr (fun k => by rw [if_pos rfl]) (Ev.bind (impl_theme t ht) ?_)
    cases h2 : okTheme t with
    | false => exact Ev.step (f := fun _ => some ([], false)) (fun k => by simp only [impl_FindTheme.j0]; rw [if_pos (by simp)]) (Ev.now _)
    | true => exact Ev.step (fun k => by simp only [impl_FindTheme.j0]; rw [if_neg (by simp)]; rfl) (impl_find_outer l t hl ht (okTheme_len h2).1 l [] [] rfl (by simp))


/-! Conversions, comparisons, marks. -/
def conv (x : S65) : S62 := ⟨x.f0, x.f1, x.f2⟩
theorem to_notes (l : List S65) (hl : l.length ≤ 1048576) : Ev (fun k => laws_toNoteS.f k l) (l.map conv) := by
  have key : ∀ (suf pre : List S65) (r : List S62), l = pre ++ suf → r = pre.map conv ++ List.replicate suf.length z62 → Ev (fun k => laws_toNoteS.l0 k l r (pre.length : Int)) (l.map conv) := by
    intro suf
    induction suf with
    | nil =>
      intro pre r he hr
      refine Ev.step (f := fun _ => some r) (fun k => ?_) ?_
      · simp only [laws_toNoteS.l0]; rw [if_neg (by rw [he]; simp)]
      · have : l.map conv = r := by rw [hr, he]; simp
        rw [this]; exact Ev.now _
    | cons x suf ih =>
      intro pre r he hr
      have hlen : l.length = pre.length + suf.length + 1 := by rw [he]; simp; omega
      have hx : rd_T65 l (pre.length : Int) = x := by rw [he]; exact rd65_at pre suf x
      have hw : wrap64 ((pre.length : Int) + 1) = ((pre ++ [x]).length : Int) := by
        rw [w64 (by omega) (by omega)]; simp
      have hrl : r.length = pre.length + suf.length + 1 := by rw [hr]; simp; omega
      refine Ev.step (fun k => ?_) (ih (pre ++ [x]) (r.set pre.length (conv x)) (by rw [he]; simp) ?_)
      · simp only [laws_toNoteS.l0, laws_toNote.f, hx]
        rw [if_pos (by omega), if_pos (by omega)]
        simp only [Option.bind_some]
        rw [if_pos (by omega), hw]; rfl
      · rw [hr]; simp [List.replicate_succ]
  refine Ev.congr (f := fun k => laws_toNoteS.l0 k l (List.replicate l.length z62) (([] : List S65).length : Int)) (fun k => ?_) (key l [] _ rfl (by simp))
  unfold laws_toNoteS.f
  rw [if_pos (by omega), if_pos (by simp; omega)]; rfl
theorem eq_notes (l : List S62) (hl : l.length ≤ 1048576) : Ev (fun k => laws_eqNoteS.f k l l) true := by
  have key : ∀ (suf pre : List S62), l = pre ++ suf → Ev (fun k => laws_eqNoteS.l0 k l l (pre.length : Int)) true := by
    intro suf
    induction suf with
    | nil =>
      intro pre he
      refine Ev.step (f := fun _ => some true) (fun k => ?_) (Ev.now _)
      simp only [laws_eqNoteS.l0]; rw [if_neg (by rw [he]; simp)]
    | cons x suf ih =>
      intro pre he
      have hlen : l.length = pre.length + suf.length + 1 := by rw [he]; simp; omega
      have hw : wrap64 ((pre.length : Int) + 1) = ((pre ++ [x]).length : Int) := by
        rw [w64 (by omega) (by omega)]; simp
      refine Ev.step (fun k => ?_) (ih (pre ++ [x]) (by rw [he]; simp))
      simp only [laws_eqNoteS.l0, laws_eqNote.f]
      rw [if_pos (by omega), if_pos (by omega), if_pos (by omega), hw]
      simp
  refine Ev.congr (f := fun k => laws_eqNoteS.l0 k l l (([] : List S62).length : Int)) (fun k => ?_) (key l [] rfl)
  unfold laws_eqNoteS.f; rw [if_pos rfl]; rfl
theorem eq_ints (l : List Int) (hl : l.length ≤ 1048576) : Ev (fun k => laws_eqIntS.f k l l) true := by
  have key : ∀ (suf pre : List Int), l = pre ++ suf → Ev (fun k => laws_eqIntS.l0 k l l (pre.length : Int)) true := by
    intro suf
    induction suf with
    | nil =>
      intro pre he
      refine Ev.step (f := fun _ => some true) (fun k => ?_) (Ev.now _)
      simp only [laws_eqIntS.l0]; rw [if_neg (by rw [he]; simp)]
    | cons x suf ih =>
      intro pre he
      have hlen : l.length = pre.length + suf.length + 1 := by rw [he]; simp; omega
      have hw : wrap64 ((pre.length : Int) + 1) = ((pre ++ [x]).length : Int) := by
        rw [w64 (by omega) (by omega)]; simp
      refine Ev.step (fun k => ?_) (ih (pre ++ [x]) (by rw [he]; simp))
      simp only [laws_eqIntS.l0]
      rw [if_pos (by omega), if_pos (by omega), if_pos (by omega), hw]
      simp
  refine Ev.congr (f := fun k => laws_eqIntS.l0 k l l (([] : List Int).length : Int)) (fun k => ?_) (key l [] rfl)
  unfold laws_eqIntS.f; rw [if_pos rfl]; rfl
theorem eq_rows (l : List (List Int)) (hl : l.length ≤ 1048576) (hi : ∀ r ∈ l, r.length ≤ 1048576) : Ev (fun k => laws_eqIntSS.f k l l) true := by
  have key : ∀ (suf pre : List (List Int)), l = pre ++ suf → Ev (fun k => laws_eqIntSS.l0 k l l (pre.length : Int)) true := by
    intro suf
    induction suf with
    | nil =>
      intro pre he
      refine Ev.step (f := fun _ => some true) (fun k => ?_) (Ev.now _)
      simp only [laws_eqIntSS.l0]; rw [if_neg (by rw [he]; simp)]
    | cons x suf ih =>
      intro pre he
      have hlen : l.length = pre.length + suf.length + 1 := by rw [he]; simp; omega
      have hx : rd_L3 l (pre.length : Int) = x := by rw [he]; exact rdL3_at pre suf x
      have hw : wrap64 ((pre.length : Int) + 1) = ((pre ++ [x]).length : Int) := by
        rw [w64 (by omega) (by omega)]; simp
      refine Ev.step (f := fun k => (laws_eqIntS.f k x x).bind fun t => if t = true then laws_eqIntSS.l0 k l l ((pre ++ [x]).length : Int) else some false) (fun k => ?_) (Ev.bind (eq_ints x (hi x (by rw [he]; simp))) ?_)
      · simp only [laws_eqIntSS.l0, hx]
        rw [if_pos (by omega), if_pos (by omega), if_pos (by omega), hw]
      · exact Ev.congr (fun k => by rw [if_pos rfl]) (ih (pre ++ [x]) (by rw [he]; simp))
  refine Ev.congr (f := fun k => laws_eqIntSS.l0 k l l (([] : List (List Int)).length : Int)) (fun k => ?_) (key l [] rfl)
  unfold laws_eqIntSS.f; rw [if_pos rfl]; rfl
theorem mark_notes (l : List S62) (hl : l.length ≤ 1048576) (a : Int) (h0 : 0 ≤ a) (h1 : a ≤ 1099511627776) : ∃ l', Ev (fun k => laws_markNoteS.f k l a) (a + 3 * (l.length : Int), l') := by
  have key : ∀ (d : Nat) (i : Int) (x : List S62), x.length = l.length → 0 ≤ i → i + d = l.length → ∃ l', Ev (fun k => laws_markNoteS.l0 k x (a + 3 * i) i) (a + 3 * (l.length : Int), l') := by
    intro d
    induction d with
    | zero =>
      intro i x hx h2 h3
      refine ⟨x, Ev.step (f := fun _ => some (a + 3 * i, x)) (fun k => ?_) ?_⟩
      · simp only [laws_markNoteS.l0]; rw [if_neg (by omega)]
      · have : a + 3 * i = a + 3 * (l.length : Int) := by omega
        rw [this]; exact Ev.now _
    | succ d ih =>
      intro i x hx h2 h3
      have e1 : wrap64 (a + 3 * i + 1) = a + 3 * i + 1 := w64 (by omega) (by omega)
      have e2 : wrap64 (a + 3 * i + 1 + 1) = a + 3 * i + 1 + 1 := w64 (by omega) (by omega)
      have e3 : wrap64 (a + 3 * i + 1 + 1 + 1) = a + 3 * (i + 1) := by rw [w64 (by omega) (by omega)]; omega
      have e4 : wrap64 (i + 1) = i + 1 := w64 (by omega) (by omega)
      have hs : ∀ y : List S62, y.length = l.length → ∃ l', Ev (fun k => laws_markNoteS.l0 k y (a + 3 * (i + 1)) (i + 1)) (a + 3 * (l.length : Int), l') := fun y hy => ih (i + 1) y hy (by omega) (by omega)
      obtain ⟨l', hl'⟩ := hs ((((x.set i.toNat (⟨a + 3 * i, (rd_T62 x i).f1, (rd_T62 x i).f2⟩ : S62))).set i.toNat (⟨(rd_T62 (x.set i.toNat (⟨a + 3 * i, (rd_T62 x i).f1, (rd_T62 x i).f2⟩ : S62)) i).f0, a + 3 * i + 1, (rd_T62 (x.set i.toNat (⟨a + 3 * i, (rd_T62 x i).f1, (rd_T62 x i).f2⟩ : S62)) i).f2⟩ : S62)).set i.toNat
        (⟨(rd_T62 ((x.set i.toNat (⟨a + 3 * i, (rd_T62 x i).f1, (rd_T62 x i).f2⟩ : S62)).set i.toNat (⟨(rd_T62 (x.set i.toNat (⟨a + 3 * i, (rd_T62 x i).f1, (rd_T62 x i).f2⟩ : S62)) i).f0, a + 3 * i + 1, (rd_T62 (x.set i.toNat (⟨a + 3 * i, (rd_T62 x i).f1, (rd_T62 x i).f2⟩ : S62)) i).f2⟩ : S62)) i).f0, (rd_T62 ((x.set i.toNat (⟨a + 3 * i, (rd_T62 x i).f1, (rd_T62 x i).f2⟩ : S62)).set i.toNat (⟨(rd_T62 (x.set i.toNat (⟨a + 3 * i, (rd_T62 x i).f1, (rd_T62 x i).f2⟩ : S62)) i).f0, a + 3 * i + 1, (rd_T62 (x.set i.toNat (⟨a + 3 * i, (rd_T62 x i).f1, (rd_T62 x i).f2⟩ : S62)) i).f2⟩ : S62)) i).f1, a + 3 * i + 1 + 1⟩ : S62)) (by simp [hx])
      refine ⟨l', Ev.step (fun k => ?_) hl'⟩
      simp only [laws_markNoteS.l0, Option.bind_some]
      rw [if_pos (by omega), if_pos (by omega), e1, e2, e3, e4]
  obtain ⟨l', h⟩ := key l.length 0 l rfl (by omega) (by omega)
  exact ⟨l', by simpa [laws_markNoteS.f] using h⟩
/-- a, a + 1, .. -/
def upFrom : Int → List Int → List Int
  | _, [] => []
  | a, _ :: r => a :: upFrom (a + 1) r
theorem upFrom_len : ∀ (l : List Int) (a : Int), (upFrom a l).length = l.length
  | [], _ => rfl
  | _ :: r, a => by simp [upFrom, upFrom_len r]
theorem mark_ints (l : List Int) (hl : l.length ≤ 1048576) (a : Int) (h0 : 0 ≤ a) (h1 : a ≤ 1099511627776) : Ev (fun k => laws_markIntS.f k l a) (a + (l.length : Int), upFrom a l) := by
  have key : ∀ (suf pre : List Int) (b : Int), b + suf.length ≤ 2199023255552 → 0 ≤ b → pre.length + suf.length ≤ 1048576 → Ev (fun k => laws_markIntS.l0 k (pre ++ suf) b (pre.length : Int)) (b + (suf.length : Int), pre ++ upFrom b suf) := by
    intro suf
    induction suf with
    | nil =>
      intro pre b h2 h3 h4
      refine Ev.step (f := fun _ => some (b, pre)) (fun k => ?_) (by simpa [upFrom] using Ev.now (b, pre))
      simp only [laws_markIntS.l0]; rw [if_neg (by simp)]; simp
    | cons x suf ih =>
      intro pre b h2 h3 h4
      simp only [List.length_cons] at h2 h4
      have hw : wrap64 ((pre.length : Int) + 1) = ((pre ++ [b]).length : Int) := by
        rw [w64 (by omega) (by omega)]; simp
      have hb : wrap64 (b + 1) = b + 1 := w64 (by omega) (by omega)
      have hi := ih (pre ++ [b]) (b + 1) (by omega) (by omega) (by simp; omega)
      have e1 : (b + (((x :: suf).length : Nat) : Int), pre ++ upFrom b (x :: suf)) = (b + 1 + (suf.length : Int), pre ++ [b] ++ upFrom (b + 1) suf) := by
        simp [upFrom]; omega
      rw [e1]
      refine Ev.step (fun k => ?_) hi
      simp only [laws_markIntS.l0]
      rw [if_pos (by simp; omega), if_pos (by omega), hw, hb]
      simp
  have := key l [] a (by omega) h0 (by simpa using hl)
  simpa [laws_markIntS.f] using this
theorem held_ints (l : List Int) (hl : l.length ≤ 1048576) (a : Int) (h0 : 0 ≤ a) (h1 : a ≤ 1099511627776) : Ev (fun k => laws_heldIntS.f k (upFrom a l) a) (a + (l.length : Int)) := by
  have key : ∀ (suf pre : List Int) (b : Int), b + suf.length ≤ 2199023255552 → 0 ≤ b → pre.length + suf.length ≤ 1048576 → Ev (fun k => laws_heldIntS.l0 k (pre ++ upFrom b suf) b (pre.length : Int)) (b + (suf.length : Int)) := by
    intro suf
    induction suf with
    | nil =>
      intro pre b h2 h3 h4
      refine Ev.step (f := fun _ => some b) (fun k => ?_) (by simpa using Ev.now b)
      simp only [laws_heldIntS.l0]; rw [if_neg (by simp [upFrom])]
    | cons x suf ih =>
      intro pre b h2 h3 h4
      simp only [List.length_cons] at h2 h4
      have hw : wrap64 ((pre.length : Int) + 1) = ((pre ++ [b]).length : Int) := by
        rw [w64 (by omega) (by omega)]; simp
      have hb : wrap64 (b + 1) = b + 1 := w64 (by omega) (by omega)
      have hi := ih (pre ++ [b]) (b + 1) (by omega) (by omega) (by simp; omega)
      have e0 : pre ++ upFrom b (x :: suf) = pre ++ [b] ++ upFrom (b + 1) suf := by simp [upFrom]
      have e1 : b + (((x :: suf).length : Nat) : Int) = b + 1 + (suf.length : Int) := by simp; omega
      have er : rd (pre ++ [b] ++ upFrom (b + 1) suf) (pre.length : Int) = b := by rw [List.append_assoc]; exact rd_at pre _ b
      rw [e0, e1]
      refine Ev.step (fun k => ?_) hi
      simp only [laws_heldIntS.l0, er]
      rw [if_pos (by simp; omega), if_pos (by omega), hw, hb]
      simp
  have := key l [] a (by omega) h0 (by simpa using hl)
  simpa [laws_heldIntS.f] using this
/-- All rows marked; how far the marks go. -/
def markAll : Int → List (List Int) → List (List Int)
  | _, [] => []
  | a, r :: s => upFrom a r :: markAll (a + r.length) s
def markEnd : Int → List (List Int) → Int
  | a, [] => a
  | a, r :: s => markEnd (a + r.length) s
theorem markEnd_le (B : Nat) : ∀ (l : List (List Int)) (a : Int), (∀ r ∈ l, r.length ≤ B) → a ≤ markEnd a l ∧ markEnd a l ≤ a + B * l.length
  | [], a, _ => by simp [markEnd]
  | r :: s, a, h => by
    have h1 := h r (by simp)
    have := markEnd_le B s (a + r.length) (fun r hr => h r (by simp [hr]))
    have e : (B : Int) * (((r :: s).length : Nat) : Int) = B * s.length + B := by simp [Int.mul_add]
    simp only [markEnd]
    rw [e]
    omega

end Go.Proofs.Ytgajkcooefifdaa.PureA
