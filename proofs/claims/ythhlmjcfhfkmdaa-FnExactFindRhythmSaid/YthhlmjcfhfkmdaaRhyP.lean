/- Plain laws of the printed functions that FnExactFindRhythm reaches: scores, themes, what is found. -/
import Derived.Test.YthhlmjcfhfkmdaaRhyA
import Derived.Test.YthhlmjcfhfkmdaaRhyB
namespace Go.Proofs.Ythhlmjcfhfkmdaa.Rhy
open Go.RowKit Go.Proofs.Ythhlmjcfhfkmdaa.PFnExactFindRhythm Go.Proofs.YthhlmjcfhfkmdaaW.PrintWords Go.Proofs.YthhlmjcfhfkmdaaW.PrintLast
set_option linter.unusedVariables false
set_option linter.unusedSimpArgs false

theorem w64 {x : Int} (h0 : -9223372036854775808 ≤ x) (h1 : x ≤ 9223372036854775807) : wrap64 x = x := by
  unfold wrap64; omega

theorem rd58_at (pre suf : List S58) (x : S58) : rd_T58 (pre ++ x :: suf) (pre.length : Int) = x := by
  simp [rd_T58]
theorem rd61_at (pre suf : List S61) (x : S61) : rd_T61 (pre ++ x :: suf) (pre.length : Int) = x := by
  simp [rd_T61]
theorem rd_at (pre suf : List Int) (x : Int) : rd (pre ++ x :: suf) (pre.length : Int) = x := by
  simp [rd]
/-- A note is valid. -/
def okNote (p s l : Int) : Bool := decide (24 ≤ p) && decide (p ≤ 96) && decide (0 ≤ s) && decide (s ≤ 999) && decide (1 ≤ l) && decide (l ≤ 99)
theorem spec_note (p s l : Int) : spec_ntNote.f p s l = some (okNote p s l) := by
  unfold spec_ntNote.f spec_ntPitch.f spec_l1In.f okNote
  by_cases h1 : 24 ≤ p <;> by_cases h2 : p ≤ 96 <;> by_cases h3 : 0 ≤ s <;> by_cases h4 : s ≤ 999 <;> by_cases h5 : 1 ≤ l <;> by_cases h6 : l ≤ 99 <;> simp [h1, h2, h3, h4, h5, h6]
theorem impl_note (p s l : Int) : impl_IsNote.f p s l = some (okNote p s l) := by
  unfold impl_IsNote.f okNote
  by_cases h1 : 24 ≤ p <;> by_cases h2 : p ≤ 96 <;> by_cases h3 : 0 ≤ s <;> by_cases h4 : s ≤ 999 <;> by_cases h5 : 1 ≤ l <;> by_cases h6 : l ≤ 99 <;> simp [h1, h2, h3, h4, h5, h6]
/-- A note comes before another one. -/
def before (a b : S58) : Bool := decide (a.f1 < b.f1) || (decide (a.f1 = b.f1) && decide (a.f0 < b.f0))
theorem spec_before (a b : S58) : spec_ntBefore.f a.f0 a.f1 a.f2 b.f0 b.f1 b.f2 = some (before a b) := by
  unfold spec_ntBefore.f before
  by_cases h1 : a.f1 < b.f1
  · simp [h1]
  · by_cases h2 : a.f1 = b.f1 <;> simp [h1, h2]
theorem impl_before (a b : S58) : impl_noteLess.f a.f0 a.f1 a.f2 b.f0 b.f1 b.f2 = some (before a b) := by
  unfold impl_noteLess.f before
  by_cases h2 : a.f1 = b.f1
  · have h1 : ¬ a.f1 < b.f1 := by omega
    simp [h1, h2]
  · by_cases h1 : a.f1 < b.f1 <;> simp [h1, h2]

def okN (x : S58) : Bool := okNote x.f0 x.f1 x.f2
theorem okN_bd {x : S58} (h : okN x = true) : 24 ≤ x.f0 ∧ x.f0 ≤ 96 ∧ 0 ≤ x.f1 ∧ x.f1 ≤ 999 ∧ 1 ≤ x.f2 ∧ x.f2 ≤ 99 := by
  simp [okN, okNote] at h; omega
/-- y, an earlier note, still sounds when x of the same pitch begins. -/
def clash (x y : S58) : Bool := decide (y.f0 = x.f0) && decide (y.f1 + y.f2 > x.f1)
/-- The beginning 'pre' is in order and valid. -/
def goodStep (pre : List S58) (x : S58) : Bool := okN x && (match pre.getLast? with | none => true | some y => before y x) && pre.all (fun y => !clash x y)
def goodTo : List S58 → List S58 → Bool
  | _, [] => true
  | pre, x :: r => goodStep pre x && goodTo (pre ++ [x]) r
def score (l : List S58) : Bool := goodTo [] l && decide (l.length ≤ 30)
/-- What is known of a good beginning. -/
def Good (pre : List S58) : Prop := (∀ y ∈ pre, okN y = true) ∧ ∀ z, pre.getLast? = some z → ∀ y ∈ pre, y.f1 ≤ z.f1
theorem before_le {a b : S58} (h : before a b = true) : a.f1 ≤ b.f1 := by
  simp [before] at h; omega
theorem Good.nil : Good [] := ⟨fun _ h => by simp at h, fun _ h => by simp at h⟩
theorem good_snoc {pre : List S58} {x : S58} (h : Good pre) (hs : goodStep pre x = true) : Good (pre ++ [x]) ∧ ∀ y ∈ pre, y.f1 ≤ x.f1 := by
  simp only [goodStep, Bool.and_eq_true] at hs
  obtain ⟨⟨h1, h2⟩, h3⟩ := hs
  have hle : ∀ y ∈ pre, y.f1 ≤ x.f1 := by
    intro y hy
    cases hz : pre.getLast? with
    | none => rw [List.getLast?_eq_none_iff] at hz; subst hz; simp at hy
    | some z =>
      rw [hz] at h2
      have := h.2 z hz y hy
      have := before_le h2
      omega
  refine ⟨⟨?_, ?_⟩, hle⟩
  · intro y hy
    rcases List.mem_append.1 hy with hy | hy
    · exact h.1 y hy
    · rw [List.mem_singleton.1 hy]; exact h1
  · intro z hz y hy
    simp at hz; subst hz
    rcases List.mem_append.1 hy with hy | hy
    · exact hle y hy
    · rw [List.mem_singleton.1 hy]; exact Int.le_refl _
theorem last_at (p : List S58) (y : S58) (r : List S58) : rd_T58 ((p ++ [y]) ++ r) (((p ++ [y]).length : Int) - 1) = y := by
  have : (((p ++ [y]).length : Int) - 1) = (p.length : Int) := by simp
  rw [this, List.append_assoc]; exact rd58_at p r y

/-- The inner loop of impl.IsScore, from behind p on; x is the note at pre's end. -/
theorem impl_inner (l pre : List S58) (x : S58) (hl : pre.length ≤ 1048576) (b : Bool) (hok : ∀ y ∈ pre, okN y = true) :
    ∀ (s p : List S58), pre = p ++ s → (s.all (fun y => !clash x y) = true → Ev (fun k => impl_IsScore.l0 k l l (l.length : Int) (wrap64 ((pre.length : Int) + 1))) b) →
      Ev (fun k => impl_IsScore.l1 k l l (l.length : Int) (pre.length : Int) pre (pre.length : Int) (p.length : Int) x.f0 x.f1 x.f2) (s.all (fun y => !clash x y) && b) := by
  intro s
  induction s with
  | nil =>
    intro p hp hnext
    refine Ev.step (f := fun k => impl_IsScore.l0 k l l (l.length : Int) (wrap64 ((pre.length : Int) + 1))) (fun k => ?_) (by simpa using hnext rfl)
    have : pre.length = p.length := by rw [hp]; simp
    simp only [impl_IsScore.l1]
    rw [if_neg (by omega)]
  | cons y s ih =>
    intro p hp hnext
    have hlen : pre.length = p.length + s.length + 1 := by rw [hp]; simp; omega
    have hy : okN y = true := hok y (by rw [hp]; simp)
    have hb := okN_bd hy
    have hr : rd_T58 pre (p.length : Int) = y := by rw [hp]; exact rd58_at p s y
    have hw : wrap64 ((p.length : Int) + 1) = ((p ++ [y]).length : Int) := by
      rw [w64 (by omega) (by omega)]; simp
    cases hcl : clash x y with
    | true =>
      refine Ev.step (f := fun _ => some false) (fun k => ?_) (by simpa [hcl] using Ev.now false)
      simp only [clash, Bool.and_eq_true, decide_eq_true_eq] at hcl
      simp only [impl_IsScore.l1, impl_noteEnd.f, hr]
      rw [if_pos (by omega), if_pos (by omega), if_pos (by omega), if_pos hcl.1]
      simp only [Option.bind_some]
      rw [w64 (by omega) (by omega), if_pos hcl.2]
    | false =>
      have hi := ih (p ++ [y]) (by rw [hp]; simp) (fun h => hnext (by simp [hcl] at h ⊢; exact h))
      rw [show ((y :: s).all (fun y => !clash x y) && b) = (s.all (fun y => !clash x y) && b) from by simp [hcl]]
      refine Ev.step (fun k => ?_) hi
      simp only [clash, Bool.and_eq_false_iff, decide_eq_false_iff_not] at hcl
      simp only [impl_IsScore.l1, impl_noteEnd.f, hr]
      rw [if_pos (by omega), if_pos (by omega), if_pos (by omega)]
      by_cases hc : y.f0 = x.f0
      · rw [if_pos hc]
        simp only [Option.bind_some]
        rw [w64 (by omega) (by omega), if_neg (by omega), hw]
      · rw [if_neg hc, hw]

def lastOk (pre : List S58) (x : S58) : Bool := match pre.getLast? with | none => true | some y => before y x
theorem impl_round (l pre suf : List S58) (x : S58) (hl : l.length ≤ 1048576) (he : l = pre ++ x :: suf) (k : Nat) :
    impl_IsScore.l0 (k + 1) l l (l.length : Int) (pre.length : Int) = impl_IsScore.j1 k l (pre.length : Int) l (l.length : Int) (pre.length : Int) (!(okN x && lastOk pre x)) x.f0 x.f1 x.f2 := by
  have hlen : l.length = pre.length + suf.length + 1 := by rw [he]; simp; omega
  have hr : rd_T58 l (pre.length : Int) = x := by rw [he]; exact rd58_at pre suf x
  simp only [impl_IsScore.l0, hr]
  rw [if_pos (by omega), if_pos (by omega), if_pos (by omega), impl_note]
  simp only [Option.bind_some]
  cases hx : okN x with
  | false => rw [if_neg (by simpa [okN] using hx)]; simp
  | true =>
    rw [if_pos (by simpa [okN] using hx)]
    rcases List.eq_nil_or_concat pre with rfl | ⟨p, y, rfl⟩
    · simp [lastOk]
    · have hq : wrap64 (((p.concat y).length : Int) - 1) = (p.length : Int) := by
        rw [w64 (by omega) (by omega)]; simp
      have hr2 : rd_T58 l (p.length : Int) = y := by rw [he]; simpa using rd58_at p (x :: suf) y
      rw [if_pos (by simp), hq, if_pos (by omega), if_pos (by simp at hlen; omega), hr2, impl_before]
      simp [lastOk]
theorem impl_outer (l : List S58) (hl : l.length ≤ 30) : ∀ (suf pre : List S58), l = pre ++ suf → Good pre → Ev (fun k => impl_IsScore.l0 k l l (l.length : Int) (pre.length : Int)) (goodTo pre suf) := by
  intro suf
  induction suf with
  | nil =>
    intro pre he hg
    refine Ev.step (f := fun _ => some true) (fun k => ?_) (Ev.now _)
    simp only [impl_IsScore.l0]
    rw [if_neg (by rw [he]; simp)]
  | cons x suf ih =>
    intro pre he hg
    have hlen : l.length = pre.length + suf.length + 1 := by rw [he]; simp; omega
    refine Ev.step (impl_round l pre suf x (by omega) he) ?_
    cases hb : (okN x && lastOk pre x) with
    | false =>
      refine Ev.step (f := fun _ => some false) (fun k => ?_) ?_
      · simp only [impl_IsScore.j1]; rw [if_pos (by simp)]
      · have : goodStep pre x = false := by
          unfold goodStep; unfold lastOk at hb; rw [hb]; rfl
        simp only [goodTo, this, Bool.false_and]; exact Ev.now _
    | true =>
      have ht : l.take ((pre.length : Int)).toNat = pre := by rw [he]; simp
      have hg2 : goodStep pre x = pre.all (fun y => !clash x y) := by
        unfold goodStep; unfold lastOk at hb; rw [hb]; rfl
      refine Ev.step (f := fun k => impl_IsScore.l1 k l l (l.length : Int) (pre.length : Int) pre (pre.length : Int) 0 x.f0 x.f1 x.f2) (fun k => ?_) ?_
      · simp only [impl_IsScore.j1]
        rw [if_neg (by simp), if_pos (by omega), if_pos (by omega), ht]; rfl
      · have hw : wrap64 ((pre.length : Int) + 1) = ((pre ++ [x]).length : Int) := by
          rw [w64 (by omega) (by omega)]; simp
        simp only [Bool.and_eq_true] at hb
        have hall : goodTo pre (x :: suf) = (pre.all (fun y => !clash x y) && goodTo (pre ++ [x]) suf) := by
          simp only [goodTo, hg2]
        rw [hall]
        refine impl_inner l pre x (by omega) _ hg.1 pre [] (by simp) (fun hc => ?_)
        rw [hw]
        exact ih (pre ++ [x]) (by rw [he]; simp) (good_snoc hg (by rw [hg2, hc])).1
theorem impl_score (l : List S58) (hl : l.length ≤ 1048576) : Ev (fun k => impl_IsScore.f k l) (score l) := by
  by_cases h : l.length ≤ 30
  · refine Ev.congr (f := fun k => impl_IsScore.l0 k l l (l.length : Int) (([] : List S58).length : Int)) (fun k => ?_) ?_
    · unfold impl_IsScore.f; rw [if_neg (by omega)]; rfl
    · have := impl_outer l h l [] rfl Good.nil
      simpa [score, h] using this
  · refine Ev.congr (f := fun _ => some false) (fun k => ?_) (by simpa [score, h] using Ev.now false)
    unfold impl_IsScore.f; rw [if_pos (by omega)]

/-! The reference's check. -/
theorem spec_inner (l pre : List S58) (x : S58) (hl : pre.length ≤ 1048576) (b : Bool) (hx : okN x = true) (hok : ∀ y ∈ pre, okN y = true) (hle : ∀ y ∈ pre, y.f1 ≤ x.f1) :
    ∀ (s p : List S58), pre = p ++ s → (s.all (fun y => !clash x y) = true → Ev (fun k => spec_ntGood.l0 k l l (l.length : Int) (wrap64 ((pre.length : Int) + 1))) b) →
      Ev (fun k => spec_ntGood.l1 k l l (l.length : Int) (pre.length : Int) pre (pre.length : Int) (p.length : Int) x.f0 x.f1 x.f2) (s.all (fun y => !clash x y) && b) := by
  intro s
  induction s with
  | nil =>
    intro p hp hnext
    refine Ev.step (f := fun k => spec_ntGood.l0 k l l (l.length : Int) (wrap64 ((pre.length : Int) + 1))) (fun k => ?_) (by simpa using hnext rfl)
    have : pre.length = p.length := by rw [hp]; simp
    simp only [spec_ntGood.l1]
    rw [if_neg (by omega)]
  | cons y s ih =>
    intro p hp hnext
    have hlen : pre.length = p.length + s.length + 1 := by rw [hp]; simp; omega
    have hy : okN y = true := hok y (by rw [hp]; simp)
    have hyx := hle y (by rw [hp]; simp)
    have hb := okN_bd hy
    have hb2 := okN_bd hx
    have hr : rd_T58 pre (p.length : Int) = y := by rw [hp]; exact rd58_at p s y
    have hw : wrap64 ((p.length : Int) + 1) = ((p ++ [y]).length : Int) := by
      rw [w64 (by omega) (by omega)]; simp
    have hm : spec_ntMeet.f x.f0 x.f1 x.f2 y.f0 y.f1 y.f2 = some (clash x y) := by
      unfold spec_ntMeet.f clash
      by_cases hc : x.f0 = y.f0
      · rw [if_pos hc, w64 (x := y.f1 + y.f2) (by omega) (by omega), w64 (x := x.f1 + x.f2) (by omega) (by omega)]
        by_cases hd : x.f1 < y.f1 + y.f2
        · rw [if_pos hd]; simp [hc]; omega
        · rw [if_neg hd]; simp; omega
      · rw [if_neg hc]; simp; omega
    cases hcl : clash x y with
    | true =>
      refine Ev.step (f := fun _ => some false) (fun k => ?_) (by simpa [hcl] using Ev.now false)
      simp only [spec_ntGood.l1, hr]
      rw [if_pos (by omega), if_pos (by omega), if_pos (by omega), hm, hcl]
      rfl
    | false =>
      have hi := ih (p ++ [y]) (by rw [hp]; simp) (fun h => hnext (by simp [hcl] at h ⊢; exact h))
      rw [show ((y :: s).all (fun y => !clash x y) && b) = (s.all (fun y => !clash x y) && b) from by simp [hcl]]
      refine Ev.step (fun k => ?_) hi
      simp only [spec_ntGood.l1, hr]
      rw [if_pos (by omega), if_pos (by omega), if_pos (by omega), hm, hcl, hw]
      rfl
theorem spec_round (l pre suf : List S58) (x : S58) (hl : l.length ≤ 1048576) (he : l = pre ++ x :: suf) (k : Nat) :
    spec_ntGood.l0 (k + 1) l l (l.length : Int) (pre.length : Int) = spec_ntGood.j1 k l (pre.length : Int) l (l.length : Int) (pre.length : Int) (!(okN x && lastOk pre x)) x.f0 x.f1 x.f2 := by
  have hlen : l.length = pre.length + suf.length + 1 := by rw [he]; simp; omega
  have hr : rd_T58 l (pre.length : Int) = x := by rw [he]; exact rd58_at pre suf x
  simp only [spec_ntGood.l0, hr]
  rw [if_pos (by omega), if_pos (by omega), if_pos (by omega), spec_note]
  simp only [Option.bind_some]
  cases hx : okN x with
  | false => rw [if_neg (by simpa [okN] using hx)]; simp
  | true =>
    rw [if_pos (by simpa [okN] using hx)]
    rcases List.eq_nil_or_concat pre with rfl | ⟨p, y, rfl⟩
    · simp [lastOk]
    · have hq : wrap64 (((p.concat y).length : Int) - 1) = (p.length : Int) := by
        rw [w64 (by omega) (by omega)]; simp
      have hr2 : rd_T58 l (p.length : Int) = y := by rw [he]; simpa using rd58_at p (x :: suf) y
      rw [if_pos (by simp), hq, if_pos (by omega), if_pos (by simp at hlen; omega), hr2, spec_before]
      simp [lastOk]
theorem spec_outer (l : List S58) (hl : l.length ≤ 1048576) : ∀ (suf pre : List S58), l = pre ++ suf → Good pre → Ev (fun k => spec_ntGood.l0 k l l (l.length : Int) (pre.length : Int)) (goodTo pre suf && decide (l.length ≤ 30)) := by
  intro suf
  induction suf with
  | nil =>
    intro pre he hg
    refine Ev.step (f := fun _ => some (decide ((l.length : Int) ≤ 30))) (fun k => ?_) ?_
    · simp only [spec_ntGood.l0]
      rw [if_neg (by rw [he]; simp)]
    · have : decide ((l.length : Int) ≤ 30) = decide (l.length ≤ 30) := by simp; omega
      rw [this]; simpa [goodTo] using Ev.now _
  | cons x suf ih =>
    intro pre he hg
    have hlen : l.length = pre.length + suf.length + 1 := by rw [he]; simp; omega
    refine Ev.step (spec_round l pre suf x hl he) ?_
    cases hb : (okN x && lastOk pre x) with
    | false =>
      refine Ev.step (f := fun _ => some false) (fun k => ?_) ?_
      · simp only [spec_ntGood.j1]; rw [if_pos (by simp)]
      · have : goodStep pre x = false := by
          unfold goodStep; unfold lastOk at hb; rw [hb]; rfl
        simp only [goodTo, this, Bool.false_and]; exact Ev.now _
    | true =>
      have ht : l.take ((pre.length : Int)).toNat = pre := by rw [he]; simp
      have hg2 : goodStep pre x = pre.all (fun y => !clash x y) := by
        unfold goodStep; unfold lastOk at hb; rw [hb]; rfl
      refine Ev.step (f := fun k => spec_ntGood.l1 k l l (l.length : Int) (pre.length : Int) pre (pre.length : Int) 0 x.f0 x.f1 x.f2) (fun k => ?_) ?_
      · simp only [spec_ntGood.j1]
        rw [if_neg (by simp), if_pos (by omega), if_pos (by omega), ht]; rfl
      · have hw : wrap64 ((pre.length : Int) + 1) = ((pre ++ [x]).length : Int) := by
          rw [w64 (by omega) (by omega)]; simp
        have hb' := hb
        simp only [Bool.and_eq_true] at hb
        have hle : ∀ y ∈ pre, y.f1 ≤ x.f1 := by
          intro y hy
          have h2 := hb.2
          unfold lastOk at h2
          cases hz : pre.getLast? with
          | none => rw [List.getLast?_eq_none_iff] at hz; subst hz; simp at hy
          | some z =>
            rw [hz] at h2
            have := hg.2 z hz y hy
            have := before_le h2
            omega
        have hall : (goodTo pre (x :: suf) && decide (l.length ≤ 30)) = (pre.all (fun y => !clash x y) && (goodTo (pre ++ [x]) suf && decide (l.length ≤ 30))) := by
          simp only [goodTo, hg2, Bool.and_assoc]
        rw [hall]
        refine spec_inner l pre x (by omega) _ hb.1 hg.1 hle pre [] (by simp) (fun hc => ?_)
        rw [hw]
        exact ih (pre ++ [x]) (by rw [he]; simp) (good_snoc hg (by rw [hg2, hc])).1
theorem spec_score (l : List S58) (hl : l.length ≤ 1048576) : Ev (fun k => spec_ntGood.f k l) (score l) := by
  have := spec_outer l hl l [] rfl Good.nil
  simpa [score, spec_ntGood.f] using this

def okTheme (t : List S58) : Bool := score t && (decide (1 ≤ t.length) && decide (t.length ≤ 8))
def asked (l t : List S58) : Bool := score l && okTheme t
theorem impl_theme (t : List S58) (hl : t.length ≤ 1048576) : Ev (fun k => impl_isTheme.f k t) (okTheme t) := by
  by_cases h1 : 1 ≤ t.length
  · by_cases h2 : t.length ≤ 8
    · refine Ev.congr (f := fun k => (impl_IsScore.f k t).bind fun x => some x) (fun k => ?_) (Ev.bind (impl_score t hl) ?_)
      · unfold impl_isTheme.f; rw [if_pos (by omega), if_pos (by omega)]
      · simpa [okTheme, h1, h2] using Ev.now _
    · refine Ev.congr (f := fun _ => some false) (fun k => ?_) (by simpa [okTheme, h1, h2] using Ev.now _)
      unfold impl_isTheme.f; rw [if_pos (by omega), if_neg (by omega)]
  · refine Ev.congr (f := fun _ => some false) (fun k => ?_) (by simpa [okTheme, h1] using Ev.now _)
    unfold impl_isTheme.f; rw [if_neg (by omega)]
theorem spec_theme (t : List S58) (hl : t.length ≤ 1048576) : Ev (fun k => spec_fdTheme.f k t) (okTheme t) := by
  refine Ev.bind (spec_score t hl) ?_
  cases h : score t with
  | false => simpa [okTheme, h] using Ev.now _
  | true =>
    have : okTheme t = (decide (1 ≤ t.length) && decide (t.length ≤ 8)) := by simp [okTheme, h]
    rw [this]
    refine Ev.congr (f := fun _ => some (decide (1 ≤ t.length) && decide (t.length ≤ 8))) (fun k => ?_) (Ev.now _)
    unfold spec_l1In.f
    by_cases h1 : 1 ≤ t.length
    · rw [if_pos rfl, if_pos (by omega)]; simp [h1]; omega
    · rw [if_pos rfl, if_neg (by omega)]; simp [h1]
theorem spec_asked (l t : List S58) (hl : l.length ≤ 1048576) (ht : t.length ≤ 1048576) : Ev (fun k => spec_fdAsked.f k l t) (asked l t) := by
  refine Ev.bind (spec_score l hl) ?_
  cases h : score l with
  | false => simpa [asked, h] using Ev.now _
  | true =>
    have : asked l t = okTheme t := by simp [asked, h]
    rw [this]
    exact Ev.congr (fun k => by rw [if_pos rfl]) (Ev.bind (spec_theme t ht) (Ev.now _))

/-- All notes of a theme are there, moved. -/
theorem okTheme_len {t : List S58} (h : okTheme t = true) : 1 ≤ t.length ∧ t.length ≤ 8 := by
  simp [okTheme] at h; omega
theorem score_len {t : List S58} (h : score t = true) : t.length ≤ 30 := by
  simp [score] at h; omega
def conv (x : S61) : S58 := ⟨x.f0, x.f1, x.f2⟩
theorem to_notes (l : List S61) (hl : l.length ≤ 1048576) : Ev (fun k => laws_toNoteS.f k l) (l.map conv) := by
  have key : ∀ (suf pre : List S61) (r : List S58), l = pre ++ suf → r = pre.map conv ++ List.replicate suf.length z58 → Ev (fun k => laws_toNoteS.l0 k l r (pre.length : Int)) (l.map conv) := by
    intro suf
    induction suf with
    | nil =>
      intro pre r he hr
      refine Ev.step (f := fun _ => some r) (fun k => ?_) ?_
      · simp only [laws_toNoteS.l0]; rw [if_neg (by rw [he]; simp)]
      · have : l.map conv = r := by rw [hr, he]; simp
        rw [this]; exact Ev.now _
    | cons x suf ih =>
      intro pre r he hr
      have hlen : l.length = pre.length + suf.length + 1 := by rw [he]; simp; omega
      have hx : rd_T61 l (pre.length : Int) = x := by rw [he]; exact rd61_at pre suf x
      have hw : wrap64 ((pre.length : Int) + 1) = ((pre ++ [x]).length : Int) := by
        rw [w64 (by omega) (by omega)]; simp
      have hrl : r.length = pre.length + suf.length + 1 := by rw [hr]; simp; omega
      refine Ev.step (fun k => ?_) (ih (pre ++ [x]) (r.set pre.length (conv x)) (by rw [he]; simp) ?_)
      · simp only [laws_toNoteS.l0, laws_toNote.f, hx]
        rw [if_pos (by omega), if_pos (by omega)]
        simp only [Option.bind_some]
        rw [if_pos (by omega), hw]; rfl
      · rw [hr]; simp [List.replicate_succ]
  refine Ev.congr (f := fun k => laws_toNoteS.l0 k l (List.replicate l.length z58) (([] : List S61).length : Int)) (fun k => ?_) (key l [] _ rfl (by simp))
  unfold laws_toNoteS.f
  rw [if_pos (by omega), if_pos (by simp; omega)]; rfl
theorem eq_notes (l : List S58) (hl : l.length ≤ 1048576) : Ev (fun k => laws_eqNoteS.f k l l) true := by
  have key : ∀ (suf pre : List S58), l = pre ++ suf → Ev (fun k => laws_eqNoteS.l0 k l l (pre.length : Int)) true := by
    intro suf
    induction suf with
    | nil =>
      intro pre he
      refine Ev.step (f := fun _ => some true) (fun k => ?_) (Ev.now _)
      simp only [laws_eqNoteS.l0]; rw [if_neg (by rw [he]; simp)]
    | cons x suf ih =>
      intro pre he
      have hlen : l.length = pre.length + suf.length + 1 := by rw [he]; simp; omega
      have hw : wrap64 ((pre.length : Int) + 1) = ((pre ++ [x]).length : Int) := by
        rw [w64 (by omega) (by omega)]; simp
      refine Ev.step (fun k => ?_) (ih (pre ++ [x]) (by rw [he]; simp))
      simp only [laws_eqNoteS.l0, laws_eqNote.f]
      rw [if_pos (by omega), if_pos (by omega), if_pos (by omega), hw]
      simp
  refine Ev.congr (f := fun k => laws_eqNoteS.l0 k l l (([] : List S58).length : Int)) (fun k => ?_) (key l [] rfl)
  unfold laws_eqNoteS.f; rw [if_pos rfl]; rfl
theorem eq_ints (l : List Int) (hl : l.length ≤ 1048576) : Ev (fun k => laws_eqIntS.f k l l) true := by
  have key : ∀ (suf pre : List Int), l = pre ++ suf → Ev (fun k => laws_eqIntS.l0 k l l (pre.length : Int)) true := by
    intro suf
    induction suf with
    | nil =>
      intro pre he
      refine Ev.step (f := fun _ => some true) (fun k => ?_) (Ev.now _)
      simp only [laws_eqIntS.l0]; rw [if_neg (by rw [he]; simp)]
    | cons x suf ih =>
      intro pre he
      have hlen : l.length = pre.length + suf.length + 1 := by rw [he]; simp; omega
      have hw : wrap64 ((pre.length : Int) + 1) = ((pre ++ [x]).length : Int) := by
        rw [w64 (by omega) (by omega)]; simp
      refine Ev.step (fun k => ?_) (ih (pre ++ [x]) (by rw [he]; simp))
      simp only [laws_eqIntS.l0]
      rw [if_pos (by omega), if_pos (by omega), if_pos (by omega), hw]
      simp
  refine Ev.congr (f := fun k => laws_eqIntS.l0 k l l (([] : List Int).length : Int)) (fun k => ?_) (key l [] rfl)
  unfold laws_eqIntS.f; rw [if_pos rfl]; rfl
theorem mark_notes (l : List S58) (hl : l.length ≤ 1048576) (a : Int) (h0 : 0 ≤ a) (h1 : a ≤ 1099511627776) : ∃ l', Ev (fun k => laws_markNoteS.f k l a) (a + 3 * (l.length : Int), l') := by
  have key : ∀ (d : Nat) (i : Int) (x : List S58), x.length = l.length → 0 ≤ i → i + d = l.length → ∃ l', Ev (fun k => laws_markNoteS.l0 k x (a + 3 * i) i) (a + 3 * (l.length : Int), l') := by
    intro d
    induction d with
    | zero =>
      intro i x hx h2 h3
      refine ⟨x, Ev.step (f := fun _ => some (a + 3 * i, x)) (fun k => ?_) ?_⟩
      · simp only [laws_markNoteS.l0]; rw [if_neg (by omega)]
      · have : a + 3 * i = a + 3 * (l.length : Int) := by omega
        rw [this]; exact Ev.now _
    | succ d ih =>
      intro i x hx h2 h3
      have e1 : wrap64 (a + 3 * i + 1) = a + 3 * i + 1 := w64 (by omega) (by omega)
      have e2 : wrap64 (a + 3 * i + 1 + 1) = a + 3 * i + 1 + 1 := w64 (by omega) (by omega)
      have e3 : wrap64 (a + 3 * i + 1 + 1 + 1) = a + 3 * (i + 1) := by rw [w64 (by omega) (by omega)]; omega
      have e4 : wrap64 (i + 1) = i + 1 := w64 (by omega) (by omega)
      have hs : ∀ y : List S58, y.length = l.length → ∃ l', Ev (fun k => laws_markNoteS.l0 k y (a + 3 * (i + 1)) (i + 1)) (a + 3 * (l.length : Int), l') := fun y hy => ih (i + 1) y hy (by omega) (by omega)
      obtain ⟨l', hl'⟩ := hs ((((x.set i.toNat (⟨a + 3 * i, (rd_T58 x i).f1, (rd_T58 x i).f2⟩ : S58))).set i.toNat (⟨(rd_T58 (x.set i.toNat (⟨a + 3 * i, (rd_T58 x i).f1, (rd_T58 x i).f2⟩ : S58)) i).f0, a + 3 * i + 1, (rd_T58 (x.set i.toNat (⟨a + 3 * i, (rd_T58 x i).f1, (rd_T58 x i).f2⟩ : S58)) i).f2⟩ : S58)).set i.toNat
        (⟨(rd_T58 ((x.set i.toNat (⟨a + 3 * i, (rd_T58 x i).f1, (rd_T58 x i).f2⟩ : S58)).set i.toNat (⟨(rd_T58 (x.set i.toNat (⟨a + 3 * i, (rd_T58 x i).f1, (rd_T58 x i).f2⟩ : S58)) i).f0, a + 3 * i + 1, (rd_T58 (x.set i.toNat (⟨a + 3 * i, (rd_T58 x i).f1, (rd_T58 x i).f2⟩ : S58)) i).f2⟩ : S58)) i).f0, (rd_T58 ((x.set i.toNat (⟨a + 3 * i, (rd_T58 x i).f1, (rd_T58 x i).f2⟩ : S58)).set i.toNat (⟨(rd_T58 (x.set i.toNat (⟨a + 3 * i, (rd_T58 x i).f1, (rd_T58 x i).f2⟩ : S58)) i).f0, a + 3 * i + 1, (rd_T58 (x.set i.toNat (⟨a + 3 * i, (rd_T58 x i).f1, (rd_T58 x i).f2⟩ : S58)) i).f2⟩ : S58)) i).f1, a + 3 * i + 1 + 1⟩ : S58)) (by simp [hx])
      refine ⟨l', Ev.step (fun k => ?_) hl'⟩
      simp only [laws_markNoteS.l0, Option.bind_some]
      rw [if_pos (by omega), if_pos (by omega), e1, e2, e3, e4]
  obtain ⟨l', h⟩ := key l.length 0 l rfl (by omega) (by omega)
  exact ⟨l', by simpa [laws_markNoteS.f] using h⟩
/-- a, a + 1, .. -/
def upFrom : Int → List Int → List Int
  | _, [] => []
  | a, _ :: r => a :: upFrom (a + 1) r
theorem upFrom_len : ∀ (l : List Int) (a : Int), (upFrom a l).length = l.length
  | [], _ => rfl
  | _ :: r, a => by simp [upFrom, upFrom_len r]
theorem mark_ints (l : List Int) (hl : l.length ≤ 1048576) (a : Int) (h0 : 0 ≤ a) (h1 : a ≤ 1099511627776) : Ev (fun k => laws_markIntS.f k l a) (a + (l.length : Int), upFrom a l) := by
  have key : ∀ (suf pre : List Int) (b : Int), b + suf.length ≤ 2199023255552 → 0 ≤ b → pre.length + suf.length ≤ 1048576 → Ev (fun k => laws_markIntS.l0 k (pre ++ suf) b (pre.length : Int)) (b + (suf.length : Int), pre ++ upFrom b suf) := by
    intro suf
    induction suf with
    | nil =>
      intro pre b h2 h3 h4
      refine Ev.step (f := fun _ => some (b, pre)) (fun k => ?_) (by simpa [upFrom] using Ev.now (b, pre))
      simp only [laws_markIntS.l0]; rw [if_neg (by simp)]; simp
    | cons x suf ih =>
      intro pre b h2 h3 h4
      simp only [List.length_cons] at h2 h4
      have hw : wrap64 ((pre.length : Int) + 1) = ((pre ++ [b]).length : Int) := by
        rw [w64 (by omega) (by omega)]; simp
      have hb : wrap64 (b + 1) = b + 1 := w64 (by omega) (by omega)
      have hi := ih (pre ++ [b]) (b + 1) (by omega) (by omega) (by simp; omega)
      have e1 : (b + (((x :: suf).length : Nat) : Int), pre ++ upFrom b (x :: suf)) = (b + 1 + (suf.length : Int), pre ++ [b] ++ upFrom (b + 1) suf) := by
        simp [upFrom]; omega
      rw [e1]
      refine Ev.step (fun k => ?_) hi
      simp only [laws_markIntS.l0]
      rw [if_pos (by simp; omega), if_pos (by omega), hw, hb]
      simp
  have := key l [] a (by omega) h0 (by simpa using hl)
  simpa [laws_markIntS.f] using this
theorem held_ints (l : List Int) (hl : l.length ≤ 1048576) (a : Int) (h0 : 0 ≤ a) (h1 : a ≤ 1099511627776) : Ev (fun k => laws_heldIntS.f k (upFrom a l) a) (a + (l.length : Int)) := by
  have key : ∀ (suf pre : List Int) (b : Int), b + suf.length ≤ 2199023255552 → 0 ≤ b → pre.length + suf.length ≤ 1048576 → Ev (fun k => laws_heldIntS.l0 k (pre ++ upFrom b suf) b (pre.length : Int)) (b + (suf.length : Int)) := by
    intro suf
    induction suf with
    | nil =>
      intro pre b h2 h3 h4
      refine Ev.step (f := fun _ => some b) (fun k => ?_) (by simpa using Ev.now b)
      simp only [laws_heldIntS.l0]; rw [if_neg (by simp [upFrom])]
    | cons x suf ih =>
      intro pre b h2 h3 h4
      simp only [List.length_cons] at h2 h4
      have hw : wrap64 ((pre.length : Int) + 1) = ((pre ++ [b]).length : Int) := by
        rw [w64 (by omega) (by omega)]; simp
      have hb : wrap64 (b + 1) = b + 1 := w64 (by omega) (by omega)
      have hi := ih (pre ++ [b]) (b + 1) (by omega) (by omega) (by simp; omega)
      have e0 : pre ++ upFrom b (x :: suf) = pre ++ [b] ++ upFrom (b + 1) suf := by simp [upFrom]
      have e1 : b + (((x :: suf).length : Nat) : Int) = b + 1 + (suf.length : Int) := by simp; omega
      have er : rd (pre ++ [b] ++ upFrom (b + 1) suf) (pre.length : Int) = b := by rw [List.append_assoc]; exact rd_at pre _ b
      rw [e0, e1]
      refine Ev.step (fun k => ?_) hi
      simp only [laws_heldIntS.l0, er]
      rw [if_pos (by simp; omega), if_pos (by omega), hw, hb]
      simp
  have := key l [] a (by omega) h0 (by simpa using hl)
  simpa [laws_heldIntS.f] using this
end Go.Proofs.Ythhlmjcfhfkmdaa.Rhy
