/- Plain laws: rows of rows, marked and held; what the law of FindTheme comes to. -/
import Derived.Test.YtgajkcooefifdaaPureB
import Derived.Test.YtgajkcooefifdaaMark
import Derived.Test.YtgajkcooefifdaaPFnExactFindThemex2
import Derived.Test.YtgajkcooefifdaaPFnExactFindThemex8
namespace Go.Proofs.Ytgajkcooefifdaa.PureA
open Go.RowKit Go.Proofs.Ytgajkcooefifdaa.PFnExactFindTheme Go.Proofs.YtgajkcooefifdaaW.PrintWords Go.Proofs.YtgajkcooefifdaaW.PrintLast
set_option linter.unusedVariables false
set_option linter.unusedSimpArgs false

theorem mark_rows (l : List (List Int)) (hl : l.length ≤ 1024) (hi : ∀ r ∈ l, r.length ≤ 1024) : Ev (fun k => laws_markIntSS.f k l 1) (markEnd 1 l, markAll 1 l) := by
  have key : ∀ (suf pre : List (List Int)) (a : Int), a + 1024 * suf.length ≤ 1099511627776 → 0 ≤ a → pre.length + suf.length ≤ 1024 → (∀ r ∈ suf, r.length ≤ 1024) → Ev (fun k => laws_markIntSS.l0 k (pre ++ suf) a (pre.length : Int)) (markEnd a suf, pre ++ markAll a suf) := by
    intro suf
    induction suf with
    | nil =>
      intro pre a h1 h2 h3 h4
      refine Ev.step (f := fun _ => some (a, pre)) (fun k => ?_) (by simpa [markEnd, markAll] using Ev.now (a, pre))
      simp only [laws_markIntSS.l0]; rw [if_neg (by simp)]; simp
    | cons x suf ih =>
      intro pre a h1 h2 h3 h4
      simp only [List.length_cons] at h1 h3
      have hx := h4 x (by simp)
      have hw : wrap64 ((pre.length : Int) + 1) = ((pre ++ [upFrom a x]).length : Int) := by
        rw [w64 (by omega) (by omega)]; simp
      have hn := ih (pre ++ [upFrom a x]) (a + x.length) (by omega) (by omega) (by simp; omega) (fun r hr => h4 r (by simp [hr]))
      have e1 : (markEnd a (x :: suf), pre ++ markAll a (x :: suf)) = (markEnd (a + x.length) suf, pre ++ [upFrom a x] ++ markAll (a + x.length) suf) := by simp [markEnd, markAll]
      rw [e1]
      refine Ev.step (f := fun k => (laws_markIntS.f k x a).bind fun t => laws_markIntSS.l0 k ((pre ++ x :: suf).set pre.length t.2) t.1 ((pre ++ [upFrom a x]).length : Int)) (fun k => ?_) (Ev.bind (mark_ints x (by omega) a h2 (by omega)) ?_)
      · simp only [laws_markIntSS.l0, rdL3_at]
        rw [if_pos (by simp; omega), if_pos (by omega), hw]; rfl
      · have : (pre ++ x :: suf).set pre.length (upFrom a x) = pre ++ [upFrom a x] ++ suf := by simp
        rw [this]; exact hn
  have := key l [] 1 (by omega) (by omega) (by simpa using hl) hi
  simpa [laws_markIntSS.f] using this
theorem held_rows (l : List (List Int)) (hl : l.length ≤ 1024) (hi : ∀ r ∈ l, r.length ≤ 1024) : Ev (fun k => laws_heldIntSS.f k (markAll 1 l) 1) (markEnd 1 l) := by
  have key : ∀ (suf : List (List Int)) (pre : List (List Int)) (a : Int), a + 1024 * suf.length ≤ 1099511627776 → 0 ≤ a → pre.length + suf.length ≤ 1024 → (∀ r ∈ suf, r.length ≤ 1024) → Ev (fun k => laws_heldIntSS.l0 k (pre ++ markAll a suf) a (pre.length : Int)) (markEnd a suf) := by
    intro suf
    induction suf with
    | nil =>
      intro pre a h1 h2 h3 h4
      refine Ev.step (f := fun _ => some a) (fun k => ?_) (by simpa [markEnd] using Ev.now a)
      simp only [laws_heldIntSS.l0]; rw [if_neg (by simp [markAll])]
    | cons x suf ih =>
      intro pre a h1 h2 h3 h4
      simp only [List.length_cons] at h1 h3
      have hx := h4 x (by simp)
      have hw : wrap64 ((pre.length : Int) + 1) = ((pre ++ [upFrom a x]).length : Int) := by
        rw [w64 (by omega) (by omega)]; simp
      have hn := ih (pre ++ [upFrom a x]) (a + x.length) (by omega) (by omega) (by simp; omega) (fun r hr => h4 r (by simp [hr]))
      have e0 : pre ++ markAll a (x :: suf) = pre ++ [upFrom a x] ++ markAll (a + x.length) suf := by simp [markAll]
      have er : rd_L3 (pre ++ [upFrom a x] ++ markAll (a + x.length) suf) (pre.length : Int) = upFrom a x := by rw [List.append_assoc]; exact rdL3_at pre _ _
      rw [e0]
      refine Ev.step (f := fun k => (laws_heldIntS.f k (upFrom a x) a).bind fun t => if t < 0 then some (-1) else laws_heldIntSS.l0 k (pre ++ [upFrom a x] ++ markAll (a + x.length) suf) t ((pre ++ [upFrom a x]).length : Int)) (fun k => ?_) (Ev.bind (held_ints x (by omega) a h2 (by omega)) ?_)
      · simp only [laws_heldIntSS.l0, er]
        rw [if_pos (by simp; omega), if_pos (by omega), hw]
      · exact Ev.congr (fun k => by rw [if_neg (by omega)]) hn
  have := key l [] 1 (by omega) (by omega) (by simpa using hl) hi
  simpa [laws_heldIntSS.f] using this

/-- From some number of rounds on, both. -/
theorem both {p q : Nat → Prop} (h : ∃ K, ∀ k, K ≤ k → p k) (h' : ∃ K, ∀ k, K ≤ k → q k) : ∃ K, ∀ k, K ≤ k → p k ∧ q k := by
  obtain ⟨a, h⟩ := h
  obtain ⟨b, h'⟩ := h'
  exact ⟨max a b, fun k hk => ⟨h k (by omega), h' k (by omega)⟩⟩
/-- All that the law's walk wants to know. -/
theorem law_facts (l t : List S65) (hl : l.length ≤ 1048576) (ht : t.length ≤ 1048576) : ∃ (k : Nat) (L T L' T' : List S62) (r g : List (List Int)) (b : Bool) (k0 k1 m : Int),
    laws_toNoteS.f k l = some L ∧ laws_toNoteS.f k t = some T ∧ spec_FindTheme.f k L T = some (r, b) ∧ impl_FindTheme.f k L T = some (r, b) ∧ laws_eqIntSS.f k r r = some true ∧ laws_eqNoteS.f k L L = some true ∧ laws_eqNoteS.f k T T = some true ∧
    laws_markNoteS.f k L 1 = some (k0, L') ∧ laws_markNoteS.f k T k0 = some (k1, T') ∧ 0 ≤ k1 ∧ laws_markIntSS.f k r 1 = some (m, g) ∧ laws_heldIntSS.f k g 1 = some m ∧ 0 ≤ m := by
  have hL : (l.map conv).length ≤ 1048576 := by simpa using hl
  have hT : (t.map conv).length ≤ 1048576 := by simpa using ht
  have f1 := to_notes l hl
  have f2 := to_notes t ht
  have f3 := spec_find _ _ hL hT
  have f4 := impl_find _ _ hL hT
  obtain ⟨L', f5⟩ := mark_notes (l.map conv) hL 1 (by omega) (by omega)
  obtain ⟨T', f6⟩ := mark_notes (t.map conv) hT (1 + 3 * ((l.map conv).length : Int)) (by omega) (by omega)
  have f7 := eq_notes _ hL
  have f8 := eq_notes _ hT
  generalize hr : themeRes (l.map conv) (t.map conv) = res at f3 f4
  obtain ⟨r, b⟩ := res
  have hrl : r.length ≤ 30 ∧ ∀ x ∈ r, x.length ≤ 2 := by
    unfold themeRes at hr
    split at hr
    · rename_i ha
      simp only [Prod.mk.injEq] at hr
      obtain ⟨rfl, _⟩ := hr
      have h1 := found_len (l.map conv) (t.map conv) (l.map conv)
      have h2 : score (l.map conv) = true := by simp [asked] at ha; exact ha.1
      have h3 := score_len h2
      exact ⟨by omega, fun x hx => by rw [found_two _ _ _ x hx]; exact Nat.le_refl _⟩
    · simp only [Prod.mk.injEq] at hr
      obtain ⟨rfl, _⟩ := hr
      simp
  have f9 := eq_rows r (by omega) (fun x hx => by have := hrl.2 x hx; omega)
  have f10 := mark_rows r (by omega) (fun x hx => by have := hrl.2 x hx; omega)
  have f11 := held_rows r (by omega) (fun x hx => by have := hrl.2 x hx; omega)
  have hm := (markEnd_le 2 r 1 hrl.2).1
  obtain ⟨K, h⟩ := both f1 (both f2 (both f3 (both f4 (both f9 (both f7 (both f8 (both f5 (both f6 (both f10 f11)))))))))
  obtain ⟨g1, g2, g3, g4, g5, g6, g7, g8, g9, g10, g11⟩ := h K (Nat.le_refl _)
  exact ⟨K, _, _, _, _, _, _, _, _, _, _, g1, g2, g3, g4, g5, g6, g7, g8, g9, by omega, g10, g11, by omega⟩
end Go.Proofs.Ytgajkcooefifdaa.PureA
