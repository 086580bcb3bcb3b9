/- Plain laws: what the reference's FindRhythm computes, and that it is the sorted set of what is found. -/
import Derived.Test.YthhlmjcfhfkmdaaRhyP
import Derived.Test.YthhlmjcfhfkmdaaRhySp
import Derived.Lib.SlicesCompact
namespace Go.Proofs.Ythhlmjcfhfkmdaa.Rhy
open Go.RowKit Go.Proofs.Ythhlmjcfhfkmdaa.PFnExactFindRhythm Go.Proofs.YthhlmjcfhfkmdaaW.PrintWords Go.Proofs.YthhlmjcfhfkmdaaW.PrintLast
set_option linter.unusedVariables false
set_option linter.unusedSimpArgs false

def put : List Int → Int → List Int
  | [], n => [n]
  | x :: r, n => if x < n then x :: put r n else if x = n then x :: r else n :: x :: r
theorem put_len : ∀ (l : List Int) (n : Int), (put l n).length ≤ l.length + 1
  | [], n => by simp [put]
  | x :: r, n => by
    unfold put
    have := put_len r n
    split
    · simp; omega
    · split <;> simp
theorem mem_put : ∀ (l : List Int) (n z : Int), z ∈ put l n ↔ z ∈ l ∨ z = n
  | [], n, z => by simp [put]
  | x :: r, n, z => by
    unfold put
    split
    · simp [mem_put r n z, or_assoc]
    · split
      · rename_i h; subst h; simp; intro h; exact .inl h
      · simp; constructor
        · rintro (h | h | h) <;> simp [h]
        · rintro ((h | h) | h) <;> simp [h]
theorem put_lt {l : List Int} (h : l.Pairwise (· < ·)) (n : Int) : (put l n).Pairwise (· < ·) := by
  induction l with
  | nil => simp [put]
  | cons x r ih =>
    rw [List.pairwise_cons] at h
    unfold put
    split
    · rename_i hx
      rw [List.pairwise_cons]
      refine ⟨fun z hz => ?_, ih h.2⟩
      rcases (mem_put r n z).1 hz with hz | rfl
      · exact h.1 z hz
      · exact hx
    · split
      · exact List.pairwise_cons.2 h
      · rename_i h1 h2
        rw [List.pairwise_cons]
        refine ⟨fun z hz => ?_, List.pairwise_cons.2 h⟩
        rcases List.mem_cons.1 hz with rfl | hz
        · omega
        · have := h.1 z hz; omega
theorem fold_lt : ∀ (s acc : List Int), acc.Pairwise (· < ·) → (s.foldl put acc).Pairwise (· < ·)
  | [], acc, h => h
  | x :: r, acc, h => fold_lt r _ (put_lt h x)
theorem fold_mem : ∀ (s acc : List Int) (z : Int), z ∈ s.foldl put acc ↔ z ∈ acc ∨ z ∈ s
  | [], acc, z => by simp
  | x :: r, acc, z => by rw [List.foldl_cons, fold_mem r, mem_put]; simp [or_assoc]
theorem fold_len : ∀ (s acc : List Int), (s.foldl put acc).length ≤ acc.length + s.length
  | [], acc => by simp
  | x :: r, acc => by
    have h1 := fold_len r (put acc x)
    have h2 := put_len acc x
    rw [List.foldl_cons, List.length_cons]; omega
/-- Two increasing lists of the same numbers are one. -/
theorem inc_ext : ∀ {a b : List Int}, a.Pairwise (· < ·) → b.Pairwise (· < ·) → (∀ z, z ∈ a ↔ z ∈ b) → a = b
  | [], [], _, _, _ => rfl
  | [], y :: b, _, _, h => by have := (h y).2 (by simp); simp at this
  | x :: a, [], _, _, h => by have := (h x).1 (by simp); simp at this
  | x :: a, y :: b, ha, hb, h => by
    rw [List.pairwise_cons] at ha hb
    have hxy : x = y := by
      rcases List.mem_cons.1 ((h x).1 (by simp)) with h1 | h1
      · exact h1
      · rcases List.mem_cons.1 ((h y).2 (by simp)) with h2 | h2
        · exact h2.symm
        · have := ha.1 y h2; have := hb.1 x h1; omega
    subst hxy
    congr 1
    refine inc_ext ha.2 hb.2 (fun z => ⟨fun hz => ?_, fun hz => ?_⟩)
    · rcases List.mem_cons.1 ((h z).1 (by simp [hz])) with rfl | h1
      · have := ha.1 z hz; omega
      · exact h1
    · rcases List.mem_cons.1 ((h z).2 (by simp [hz])) with rfl | h1
      · have := hb.1 z hz; omega
      · exact h1
theorem upTo_snoc (l : List Int) (x : Int) (m : Nat) (hm : m ≤ l.length) : Lib.compactUpTo (l ++ [x]).toArray m = Lib.compactUpTo l.toArray m := by
  induction m with
  | zero => rfl
  | succ m ih =>
    rw [Lib.compactUpTo_succ, Lib.compactUpTo_succ, ih (by omega)]
    have e1 : (l ++ [x]).toArray[m]! = l.toArray[m]! := by simp [List.getElem?_append_left (show m < l.length by omega)]
    have e2 : (l ++ [x]).toArray[m - 1]! = l.toArray[m - 1]! := by simp [List.getElem?_append_left (show m - 1 < l.length by omega)]
    rw [e1]
    congr 1
    unfold Lib.keeps
    rw [e1, e2]
theorem compact_snoc (l : List Int) (x : Int) : Lib.compact (l ++ [x]) = Lib.compact l ++ (if l.getLast? = some x then [] else [x]) := by
  unfold Lib.compact
  rw [show (l ++ [x]).length = l.length + 1 by simp, Lib.compactUpTo_succ, upTo_snoc l x l.length (Nat.le_refl _)]
  congr 1
  have e1 : (l ++ [x]).toArray[l.length]! = x := by simp
  rw [e1]
  rcases List.eq_nil_or_concat l with rfl | ⟨p, y, rfl⟩
  · simp [Lib.keeps]
  · rw [List.concat_eq_append]
    have e2 : (p ++ [y] ++ [x]).toArray[(p ++ [y]).length - 1]! = y := by simp
    have e3 : (p ++ [y] ++ [x]).toArray[(p ++ [y]).length]! = x := by simp
    unfold Lib.keeps
    rw [e2, e3]
    by_cases h : y = x
    · subst h; simp
    · have h2 : x ≠ y := fun e => h e.symm
      simp [h, h2]
theorem compact_lt : ∀ (s : List Int), s.Pairwise (· ≤ ·) → (Lib.compact s).Pairwise (· < ·) ∧ (∀ z, z ∈ Lib.compact s ↔ z ∈ s) := by
  intro s
  suffices H : ∀ (n : Nat) (s : List Int), s.length = n → s.Pairwise (· ≤ ·) → (Lib.compact s).Pairwise (· < ·) ∧ (∀ z, z ∈ Lib.compact s ↔ z ∈ s) from H s.length s rfl
  intro n
  induction n with
  | zero =>
    intro s hs _
    obtain rfl := List.length_eq_zero_iff.1 hs
    simp [Lib.compact, Lib.compactUpTo]
  | succ n ih =>
    intro s hs hp
    rcases List.eq_nil_or_concat s with rfl | ⟨p, x, rfl⟩
    · simp at hs
    · rw [List.concat_eq_append] at hs hp ⊢
      rw [List.pairwise_append] at hp
      obtain ⟨h1, h2⟩ := ih p (by simpa using hs) hp.1
      rw [compact_snoc]
      by_cases hl : p.getLast? = some x
      · rw [if_pos hl, List.append_nil]
        refine ⟨h1, fun z => ?_⟩
        rw [h2 z, List.mem_append, List.mem_singleton]
        constructor
        · exact .inl
        · rintro (h | rfl)
          · exact h
          · exact List.mem_of_getLast? hl
      · rw [if_neg hl]
        refine ⟨?_, fun z => by rw [List.mem_append, List.mem_append, h2 z]⟩
        rw [List.pairwise_append]
        refine ⟨h1, by simp, fun a ha b hb => ?_⟩
        rw [List.mem_singleton] at hb
        subst hb
        have ha := (h2 a).1 ha
        have hle := hp.2.2 a ha b (by simp)
        rcases Int.lt_or_eq_of_le hle with h | rfl
        · exact h
        · exfalso
          apply hl
          obtain ⟨q, y, rfl⟩ : ∃ q y, p = q ++ [y] := by
            rcases List.eq_nil_or_concat p with rfl | ⟨q, y, rfl⟩
            · simp at ha
            · exact ⟨q, y, by rw [List.concat_eq_append]⟩
          have hy := hp.2.2 y (by simp) a (by simp)
          have hq := (List.pairwise_append.1 hp.1).2.2
          rcases List.mem_append.1 ha with h | h
          · have := hq a h y (by simp)
            have : y = a := by omega
            simp [this]
          · simp at h; simp [h]
def sorted (s : List Int) : List Int := Lib.compact (s.mergeSort fun x y => decide (x ≤ y))
/-- The sorted set, both ways. -/
theorem sorted_fold (s : List Int) : sorted s = s.foldl put [] := by
  have hs : (s.mergeSort fun x y => decide (x ≤ y)).Pairwise (· ≤ ·) := by
    have := List.pairwise_mergeSort (le := fun x y : Int => decide (x ≤ y)) (fun a b c h1 h2 => by simp at *; omega) (fun a b => by simp; omega) s
    exact this.imp (fun h => by simpa using h)
  obtain ⟨h1, h2⟩ := compact_lt _ hs
  refine inc_ext h1 (fold_lt s [] List.Pairwise.nil) (fun z => ?_)
  show z ∈ Lib.compact _ ↔ _
  rw [h2 z, fold_mem]
  simp [List.mem_mergeSort]
/-! What is found. -/
def at_ (t : List S58) (x : S58) : Int := wrap64 (x.f1 - (rd_T58 t 0).f1)
def hit (l : List S58) (s n : Int) : Bool := l.any (fun z => decide (z.f1 = s) && (z.f2 == n))
def allHit (l t : List S58) (a : Int) : Bool := t.all (fun y => hit l (wrap64 (y.f1 + a)) y.f2)
def gets (l t s : List S58) : List Int := (s.filter fun x => allHit l t (at_ t x)).map (at_ t)
theorem gets_len (l t s : List S58) : (gets l t s).length ≤ s.length := by
  unfold gets; rw [List.length_map]; exact List.length_filter_le _ _
theorem gets_snoc (l t s : List S58) (x : S58) : gets l t (s ++ [x]) = if allHit l t (at_ t x) then gets l t s ++ [at_ t x] else gets l t s := by
  unfold gets
  rw [List.filter_append, List.map_append]
  by_cases h : allHit l t (at_ t x) = true <;> simp [h]
def rhythmRes (l t : List S58) : List Int × Bool := if asked l t then (sorted (gets l t l), true) else ([], false)
theorem spec_put (l : List Int) (hl : l.length ≤ 1048576) (n : Int) : Ev (fun k => spec_l1Put.f k l n) (put l n) := by
  have key : ∀ (suf pre : List Int), l = pre ++ suf → Ev (fun k => spec_l1Put.l0 k l n (pre.length : Int)) (pre ++ put suf n) := by
    intro suf
    induction suf with
    | nil =>
      intro pre he
      have hp : pre = l := by rw [he]; simp
      refine Ev.step (f := fun _ => some (pre ++ [n])) (fun k => ?_) (by simpa [put] using Ev.now (pre ++ [n]))
      simp only [spec_l1Put.l0]
      rw [if_neg (by rw [hp]; omega)]
      simp only [Option.bind_some]
      rw [if_pos (by omega), if_pos (by rw [hp]; omega), if_pos (by simp; omega), if_pos (by simp; omega), if_pos (by simp; omega)]
      simp [hp]
    | cons x suf ih =>
      intro pre he
      have hlen : l.length = pre.length + suf.length + 1 := by rw [he]; simp; omega
      have hr : rd l (pre.length : Int) = x := by rw [he]; exact rd_at pre suf x
      have hw : wrap64 ((pre.length : Int) + 1) = ((pre ++ [x]).length : Int) := by
        rw [w64 (by omega) (by omega)]; simp
      by_cases h1 : x < n
      · have e : pre ++ put (x :: suf) n = pre ++ [x] ++ put suf n := by simp [put, h1]
        rw [e]
        refine Ev.step (fun k => ?_) (ih (pre ++ [x]) (by rw [he]; simp))
        simp only [spec_l1Put.l0, hr]
        rw [if_pos (by omega), if_pos (by omega), if_pos h1, hw]
      · by_cases h2 : x = n
        · have e : pre ++ put (x :: suf) n = l := by rw [he]; simp [put, h2]
          rw [e]
          refine Ev.step (f := fun _ => some l) (fun k => ?_) (Ev.now _)
          simp only [spec_l1Put.l0, hr]
          rw [if_pos (by omega), if_pos (by omega), if_neg h1, if_pos h2]
        · have e : pre ++ put (x :: suf) n = pre ++ [n] ++ (x :: suf) := by simp [put, h1, h2]
          rw [e]
          refine Ev.step (f := fun _ => some (pre ++ [n] ++ (x :: suf))) (fun k => ?_) (Ev.now _)
          simp only [spec_l1Put.l0, hr]
          rw [if_pos (by omega), if_pos (by omega), if_neg h1, if_neg h2]
          simp only [Option.bind_some]
          have t1 : l.take (pre.length : Int).toNat = pre := by rw [he]; simp
          have t2 : l.drop (pre.length : Int).toNat = x :: suf := by rw [he]; simp
          rw [t1, t2, if_pos (by omega), if_pos (by simp; omega), if_pos (by simp; omega), if_pos (by simp; omega)]
          simp
  simpa [spec_l1Put.f] using key l [] rfl
theorem spec_hit (l t : List S58) (hl : l.length ≤ 1048576) (x6 : List Int) (a : Int) (b : Bool) (x20 : List S58) (x21 x22 : Int) (x33 : List S58) (x34 x35 p s n : Int) (R : List Int × Bool) :
    ∀ (suf pre : List S58) (fd : Bool), l = pre ++ suf → Ev (fun k => spec_FindRhythm.l1 k l t x6 a (b && (fd || hit suf (wrap64 (s + a)) n)) x20 x21 x22 x33 x34 (wrap64 (x35 + 1))) R →
      Ev (fun k => spec_FindRhythm.l2 k l t x6 a b fd x20 x21 x22 x33 x34 x35 l (l.length : Int) (pre.length : Int) p s n) R := by
  intro suf
  induction suf with
  | nil =>
    intro pre fd he h
    refine Ev.step (fun k => ?_) h
    simp only [spec_FindRhythm.l2]
    rw [if_neg (by rw [he]; simp)]
    cases b <;> simp [hit]
  | cons x suf ih =>
    intro pre fd he h
    have hlen : l.length = pre.length + suf.length + 1 := by rw [he]; simp; omega
    have hr : rd_T58 l (pre.length : Int) = x := by rw [he]; exact rd58_at pre suf x
    have hw : wrap64 ((pre.length : Int) + 1) = ((pre ++ [x]).length : Int) := by
      rw [w64 (by omega) (by omega)]; simp
    have hi := ih (pre ++ [x]) (fd || (decide (x.f1 = wrap64 (s + a)) && (x.f2 == n))) (by rw [he]; simp) (by
      rw [show (fd || (decide (x.f1 = wrap64 (s + a)) && (x.f2 == n)) || hit suf (wrap64 (s + a)) n) = (fd || hit (x :: suf) (wrap64 (s + a)) n) by simp [hit, Bool.or_assoc]]
      exact h)
    refine Ev.step (fun k => ?_) hi
    simp only [spec_FindRhythm.l2, hr]
    rw [if_pos (by omega), if_pos (by omega), if_pos (by omega), hw]
    cases fd with
    | true => rw [if_pos rfl]; simp
    | false =>
      rw [if_neg (by simp)]
      by_cases h1 : x.f1 = wrap64 (s + a)
      · rw [if_pos h1]; simp [h1]
      · rw [if_neg h1]; simp [h1]
theorem spec_all (l t : List S58) (hl : l.length ≤ 1048576) (ht : t.length ≤ 1048576) (x6 : List Int) (hx6 : x6.length ≤ 1048576) (a : Int) (x20 : List S58) (x21 x22 : Int) (R : List Int × Bool) :
    ∀ (suf pre : List S58) (b : Bool), t = pre ++ suf → Ev (fun k => spec_FindRhythm.l0 k l t (if b && allHit l suf a then put x6 a else x6) x20 x21 (wrap64 (x22 + 1))) R →
      Ev (fun k => spec_FindRhythm.l1 k l t x6 a b x20 x21 x22 t (t.length : Int) (pre.length : Int)) R := by
  intro suf
  induction suf with
  | nil =>
    intro pre b he h
    cases b with
    | true =>
      refine Ev.step (f := fun k => (spec_l1Put.f k x6 a).bind fun y => spec_FindRhythm.l0 k l t y x20 x21 (wrap64 (x22 + 1))) (fun k => ?_) (Ev.bind (spec_put x6 hx6 a) (by simpa [allHit] using h))
      simp only [spec_FindRhythm.l1]
      rw [if_neg (by rw [he]; simp), if_pos trivial]
    | false =>
      refine Ev.step (fun k => ?_) (by simpa using h)
      simp only [spec_FindRhythm.l1]
      rw [if_neg (by rw [he]; simp), if_neg (by simp)]
  | cons x suf ih =>
    intro pre b he h
    have hlen : t.length = pre.length + suf.length + 1 := by rw [he]; simp; omega
    have hr : rd_T58 t (pre.length : Int) = x := by rw [he]; exact rd58_at pre suf x
    have hw : wrap64 ((pre.length : Int) + 1) = ((pre ++ [x]).length : Int) := by
      rw [w64 (by omega) (by omega)]; simp
    have hi := ih (pre ++ [x]) (b && hit l (wrap64 (x.f1 + a)) x.f2) (by rw [he]; simp) (by
      rw [show (b && hit l (wrap64 (x.f1 + a)) x.f2 && allHit l suf a) = (b && allHit l (x :: suf) a) by simp [allHit, Bool.and_assoc]]
      exact h)
    rw [← hw] at hi
    have hj := spec_hit l t hl x6 a b x20 x21 x22 t (t.length : Int) (pre.length : Int) x.f0 x.f1 x.f2 R l [] false rfl (by simpa using hi)
    refine Ev.step (fun k => ?_) hj
    simp only [spec_FindRhythm.l1, hr]
    rw [if_pos (by omega), if_pos (by omega), if_pos (by omega)]
    rfl
theorem spec_outer_r (l t : List S58) (hl : l.length ≤ 1048576) (ht : t.length ≤ 1048576) (h1 : 1 ≤ t.length) :
    ∀ (suf pre : List S58), l = pre ++ suf → Ev (fun k => spec_FindRhythm.l0 k l t ((gets l t pre).foldl put []) l (l.length : Int) (pre.length : Int)) ((gets l t l).foldl put [], true) := by
  intro suf
  induction suf with
  | nil =>
    intro pre he
    have hp : pre = l := by rw [he]; simp
    rw [hp]
    refine Ev.step (f := fun _ => some ((gets l t l).foldl put [], true)) (fun k => ?_) (Ev.now _)
    simp only [spec_FindRhythm.l0]
    rw [if_neg (by omega)]
  | cons x suf ih =>
    intro pre he
    have hlen : l.length = pre.length + suf.length + 1 := by rw [he]; simp; omega
    have hr : rd_T58 l (pre.length : Int) = x := by rw [he]; exact rd58_at pre suf x
    have hw : wrap64 ((pre.length : Int) + 1) = ((pre ++ [x]).length : Int) := by
      rw [w64 (by omega) (by omega)]; simp
    have hi := ih (pre ++ [x]) (by rw [he]; simp)
    have h6 := fold_len (gets l t pre) []
    have h7 := gets_len l t pre
    have h8 : ((gets l t pre).foldl put []).length ≤ 1048576 := by simp at h6; omega
    have e : (gets l t (pre ++ [x])).foldl put [] = if true && allHit l t (at_ t x) then put ((gets l t pre).foldl put []) (at_ t x) else (gets l t pre).foldl put [] := by
      rw [gets_snoc]
      by_cases hb : allHit l t (at_ t x) = true <;> simp [hb]
    rw [e, ← hw] at hi
    have hj := spec_all l t hl ht _ h8 (at_ t x) l (l.length : Int) (pre.length : Int) _ t [] true rfl hi
    refine Ev.step (fun k => ?_) hj
    simp only [spec_FindRhythm.l0, hr]
    rw [if_pos (by omega), if_pos (by omega), if_pos (by omega), if_pos (by omega)]
    rfl
theorem spec_rhythm (l t : List S58) (hl : l.length ≤ 1048576) (ht : t.length ≤ 1048576) : Ev (fun k => spec_FindRhythm.f k l t) (rhythmRes l t) := by
  refine Ev.bind (spec_asked l t hl ht) ?_
  unfold rhythmRes
  cases h : asked l t with
  | false => exact Ev.congr (f := fun _ => some ([], false)) (fun k => by rw [if_neg (by simp)]) (Ev.now _)
  | true =>
    refine Ev.congr (fun k => by rw [if_pos rfl]) ?_
    have h2 : okTheme t = true := by simp [asked] at h; exact h.2
    rw [if_pos rfl, sorted_fold]
    exact spec_outer_r l t hl ht (okTheme_len h2).1 l [] rfl
end Go.Proofs.Ythhlmjcfhfkmdaa.Rhy
