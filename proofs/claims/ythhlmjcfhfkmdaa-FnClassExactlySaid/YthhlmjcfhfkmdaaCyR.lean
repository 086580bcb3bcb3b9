/- A region that draws its order: operations that read come first in the order of the text, moves stand anywhere, a forced tail ends it. -/
import Derived.Test.YthhlmjcfhfkmdaaCyD
import Derived.StillTailTactics
import Derived.BigQuiet
namespace Go.Proofs.Ythhlmjcfhfkmdaa.Cx
open Go.RowKit Go.Proofs.YthhlmjcfhfkmdaaW.PrintWords Go.Proofs.YthhlmjcfhfkmdaaW.PrintLast Go.Proofs.YthhlmjcfhfkmdaaW.PrintMore
set_option linter.unusedVariables false
set_option linter.unusedSimpArgs false
section
variable {P : Program} {ops : Array Oper} {md : Region.Mode} {w : World}
def calmUpon (o : Oper) (a : Act) (w : World) (next : Act → Prop) : Result Next → Prop
  | .ok (.value v) w' => w' = w ∧ next (a.put o.dst v)
  | _ => False
def calm (P : Program) (o : Oper) (a : Act) (w : World) (next : Act → Prop) : Prop := calmUpon o a w next ((execOp a.eval o).run P w)
def calmRec (P : Program) (ops : Array Oper) (w : World) (Q : Act → Prop) : List Oper → Act → Prop
  | [], a => Q a
  | o :: rest, a => if Region.wanted o (yielded ops a.tmps) then calm P o a w (calmRec P ops w Q rest) else calmRec P ops w Q rest (a.put o.dst undef)
/-- The same behind a lid: no tactic looks into it. -/
structure wpCalm (P : Program) (ops : Array Oper) (w : World) (Q : Act → Prop) (l : List Oper) (a : Act) : Prop where
  open_ : calmRec P ops w Q l a
theorem wpCalm_nil {Q : Act → Prop} {a : Act} (h : Q a) : wpCalm P ops w Q [] a := ⟨h⟩
theorem wpCalm_step {Q : Act → Prop} {a : Act} {o : Oper} {rest : List Oper}
    (h : ∀ K : Act → Prop, (∀ a, wpCalm P ops w Q rest a → K a) → if Region.wanted o (yielded ops a.tmps) then calm P o a w K else K (a.put o.dst undef)) : wpCalm P ops w Q (o :: rest) a :=
  ⟨h _ (fun _ h => h.open_)⟩
theorem calm_yields {Q : Act → Prop} {a : Act} {o : Oper} {rest : List Oper} (h : wpCalm P ops w Q (o :: rest) a) : ∃ v, YieldsIf P ops (fun w' => w' = w) o v a ∧ wpCalm P ops w Q rest (a.put o.dst v) := by
  have h := h.open_
  unfold calmRec at h
  by_cases hw : Region.wanted o (yielded ops a.tmps) = true
  · rw [if_pos hw] at h
    unfold calm at h
    generalize hr : (execOp a.eval o).run P w = r at h
    cases r with
    | ok n w' =>
      cases n <;> simp only [calmUpon] at h
      obtain ⟨rfl, h2⟩ := h
      exact ⟨_, .inl ⟨hw, fun w1 h1 => by rw [h1]; exact hr⟩, ⟨h2⟩⟩
    | halt x w' => simp only [calmUpon] at h
  · rw [if_neg hw] at h
    exact ⟨undef, .inr ⟨by simpa using hw, rfl⟩, ⟨h⟩⟩
def isMove (ops : Array Oper) (k : Nat) : Bool := match ops[k]? with
  | some o => match o.op with
    | .move _ => true
    | .assign _ => true
    | _ => false
  | none => false
theorem move_yields {o : Oper} {a : Act} {v : Value} {S : World → Prop} {w1 : World} (hS : S w1) (hk : (∃ x, o.op = .move x) ∨ ∃ x, o.op = .assign x) (h : YieldsIf P ops S o v a) : Yields P ops o v a := by
  rcases h with ⟨hw, h⟩ | h
  · refine .inl ⟨hw, fun w' => ?_⟩
    have h1 := h w1 hS
    rcases hk with ⟨x, hx⟩ | ⟨x, hx⟩
    · rw [BigFrame.run_move x hx] at h1 ⊢
      injection h1 with h1 _
      rw [h1]
    · rw [BigFrame.run_assign x hx] at h1 ⊢
      injection h1 with h1 _
      rw [h1]
  · exact .inr h
def headB (md : Region.Mode) (ops : Array Oper) (ds : List Nat) (g : Nat) : Nat → Nat → Array Bool → Bool
  | 0, k, listed => Region.seqB md ops g k listed
  | f + 1, k, listed => (Region.ready md ops listed).contains k && Region.free md ops listed k && ((Region.closedB md ops listed && Region.lastB md ops listed ds k) || isMove ops k) && headB md ops ds g f (k + 1) (listed.setIfInBounds k true)
def calmB (md : Region.Mode) (ops : Array Oper) (n : Nat) : Bool :=
  Region.noSelect ops && decide (n ≤ ops.size) && headB md ops (List.range' n (ops.size - n)) (ops.size - n) n 0 (Array.replicate ops.size false)
theorem tail_seq {Q : Exit → Act → World → Prop} {S : World → Prop} {ds : List Nat} : ∀ (l : List Oper) (k : Nat) (listed : Array Bool) (a : Act) (w : World), (∀ j, l[j]? = ops[k + j]?) →
    Region.seqB md ops l.length k listed = true → (∀ j, k ≤ j → j < k + l.length → j ∈ ds) → wpList P ops Q l a w → wpAnyLast P md ops Q S ds l.length listed a w
  | [], _, _, _, _, _, hB, _, h => ⟨by simpa [Region.seqB] using hB, h⟩
  | o :: l, k, listed, a, w, hl, hB, hds, h => by
    have h0 : ops[k]? = some o := by simpa using (hl 0).symm
    simp only [List.length_cons, Region.seqB, Bool.and_eq_true, decide_eq_true_eq] at hB
    refine ⟨fun h1 => (by rw [hB.1] at h1; cases h1), fun i hi => ?_⟩
    rw [hB.1] at hi
    have hik : i = k := by simpa using hi
    subst hik
    have hw : wpOp P ops Q i (wpList P ops Q l) a w := by unfold wpOp; simp only [h0]; exact h
    exact wpOp_mono (fun a' w' h' => ⟨fun hn => absurd (hds i (Nat.le_refl _) (by simp)) hn, tail_seq l (i + 1) _ a' w' (fun j => by have := hl (j + 1); simpa [Nat.add_assoc, Nat.add_comm 1 j] using this) hB.2 (fun j h1 h2 => hds j (by omega) (by simp; omega)) h'⟩) hw
theorem calm_head {Q : Exit → Act → World → Prop} {ds : List Nat} {g : Nat} {Lq : Act → Prop} (hsel : Region.noSelect ops = true) (hQ : ∀ c a d v w, Q (.panic c) (Act.put a d v) w → Q (.panic c) a w)
    (hL : ∀ k listed a, Region.seqB md ops g k listed = true → Lq a → k + g = ops.size → wpAnyLast P md ops Q (fun w' => w' = w) ds g listed a w) :
    ∀ (l : List Oper) (k : Nat) (listed : Array Bool) (a : Act), (∀ j, j < l.length → l[j]? = ops[k + j]?) → k + l.length + g = ops.size →
    headB md ops ds g l.length k listed = true → wpCalm P ops w Lq l a → wpAnyLast P md ops Q (fun w' => w' = w) ds (l.length + g) listed a w
  | [], k, listed, a, _, hk, hB, h => by
    rw [List.length_nil, Nat.zero_add]
    exact hL k listed a (by simpa [headB] using hB) h.open_ (by simpa using hk)
  | o :: l, k, listed, a, hl, hk, hB, h => by
    have h0 : ops[k]? = some o := by simpa using (hl 0 (by simp)).symm
    simp only [List.length_cons, headB, Bool.and_eq_true, Bool.or_eq_true] at hB
    obtain ⟨⟨⟨hr, hf⟩, hc⟩, hB'⟩ := hB
    obtain ⟨v, hy, hK⟩ := calm_yields h
    have hnext := calm_head hsel hQ hL l (k + 1) (listed.setIfInBounds k true) (a.put o.dst v) (fun j hj => by have := hl (j + 1) (by simp; omega); simpa [Nat.add_assoc, Nat.add_comm 1 j] using this) (by simp only [List.length_cons] at hk; omega) hB' hK
    rw [List.length_cons, show l.length + 1 + g = (l.length + g) + 1 by omega]
    rcases hc with ⟨hc1, hc2⟩ | hm
    · exact wpAnyLast_take h0 hsel hf hr hc1 hc2 (fun c a w => hQ c a o.dst v w) hy rfl hnext
    · refine wpAnyLast_any h0 (Region.noSelect_spec hsel) (fun c a w => hQ c a o.dst v w) _ listed a w (Region.free_spec h0 hf) (by simpa using hr) (move_yields (S := fun w' => w' = w) (w1 := w) rfl ?_ hy) hnext
      unfold isMove at hm
      rw [h0] at hm
      simp only at hm
      split at hm
      · rename_i x hx; exact .inl ⟨x, hx⟩
      · rename_i x hx; exact .inr ⟨x, hx⟩
      · cases hm
theorem wp_region_calm {id : Nat} {Q : Exit → Act → World → Prop} {a : Act} {w : World} {l : List Oper} (n : Nat) (hm : P.follows .mixedOrders = true) (hB : calmB .any l.toArray n = true)
    (hQ : ∀ c a d v w, Q (.panic c) (Act.put a d v) w → Q (.panic c) a w)
    (h : wpCalm P l.toArray w.drew (fun a' => wpList P l.toArray Q (l.drop n) a' w.drew) (l.take n) a) : (Code.region id l.toArray true).wp P Q a w := by
  simp only [calmB, Bool.and_eq_true, decide_eq_true_eq] at hB
  obtain ⟨⟨hsel, hn⟩, hh⟩ := hB
  have hn' : n ≤ l.length := by simpa using hn
  have htl : (l.take n).length = n := by simp; omega
  have hdl : (l.drop n).length = l.toArray.size - n := by simp
  refine wp_region_last (S := fun w' => w' = w.drew) (ds := List.range' n (l.toArray.size - n)) hm ?_
  have H := calm_head (md := .any) (ds := List.range' n (l.toArray.size - n)) (g := l.toArray.size - n) (w := w.drew) hsel hQ (fun k listed a' hs hq hk => by
    have hkn : k = n := by omega
    subst hkn
    have := tail_seq (md := .any) (S := fun w' => w' = w.drew) (ds := List.range' k (l.toArray.size - k)) (l.drop k) k listed a' w.drew (fun j => by simp [List.getElem?_drop]) (by rw [hdl]; exact hs) (fun j h1 h2 => by simp only [List.mem_range'_1]; rw [hdl] at h2; omega) hq
    rwa [hdl] at this) (l.take n) 0 (Array.replicate l.toArray.size false) a (fun j hj => by
      have hj' : j < n := by rw [htl] at hj; exact hj
      simp [hj']) (by rw [htl]; omega) (by rw [htl]; exact hh) h
  rw [htl, show n + (l.toArray.size - n) = l.toArray.size by omega] at H
  exact H
/-- Behind a forced beginning the region goes on at K. -/
def midQ (Q : Exit → Act → World → Prop) (K : Act → World → Prop) : Exit → Act → World → Prop
  | .normal, a, w => K a w
  | e, a, w => Q e a w
theorem midQ_imp {Q : Exit → Act → World → Prop} {K : Act → World → Prop} : ∀ (e : Exit) (a : Act) (w : World), e ≠ .normal → midQ Q K e a w → Q e a w := fun e a w he h => by
  cases e <;> first | exact absurd rfl he | exact h
theorem oper_imp {Q1 Q2 : Exit → Act → World → Prop} {o : Oper} {a : Act} {w : World} {K K' : Act → World → Prop} (h : ∀ a w, K a w → K' a w) (hQ : ∀ (e : Exit) (a : Act) (w : World), e ≠ .normal → Q1 e a w → Q2 e a w)
    (hh : o.wp P a w K Q1) : o.wp P a w K' Q2 := by
  unfold Oper.wp at *
  generalize (execOp a.eval o).run P w = r at *
  cases r with
  | ok n w' =>
    cases n <;> simp only [Oper.upon] at hh ⊢
    case enter f args =>
      refine hh.mono fun e w'' h' => ?_
      cases e with
      | returned v => exact h _ _ h'
      | panicked c => exact hQ _ _ _ (by simp) h'
      | outgrown => obtain ⟨a', w', h'⟩ := h'; exact ⟨a', w', hQ _ _ _ (by simp) h'⟩
    case row row args => exact Rows.mono hh (fun _ _ h' => h _ _ h')
    all_goals first | exact h _ _ hh | exact hh
  | halt x w' =>
    cases x <;> simp only [Oper.upon] at hh ⊢ <;> first | exact hQ _ _ _ (by simp) hh | exact hh
theorem wpOp_imp {Q1 Q2 : Exit → Act → World → Prop} {i : Nat} {a : Act} {w : World} {K K' : Act → World → Prop} (h : ∀ a w, K a w → K' a w) (hQ : ∀ (e : Exit) (a : Act) (w : World), e ≠ .normal → Q1 e a w → Q2 e a w)
    (hh : wpOp P ops Q1 i K a w) : wpOp P ops Q2 i K' a w := by
  unfold wpOp at *
  split
  · rename_i ho; simp only [ho] at hh; exact h _ _ hh
  · rename_i o ho
    simp only [ho] at hh
    split
    · rename_i hw
      simp only [hw, if_true] at hh
      rcases hh with hh | ⟨h1, a', w', h2⟩
      · exact .inl (oper_imp h hQ hh)
      · exact .inr ⟨h1, a', w', hQ _ _ _ (by simp) h2⟩
    · rename_i hw; simp only [hw] at hh; exact h _ _ hh
def listTo : Nat → Nat → Array Bool → Array Bool
  | 0, _, listed => listed
  | f + 1, k, listed => listTo f (k + 1) (listed.setIfInBounds k true)
def forcedB (md : Region.Mode) (ops : Array Oper) : Nat → Nat → Array Bool → Bool
  | 0, _, _ => true
  | f + 1, k, listed => decide (Region.ready md ops listed = [k]) && forcedB md ops f (k + 1) (listed.setIfInBounds k true)
theorem seq_then {Q : Exit → Act → World → Prop} {Kc : Act → World → Prop} {g : Nat} : ∀ (l : List Oper) (k : Nat) (listed : Array Bool) (a : Act) (w : World), (∀ j, j < l.length → l[j]? = ops[k + j]?) →
    forcedB md ops l.length k listed = true → (∀ a w, Kc a w → wpAny P md ops Q g (listTo l.length k listed) a w) → wpList P ops (midQ Q Kc) l a w → wpAny P md ops Q (l.length + g) listed a w
  | [], k, listed, a, w, _, _, hK, h => by
    rw [List.length_nil, Nat.zero_add]
    exact hK a w h
  | o :: l, k, listed, a, w, hl, hB, hK, h => by
    have h0 : ops[k]? = some o := by simpa using (hl 0 (by simp)).symm
    simp only [List.length_cons, forcedB, Bool.and_eq_true, decide_eq_true_eq] at hB
    rw [List.length_cons, show l.length + 1 + g = (l.length + g) + 1 by omega]
    refine ⟨fun h1 => (by rw [hB.1] at h1; cases h1), fun i hi => ?_⟩
    rw [hB.1] at hi
    have hik : i = k := by simpa using hi
    subst hik
    have hw : wpOp P ops (midQ Q Kc) i (wpList P ops (midQ Q Kc) l) a w := by unfold wpOp; simp only [h0]; exact h
    exact wpOp_imp (fun a' w' h' => seq_then l (i + 1) _ a' w' (fun j hj => by have := hl (j + 1) (by simp; omega); simpa [Nat.add_assoc, Nat.add_comm 1 j] using this) hB.2 (fun a w h => hK a w h) h') midQ_imp hw
def midB (md : Region.Mode) (ops : Array Oper) (p n : Nat) : Bool :=
  Region.noSelect ops && decide (p ≤ n) && decide (n ≤ ops.size) && forcedB md ops p 0 (Array.replicate ops.size false) && headB md ops (List.range' n (ops.size - n)) (ops.size - n) (n - p) p (listTo p 0 (Array.replicate ops.size false))
/-- The same behind a forced beginning of p operations (a call, say, on whose answer the rest is guarded). -/
theorem wp_region_mid {id : Nat} {Q : Exit → Act → World → Prop} {a : Act} {w : World} {l : List Oper} (p n : Nat) (hm : P.follows .mixedOrders = true) (hB : midB .any l.toArray p n = true)
    (hQ : ∀ c a d v w, Q (.panic c) (Act.put a d v) w → Q (.panic c) a w)
    (h : ∀ Q2 : Exit → Act → World → Prop, (∀ a' w', wpCalm P l.toArray w' (fun a' => wpList P l.toArray Q (l.drop n) a' w') ((l.drop p).take (n - p)) a' → Q2 .normal a' w') → wpList P l.toArray Q2 (l.take p) a w.drew) : (Code.region id l.toArray true).wp P Q a w := by
  simp only [midB, Bool.and_eq_true, decide_eq_true_eq] at hB
  obtain ⟨⟨⟨⟨hsel, hpn⟩, hn⟩, hf⟩, hh⟩ := hB
  have hn' : n ≤ l.length := by simpa using hn
  have htp : (l.take p).length = p := by simp; omega
  have htl : ((l.drop p).take (n - p)).length = n - p := by simp; omega
  have hdl : (l.drop n).length = l.toArray.size - n := by simp
  refine wp_region_any hm ?_
  have H := seq_then (P := P) (md := .any) (ops := l.toArray) (Q := Q) (Kc := fun a' w' => wpCalm P l.toArray w' (fun a' => wpList P l.toArray Q (l.drop n) a' w') ((l.drop p).take (n - p)) a') (g := l.toArray.size - p) (l.take p) 0 (Array.replicate l.toArray.size false) a w.drew (fun j hj => by
    have hj' : j < p := by rw [htp] at hj; exact hj
    simp [hj']) (by rw [htp]; exact hf) (fun a' w' hc => ?_) (h _ (fun _ _ hh => hh))
  · rw [htp, show p + (l.toArray.size - p) = l.toArray.size by simp; omega] at H
    exact H
  · rw [htp]
    refine wpAny_of_last (S := fun w'' => w'' = w') (ds := List.range' n (l.toArray.size - n)) _ _ _ _ ?_
    have H := calm_head (md := .any) (ds := List.range' n (l.toArray.size - n)) (g := l.toArray.size - n) (w := w') hsel hQ (fun k listed a' hs hq hk => by
      have hkn : k = n := by omega
      subst hkn
      have := tail_seq (md := .any) (S := fun w'' => w'' = w') (ds := List.range' k (l.toArray.size - k)) (l.drop k) k listed a' w' (fun j => by simp [List.getElem?_drop]) (by rw [hdl]; exact hs) (fun j h1 h2 => by simp only [List.mem_range'_1]; rw [hdl] at h2; omega) hq
      rwa [hdl] at this) ((l.drop p).take (n - p)) p (listTo p 0 (Array.replicate l.toArray.size false)) a' (fun j hj => by
        have hj' : j < n - p := by rw [htl] at hj; exact hj
        simp [hj', List.getElem?_take, List.getElem?_drop]) (by rw [htl]; simp; omega) (by rw [htl]; exact hh) hc
    rw [htl, show n - p + (l.toArray.size - n) = l.toArray.size - p by simp; omega] at H
    exact H
end
end Go.Proofs.Ythhlmjcfhfkmdaa.Cx
