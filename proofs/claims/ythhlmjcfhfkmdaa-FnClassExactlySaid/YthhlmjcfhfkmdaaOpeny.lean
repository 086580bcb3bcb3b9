/- From the reading of an argument as data to what the walks ask: a row of values of a kind, read. -/
import Derived.Test.YthhlmjcfhfkmdaaYa
import Derived.Deep.Slices
import Derived.Deep.Strs
namespace Go.Proofs.Ythhlmjcfhfkmdaa.Opening
open Go.RowKit Go.ChangeShapes Go.WideShapes Go.Deep Go.Proofs.YthhlmjcfhfkmdaaW.PrintWords
section
variable {H : Type} (enc : TypeId × Value → H) (P : Program) (W : World) (base : Nat) (spare : Nat → Bool) (held : Bool)
/-- Whatever can be read at type t, its cells say a value of kind k. -/
def Opens {α : Type} (k : Kd α) (t : TypeId) : Prop := ∀ fuel cs x, DataW.trod enc P W base spare held fuel t cs = some x → ∃ v, k.K W v cs
variable {enc P W base spare held}
theorem opens_int {k : IntKind} {t : TypeId} (ht : P.underlying t = some (.int k)) : Opens enc P W base spare held (Kd.int k) t := by
  intro fuel cs x h
  obtain ⟨n, rfl, _, _⟩ := DataW.trod_int ht h
  exact ⟨n, rfl⟩
theorem opens_iso {α β : Type} {d : Kd α} {f : β → α} {t : TypeId} (hf : ∀ y, ∃ x, f x = y) (h : Opens enc P W base spare held d t) : Opens enc P W base spare held (Kd.iso d f) t := by
  intro fuel cs x hx
  obtain ⟨v, hv⟩ := h fuel cs x hx
  obtain ⟨u, rfl⟩ := hf v
  exact ⟨u, hv⟩
theorem opens_struct2 {α β : Type} {a : Kd α} {b : Kd β} {t : TypeId} {f0 f1 : Field} (ht : P.underlying t = some (.struct #[f0, f1])) (hc : P.cellsOf t = 2)
    (o0 : f0.offset = 0) (o1 : f1.offset = 1) (z0 : P.cellsOf f0.type = 1) (z1 : P.cellsOf f1.type = 1)
    (h0 : Opens enc P W base spare held a f0.type) (h1 : Opens enc P W base spare held b f1.type) : Opens enc P W base spare held (Kd.pair a b) t := by
  intro fuel cs x hx
  obtain ⟨y0, y1, n, _, hl, g0, g1⟩ := trod_struct2 ht hx
  rw [hc] at hl
  match cs, hl with
  | [c0, c1], _ =>
    rw [o0, z0] at g0
    rw [o1, z1] at g1
    obtain ⟨v0, k0⟩ := h0 _ _ _ g0
    obtain ⟨v1, k1⟩ := h1 _ _ _ g1
    exact ⟨(v0, v1), [c0], [c1], rfl, k0, k1⟩
theorem opens_struct3 {α β γ : Type} {a : Kd α} {b : Kd β} {c : Kd γ} {t : TypeId} {f0 f1 f2 : Field} (ht : P.underlying t = some (.struct #[f0, f1, f2])) (hc : P.cellsOf t = 3)
    (o0 : f0.offset = 0) (o1 : f1.offset = 1) (o2 : f2.offset = 2) (z0 : P.cellsOf f0.type = 1) (z1 : P.cellsOf f1.type = 1) (z2 : P.cellsOf f2.type = 1)
    (h0 : Opens enc P W base spare held a f0.type) (h1 : Opens enc P W base spare held b f1.type) (h2 : Opens enc P W base spare held c f2.type) : Opens enc P W base spare held (Kd.pair a (Kd.pair b c)) t := by
  intro fuel cs x hx
  obtain ⟨y0, y1, y2, n, _, hl, g0, g1, g2⟩ := Go.Deep.trod_struct3 ht hx
  rw [hc] at hl
  match cs, hl with
  | [c0, c1, c2], _ =>
    rw [o0, z0] at g0
    rw [o1, z1] at g1
    rw [o2, z2] at g2
    obtain ⟨v0, k0⟩ := h0 _ _ _ g0
    obtain ⟨v1, k1⟩ := h1 _ _ _ g1
    obtain ⟨v2, k2⟩ := h2 _ _ _ g2
    exact ⟨(v0, v1, v2), [c0], [c1, c2], rfl, k0, [c1], [c2], rfl, k1, k2⟩
theorem opens_slice {α : Type} {d : Kd α} {t e : TypeId} (ht : P.underlying t = some (.slice e)) (hc : P.cellsOf e = d.sz) (he : Opens enc P W base spare held d e) : Opens enc P W base spare held (Kd.slice e d) t := by
  intro fuel cs x h
  rcases open_slice ht h with ⟨rfl, _⟩ | ⟨a, len, cap, m, n, D, Pl, rfl, hb, hl, hm, hmm, _, hx⟩
  · exact ⟨[], none, 0, rfl, Nat.le_refl _, rfl, by simp, fun h => by simp at h⟩
  · have hlm : len ≤ m := by rw [hmm]; split <;> omega
    rw [hc] at hx
    have key : ∀ i, i < len → ∃ (x : α), ∃ cs', cs'.length = d.sz ∧ d.K W x cs' ∧ ∀ j u, cs'[j]? = some u → W.cell? (a.add (i * d.sz + j)) = some u := by
      intro i hi
      obtain ⟨cs', h1, h2⟩ := hx i (by omega)
      obtain ⟨_, h3, h4⟩ := World.cells?_some h1
      obtain ⟨x, h5⟩ := he _ _ _ h2
      refine ⟨x, cs', h3, h5, fun j u hu => ?_⟩
      have hj : j < d.sz := by rw [← h3]; exact (List.getElem?_eq_some_iff.1 hu).1
      have := h4 j hj
      rw [Go.Deep.add_add] at this
      rw [this, hu]
    by_cases h0 : len = 0
    · subst h0
      exact ⟨[], some a, cap, rfl, Nat.zero_le _, rfl, by simp, fun h => by simp at h⟩
    · obtain ⟨x0, _⟩ := key 0 (by omega)
      haveI : Inhabited α := ⟨x0⟩
      obtain ⟨f, hf⟩ := choose_lt key
      have hlen : ((List.range len).map f).length = len := by simp
      refine ⟨(List.range len).map f, some a, cap, by rw [hlen], by rw [hlen]; exact hl, rfl, ?_, fun _ => ⟨a, rfl, fun j p hj => ?_⟩⟩
      · rw [hlen]; unfold maxLen at hm; omega
      · have hj1 : j < len := by have := (List.getElem?_eq_some_iff.1 hj).1; rwa [hlen] at this
        have hp : p = f j := by
          rw [List.getElem?_map, List.getElem?_range hj1] at hj
          exact (Option.some.inj hj).symm
        subst hp
        exact hf j hj1
/-- An argument that is a slice. -/
theorem open_arg {α : Type} {d : Kd α} {t e : TypeId} {a : Option Addr} {len cap : Nat} {y : DataW H} {ps : List MemPlace} (ht : P.underlying t = some (.slice e)) (hc : P.cellsOf e = d.sz) (he : Opens enc P W base spare held d e)
    (h : DataW.Trod enc P W base spare held t (.slice a len cap) y ps) : ∃ xs : List α, len = xs.length ∧ xs.length ≤ cap ∧ d.C W a xs.length xs := by
  obtain ⟨fuel, hf⟩ := h
  obtain ⟨xs, A, c, hcs, hl, hC⟩ := opens_slice ht hc he fuel _ _ hf
  simp [Value.cells] at hcs
  obtain ⟨rfl, rfl, rfl⟩ := hcs
  exact ⟨xs, rfl, hl, hC⟩
end
end Go.Proofs.Ythhlmjcfhfkmdaa.Opening
