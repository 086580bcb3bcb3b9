/- The law ClassExactly holds: for every class, score, sheet, action and tolerance, an instrument is told exactly if the sheet passes for it. Conditions: none beyond the row's own. -/
import Derived.Test.YthhlmjcfhfkmdaaRows
import Derived.Test.YthhlmjcfhfkmdaaCyW
import Derived.Test.YthhlmjcfhfkmdaaOpeny
import Derived.WalkKit
import Derived.ProofKit
import Derived.OpenShut
import Derived.ShutString
import Derived.ChangeOld
import Derived.Below
import Derived.SizedLaws
namespace Go.Proofs.Ythhlmjcfhfkmdaa.fnClassExactly
open Go.ChangeShapes Go.WideShapes Go.ChangeAt Go.RowKit
open Go.ChangeMaps (open_string shut_string)
open Go.Proofs.Ythhlmjcfhfkmdaa.Opening
set_option linter.unusedVariables false
theorem own : ownKnob Try.prog.godebug = none := by kernel_rfl
theorem laidOut : laidOutB Try.prog = true := by kernel_rfl
theorem opens58 {H : Type} {enc : TypeId × Value → H} {W : World} {base : Nat} {spare : Nat → Bool} {held : Bool} : Opens enc Try.prog W base spare held PFnClassExactly.k58 58 :=
  opens_iso (fun y => ⟨⟨y.1, y.2.1, y.2.2⟩, rfl⟩) (opens_struct3 Try.underlying58 (by kernel_rfl) rfl rfl rfl (by kernel_rfl) (by kernel_rfl) (by kernel_rfl) (by exact opens_int Try.underlying3) (by exact opens_int Try.underlying3) (by exact opens_int Try.underlying3))
theorem opens80 {H : Type} {enc : TypeId × Value → H} {W : World} {base : Nat} {spare : Nat → Bool} {held : Bool} : Opens enc Try.prog W base spare held PFnClassExactly.k80 80 :=
  opens_iso (fun y => ⟨⟨y.1, y.2.1, y.2.2⟩, rfl⟩) (opens_struct3 Try.underlying80 (by kernel_rfl) rfl rfl rfl (by kernel_rfl) (by kernel_rfl) (by kernel_rfl) (by exact opens_int Try.underlying3) (by exact opens_int Try.underlying3) (by exact opens_int Try.underlying3))
theorem opens37 {H : Type} {enc : TypeId × Value → H} {W : World} {base : Nat} {spare : Nat → Bool} {held : Bool} : Opens enc Try.prog W base spare held (Go.Proofs.YthhlmjcfhfkmdaaW.PrintWords.Kd.pair (Go.Proofs.YthhlmjcfhfkmdaaW.PrintWords.Kd.int .i64) (Go.Proofs.YthhlmjcfhfkmdaaW.PrintWords.Kd.pair (Go.Proofs.YthhlmjcfhfkmdaaW.PrintWords.Kd.int .i64) (Go.Proofs.YthhlmjcfhfkmdaaW.PrintWords.Kd.int .i64))) 37 :=
  opens_struct3 Try.underlying37 (by kernel_rfl) rfl rfl rfl (by kernel_rfl) (by kernel_rfl) (by kernel_rfl) (by exact opens_int Try.underlying3) (by exact opens_int Try.underlying3) (by exact opens_int Try.underlying3)
theorem opens40 {H : Type} {enc : TypeId × Value → H} {W : World} {base : Nat} {spare : Nat → Bool} {held : Bool} : Opens enc Try.prog W base spare held PFnClassExactly.k40 40 :=
  opens_iso (fun y => ⟨⟨y.1, y.2⟩, rfl⟩) (opens_struct2 Try.underlying40 (by kernel_rfl) rfl rfl (by kernel_rfl) (by kernel_rfl) (by exact opens_slice Try.underlying24 (by kernel_rfl) (opens_int Try.underlying3)) (by exact opens_int Try.underlying3))
set_option maxRecDepth 100000 in
theorem lifted (os : Os) (started : os.Started) (H : Type) (enc : TypeId × Value → H) :
    ReturnsInHanded {} Try.checked os 4 .any (Rows.fnClassExactlySpec.pre6 enc Try.prog Try.f4 Rows.fnClassExactlyRow.domain false) (Rows.fnClassExactlySpec.post enc Try.prog Try.f4 false true false false) := by
  refine returnsInHanded_of_change_sized (C := Try.checked) own started (by kernel_rfl) Try.func4
    (ChangeSpec.witness6 (enc := enc) (C := Try.checked) false ⟨#[], #[.slice none 0 0, .slice none 0 0, .slice none 0 0, .agg #[.int .i64 0, .int .i64 0, .int .i64 0], .int .i64 0], []⟩ 8 (by kernel_rfl) (by kernel_rfl) (by kernel_rfl) (by kernel_rfl)) ?_
  intro W base args ds gs before hval0 hW hcnd hsz0 _
  have hval : ∀ (j : Nat) t v, Try.f4.params[j]? = some t → args[j]? = some v → Value.okWide Try.prog W .any base t v := hval0
  have hW' := hW
  obtain ⟨p, q, hA0, hV, rfl, hfz, hnd⟩ := hW
  have hA : DataW.TrodAll enc Try.prog W 0 (fun _ => true) true Try.f4.params.toList args.toList ds p := hA0
  rw [Try.params4] at hA hval
  obtain ⟨v0, vs0, d0, ds0, p0, q0, hargs, rfl, rfl, h0, r0⟩ := trodAll_cons hA
  obtain ⟨v1, vs1, d1, ds1, p1, q1, rfl, rfl, rfl, h1, r1⟩ := trodAll_cons r0
  obtain ⟨v2, vs2, d2, ds2, p2, q2, rfl, rfl, rfl, h2, r2⟩ := trodAll_cons r1
  obtain ⟨v3, vs3, d3, ds3, p3, q3, rfl, rfl, rfl, h3, r3⟩ := trodAll_cons r2
  obtain ⟨v4, vs4, d4, ds4, p4, q4, rfl, rfl, rfl, h4, r4⟩ := trodAll_cons r3
  obtain ⟨rfl, rfl, rfl⟩ := trodAll_nil r4
  obtain rfl : args = #[v0, v1, v2, v3, v4] := by cases args; simp_all
  obtain ⟨rfl, rfl⟩ := trodVars_none hV
  obtain ⟨a0, len0, cap0, rfl⟩ := okWide_slice Try.underlying34 (hval 0 34 v0 rfl rfl)
  obtain ⟨a1, len1, cap1, rfl⟩ := okWide_slice Try.underlying27 (hval 1 27 v1 rfl rfl)
  obtain ⟨a2, len2, cap2, rfl⟩ := okWide_slice Try.underlying35 (hval 2 35 v2 rfl rfl)
  obtain ⟨cs3, rfl, _⟩ := okWide_struct Try.underlying37 (hval 3 37 v3 rfl rfl)
  obtain ⟨m, rfl⟩ := okWide_int Try.underlying3 (hval 4 3 v4 rfl rfl)
  have k0 := h0
  have k1 := h1
  have k2 := h2
  have k3 := h3
  have k4 := h4
  have lt0 : ∀ x ∈ p0, x.block < W.heap.size := by obtain ⟨m, hm⟩ := k0; exact DataW.trod_lt m _ _ _ hm
  have lt1 : ∀ x ∈ p1, x.block < W.heap.size := by obtain ⟨m, hm⟩ := k1; exact DataW.trod_lt m _ _ _ hm
  have lt2 : ∀ x ∈ p2, x.block < W.heap.size := by obtain ⟨m, hm⟩ := k2; exact DataW.trod_lt m _ _ _ hm
  have lt3 : ∀ x ∈ p3, x.block < W.heap.size := by obtain ⟨m, hm⟩ := k3; exact DataW.trod_lt m _ _ _ hm
  have lt4 : ∀ x ∈ p4, x.block < W.heap.size := by obtain ⟨m, hm⟩ := k4; exact DataW.trod_lt m _ _ _ hm
  obtain ⟨z0, rfl, hl0, hC0⟩ := open_arg Try.underlying34 (by kernel_rfl) opens40 h0
  obtain ⟨z1, rfl, hl1, hC1⟩ := open_arg Try.underlying27 (by kernel_rfl) opens58 h1
  obtain ⟨z2, rfl, hl2, hC2⟩ := open_arg Try.underlying35 (by kernel_rfl) opens80 h2
  obtain ⟨fu, hf⟩ := h3
  obtain ⟨⟨b0, b1, b2⟩, hK⟩ := opens37 fu _ _ hf
  obtain ⟨_, _, hcs, hk0, _, _, hcs2, hk1, hk2⟩ := hK
  obtain rfl : cs3 = #[.int .i64 b0, .int .i64 b1, .int .i64 b2] := by
    have e0 : _ = [Value.int .i64 b0] := hk0
    have e1 : _ = [Value.int .i64 b1] := hk1
    have e2 : _ = [Value.int .i64 b2] := hk2
    subst e0 e1 e2 hcs2
    cases cs3
    simpa [Value.cells] using hcs
  clear hA0 hval0 hsz0
  refine (Cx.walk a0 cap0 z0 a1 cap1 z1 a2 cap2 z2 b0 b1 b2 m W hC0 hl0 hC1 hl1 hC2 hl2).mono fun e W' ⟨he, bel⟩ => ?_
  subst he
  exact ⟨_, rfl, _, _, _, [], _, [], hW', trodAll_mk1 (shut_bool Try.underlying4 _), (trodAll_cons_mk (Below.trod laidOut (by kernel_rfl) (of_decide_eq_true (by kernel_rfl)) k0 bel lt0) (trodAll_cons_mk (Below.trod laidOut (by kernel_rfl) (of_decide_eq_true (by kernel_rfl)) k1 bel lt1) (trodAll_cons_mk (Below.trod laidOut (by kernel_rfl) (of_decide_eq_true (by kernel_rfl)) k2 bel lt2) (trodAll_cons_mk (Below.trod laidOut (by kernel_rfl) (of_decide_eq_true (by kernel_rfl)) k3 bel lt3) (trodAll_cons_mk (Below.trod laidOut (by kernel_rfl) (of_decide_eq_true (by kernel_rfl)) k4 bel lt4) trodAll_mk0))))), rfl, bel.frame _, fun h => by cases h⟩
theorem over : Rows.fnClassExactlyRow.holds Try.pinned (OpenSpec.ofChange Rows.fnClassExactlySpec) :=
  OpenClaim.holds_of_wide 4 Try.f4 rfl rfl rfl rfl rfl rfl rfl ⟨rfl, rfl, rfl, rfl, rfl⟩ rfl rfl rfl rfl rfl (by kernel_rfl) Try.func4 (by kernel_rfl)
    (of_decide_eq_true (by kernel_rfl)) (by unfold Func.isWrapper; first | (rw [if_pos (by decide +kernel)]; kernel_rfl) | (rw [if_neg (by decide +kernel)]; exact ⟨rfl, rfl⟩))
    (fun os started H enc _ => lifted os started H enc)
theorem proved : Rows.FnClassExactlySaid := over
#print axioms proved
end Go.Proofs.Ythhlmjcfhfkmdaa.fnClassExactly
namespace Go.Proofs.Ythhlmjcfhfkmdaa
/-- The row, under a short name, for the claim. -/
theorem fnClassExactly_holds : Rows.FnClassExactlySaid := fnClassExactly.proved
end Go.Proofs.Ythhlmjcfhfkmdaa
