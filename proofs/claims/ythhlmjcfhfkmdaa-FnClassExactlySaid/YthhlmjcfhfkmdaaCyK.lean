/- What is played and what is silent, in plain words. -/
import Derived.Test.YthhlmjcfhfkmdaaCyV
namespace Go.Proofs.Ythhlmjcfhfkmdaa.Cx
open Go.RowKit Go.Proofs.Ythhlmjcfhfkmdaa.PFnClassExactly Go.Proofs.YthhlmjcfhfkmdaaW.PrintWords Go.Proofs.YthhlmjcfhfkmdaaW.PrintLast Go.Proofs.YthhlmjcfhfkmdaaW.PrintMore
set_option linter.unusedVariables false
set_option linter.unusedSimpArgs false

/-- A hole does not speak: no such track, too short, too near the last one, or over before it begins. -/
def mute (x : S40) (a0 a1 a2 last : Int) (h : S80) : Bool :=
  decide ((x.f0.length : Int) ≤ h.f0) || (decide (h.f2 - h.f1 < a2) || (decide (h.f1 - last < 2 * x.f1) || decide (h.f2 + a1 ≤ h.f1 + a0)))
def voice (x : S40) (a0 a1 : Int) (h : S80) : S107 := ⟨rd x.f0 h.f0, h.f1 + a0, h.f2 + a1⟩
/-- What is played, and the silent holes' places; 'last': for each track when its last speaking hole began. -/
def speak (x : S40) (a0 a1 a2 : Int) : List Int → Nat → List S80 → List S107 × List Int
  | _, _, [] => ([], [])
  | last, i, h :: r =>
    if mute x a0 a1 a2 (rd last h.f0) h then ((speak x a0 a1 a2 last (i + 1) r).1, (i : Int) :: (speak x a0 a1 a2 last (i + 1) r).2)
    else (voice x a0 a1 h :: (speak x a0 a1 a2 (last.set h.f0.toNat h.f1) (i + 1) r).1, (speak x a0 a1 a2 (last.set h.f0.toNat h.f1) (i + 1) r).2)
def spoke (x : S40) (a0 a1 a2 : Int) (sh : List S80) : List S107 × List Int := speak x a0 a1 a2 (List.replicate 20 (-40)) 0 sh
theorem speak_len (x : S40) (a0 a1 a2 : Int) : ∀ (sh : List S80) (last : List Int) (i : Nat), (speak x a0 a1 a2 last i sh).1.length + (speak x a0 a1 a2 last i sh).2.length = sh.length
  | [], _, _ => rfl
  | h :: r, last, i => by
    unfold speak
    split
    · have := speak_len x a0 a1 a2 r last (i + 1)
      simp only [List.length_cons]; omega
    · have := speak_len x a0 a1 a2 r (last.set h.f0.toNat h.f1) (i + 1)
      simp only [List.length_cons]; omega
end Go.Proofs.Ythhlmjcfhfkmdaa.Cx
