/-
  Automata: their data.
-/
import Derived.Test.YtnimmbjbinpajaaFnMgA
set_option linter.unusedVariables false
namespace Go.AM
structure AutV where
  letters : Int
  start : Int
  final : Int
  next : List (List Int)
@[reducible] def autSl (a b : Bool) (m : AutV) : AV := .agg [iv m.letters, iv m.start, iv m.final, .sl 1 a (srows b m.next)]
@[reducible] def autOw (a b : Bool) (m : AutV) : AV := .agg [iv m.letters, iv m.start, iv m.final, .own 1 a (orows b m.next)]
/-- Numbers and lengths that fit. -/
structure AutOk (m : AutV) : Prop where
  l : I64 m.letters
  s : I64 m.start
  f : I64 m.final
  n : m.next.length ≤ 1000000
  r : ∀ r ∈ m.next, Fits r
end Go.AM
