/-
  The W seat: the fixed example.
-/
import Derived.Test.YthfphmbjhmaomaaW11
namespace Go.AM.W
open Go.Proofs Go.AM
variable {ov : Ov} {A A' : CW}
set_option maxRecDepth 100000

def isT : Option (Value × CW) → Bool
  | some (.bool b, _) => b
  | _ => false
theorem isT_spec {r : Option (Value × CW)} (h : isT r = true) : ∃ A1, r = some (.bool true, A1) := by
  unfold isT at h
  split at h
  · subst h; exact ⟨_, rfl⟩
  · cases h
theorem droop : isT (inv Try.prog (fun _ => none) 60 (.func 17) #[] ⟨.nil, 0⟩) = true := by kernel_rfl
def c17 (args : Array Value) (A : CW) : Option (Value × CW) := if args.size = 0 then some (.bool true, A) else none
def o0 : Ov := fun _ => none
theorem k0 : OvSound Try.prog o0 := OvSound.none _
theorem k17 : OvSound Try.prog (o0.add 17 c17) := by
  refine k0.add Try.mixed Try.okProg fun args A v A' hc => ?_
  unfold c17 at hc
  split at hc
  case isFalse => cases hc
  rename_i h0
  cases hc
  have : args = #[] := Array.eq_empty_of_size_eq_zero h0
  subst this
  obtain ⟨A1, h1⟩ := isT_spec droop
  refine ⟨#[], ⟨.nil, 0⟩, .bool true, A1, id, id, fun _ => False, den_some.2 ⟨60, h1⟩, ?_⟩
  refine ⟨⟨fun k h => h.elim, fun j k h => h.elim, fun g h => absurd h (by rw [g0]; omega), fun k _ => rfl, ?_, fun k h => h.elim⟩, fun k h => h.elim, fun _ _ => rfl, Nat.le_refl _, fun h => h, fun k h1 h2 => by omega, fun j k h1 h2 => by omega, fun k h1 h2 => by omega, fun k h1 h2 => by omega, .flat rfl⟩
  exact mapO_RL (f := fun _ => none) [] [] _ (fun _ _ h => by cases h) rfl
theorem u17 (h : ov 17 = some c17) : den Try.prog ov (.func 17) #[] A = some (.bool true, A) := by rw [den_ov h]; rfl
end Go.AM.W

