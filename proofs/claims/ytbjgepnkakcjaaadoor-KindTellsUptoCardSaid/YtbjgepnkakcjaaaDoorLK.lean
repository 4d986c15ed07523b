/-
  LIFT, K: THE CHAIN OF CONTRACTS: an environment grows by one contract after the other.
-/
import Derived.Test.YtbjgepnkakcjaaaDoorLS
namespace Go.Proofs.YtbjgepnkakcjaaaDoor.Lift
open Go
set_option maxRecDepth 100000

/-- the globals that are read -/
abbrev gl : Nat → Option AV := fun _ => none
theorem fz_gl : FzG gl := fun _ _ h => by cases h
noncomputable abbrev XE (E : Env) : Cfg := ⟨tiOf Tryd.prog, E, gl⟩
theorem okX_nil : OkX Tryd.prog (XE []) := ⟨rfl, fun f S h => by cases h⟩
theorem OkX.add {E : Env} (ok : OkX Tryd.prog (XE E)) {f : Nat} {S : Spec} (h : SoundF Tryd.prog gl f S) : OkX Tryd.prog (XE ((f, S) :: E)) := ⟨rfl, fun f' S' hS => by
  simp only [Env.look] at hS
  split at hS
  · rename_i hf
    cases hS
    exact hf ▸ h
  · exact ok.E f' S' hS⟩
theorem OkX.addP {E : Env} (ok : OkX Tryd.prog (XE E)) {f : Nat} {g : List AV → Option AV} (h : SoundP Tryd.prog gl f g) : OkX Tryd.prog (XE ((f, liftS 9 g) :: E)) := ok.add (h.lift fz_gl 9)
theorem wrap_i64 {n : Int} (h1 : -9223372036854775808 ≤ n) (h2 : n < 9223372036854775808) : IntKind.wrap .i64 n = n := by
  simp only [IntKind.wrap, IntKind.bits, IntKind.signed]
  simp
  split <;> omega
theorem wrap_u8 {n : Int} (h1 : 0 ≤ n) (h2 : n < 256) : IntKind.wrap .u8 n = n := by
  simp only [IntKind.wrap, IntKind.bits, IntKind.signed]
  simp
  omega
end Go.Proofs.YtbjgepnkakcjaaaDoor.Lift
