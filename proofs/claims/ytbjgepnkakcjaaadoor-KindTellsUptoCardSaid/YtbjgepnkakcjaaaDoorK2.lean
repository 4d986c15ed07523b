/-
  K2: contracts of the library's functions on texts: IndexByte, HasPrefix, CutPrefix.
-/
import Derived.Test.YtbjgepnkakcjaaaDoorK1
import Derived.Lib.Bytealg
namespace Go.Proofs.YtbjgepnkakcjaaaDoor.Lift
open Go
set_option maxRecDepth 100000

theorem p_IndexByteString : SoundP Tryd.prog gl 62 (fn2 cStr cByte encInt fun s c => some (Lib.indexByte s c)) where
  calls := fun G args vals r h inv hσ hg hr => by
    obtain ⟨s, c, e, rfl, he, rfl⟩ := fn2_inv h
    cases he
    cases hr with
    | cons h1 t => cases t with
      | cons h2 t => cases t with
        | nil =>
          simp at h1 h2
          cases h1
          cases h2
          rename_i b
          refine .inr ⟨_, G.w, ?_, G, rfl, hσ, Ext.refl G, inv, .int _ _⟩
          rw [run_callFunc_extern Tryd.func62 (by kernel_rfl) (by kernel_rfl) (by kernel_rfl) (e := Extern.BytealgIndexByte.indexByte) (by kernel_rfl)]
          erw [Lib.run_indexByteString]
          simp [Result.andThen]
noncomputable abbrev E2a : Env := [(62, liftS 9 (fn2 cStr cByte encInt fun s c => some (Lib.indexByte s c)))]
theorem ok2a : OkX Tryd.prog (XE E2a) := okX_nil.addP p_IndexByteString

theorem p_slIndexByte : SoundP Tryd.prog gl 51 (fn2 cStr cByte encInt fun s c => some (Lib.indexByte s c)) := by
  refine soundP_of_wk ok2a mixed Tryd.func51 rfl rfl fun args r h G0 => ?_
  obtain ⟨s, c, e, rfl, he, rfl⟩ := fn2_inv h
  cases he
  simp [Tryd.f51, entry]
  exact finS_fz (by simp)
noncomputable abbrev E2b : Env := (51, liftS 9 (fn2 cStr cByte encInt fun s c => some (Lib.indexByte s c))) :: E2a
theorem ok2b : OkX Tryd.prog (XE E2b) := ok2a.addP p_slIndexByte

theorem p_IndexByte : SoundP Tryd.prog gl 36 (fn2 cStr cByte encInt fun s c => some (Lib.indexByte s c)) := by
  refine soundP_of_wk ok2b mixed Tryd.func36 rfl rfl fun args r h G0 => ?_
  obtain ⟨s, c, e, rfl, he, rfl⟩ := fn2_inv h
  cases he
  simp [Tryd.f36, entry]
  exact finS_fz (by simp)

theorem prefix_dec (p s : Str) : decide (p <+: s) = decide (s.take p.length = p) := decide_eq_decide.2 (by rw [List.prefix_iff_eq_take, eq_comm])
theorem p_HasPrefix : SoundP Tryd.prog gl 57 (fn2 cStr cStr encBool fun s p => some (decide (p <+: s))) := by
  refine soundP_of_wk okX_nil mixed Tryd.func57 rfl rfl fun args r h G0 => ?_
  obtain ⟨s, p, e, rfl, he, rfl⟩ := fn2_inv h
  cases he
  by_cases hl : p.length ≤ s.length
  · simp [Tryd.f57, entry, hl]
    rw [prefix_dec]
    exact finS_fz (by simp)
  · have : ¬ p <+: s := fun h => hl h.length_le
    simp [Tryd.f57, entry, hl, this]
    exact finS_fz (by simp)
theorem p_Begins : SoundP Tryd.prog gl 23 (fn2 cStr cStr encBool fun s p => some (decide (p <+: s))) := by
  refine soundP_of_wk okX_nil mixed Tryd.func23 rfl rfl fun args r h G0 => ?_
  obtain ⟨s, p, e, rfl, he, rfl⟩ := fn2_inv h
  cases he
  by_cases hl : p.length ≤ s.length
  · simp [Tryd.f23, entry, hl]
    rw [prefix_dec]
    exact finS_fz (by simp)
  · have : ¬ p <+: s := fun h => hl h.length_le
    simp [Tryd.f23, entry, hl, this]
    exact finS_fz (by simp)

noncomputable abbrev E2c : Env := [(57, liftS 9 (fn2 cStr cStr encBool fun s p => some (decide (p <+: s))))]
theorem ok2c : OkX Tryd.prog (XE E2c) := okX_nil.addP p_HasPrefix
theorem p_stringsHasPrefix : SoundP Tryd.prog gl 52 (fn2 cStr cStr encBool fun s p => some (decide (p <+: s))) := by
  refine soundP_of_wk ok2c mixed Tryd.func52 rfl rfl fun args r h G0 => ?_
  obtain ⟨s, p, e, rfl, he, rfl⟩ := fn2_inv h
  cases he
  simp [Tryd.f52, entry]
  exact finS_fz (by simp)

/-- a text and a truth value -/
@[simp] def encSB (x : Str × Bool) : AV := .tup [.str x.1, .bool x.2]
def cutPrefix (s p : Str) : Str × Bool := if p <+: s then (s.drop p.length, true) else (s, false)
theorem p_slCutPrefix : SoundP Tryd.prog gl 43 (fn2 cStr cStr encSB fun s p => some (cutPrefix s p)) := by
  refine soundP_of_wk ok2c mixed Tryd.func43 rfl rfl fun args r h G0 => ?_
  obtain ⟨s, p, e, rfl, he, rfl⟩ := fn2_inv h
  cases he
  by_cases hp : p <+: s
  · simp [Tryd.f43, entry, hp, cutPrefix, hp.length_le]
    exact finS_fz (by simp)
  · simp [Tryd.f43, entry, hp, cutPrefix]
    exact finS_fz (by simp)
noncomputable abbrev E2d : Env := [(43, liftS 9 (fn2 cStr cStr encSB fun s p => some (cutPrefix s p)))]
theorem ok2d : OkX Tryd.prog (XE E2d) := okX_nil.addP p_slCutPrefix
theorem p_CutPrefix : SoundP Tryd.prog gl 34 (fn2 cStr cStr encSB fun s p => some (cutPrefix s p)) := by
  refine soundP_of_wk ok2d mixed Tryd.func34 rfl rfl fun args r h G0 => ?_
  obtain ⟨s, p, e, rfl, he, rfl⟩ := fn2_inv h
  cases he
  simp [Tryd.f34, entry]
  exact finS_fz (by simp)
end Go.Proofs.YtbjgepnkakcjaaaDoor.Lift
