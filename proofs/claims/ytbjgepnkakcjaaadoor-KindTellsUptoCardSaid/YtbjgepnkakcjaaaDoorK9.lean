/-
  K9: contract of larchlaw10.works: it is true.
-/
import Derived.Test.YtbjgepnkakcjaaaDoorK8
namespace Go.Proofs.YtbjgepnkakcjaaaDoor.Lift
open Go
set_option maxRecDepth 100000

theorem typesOf_step {s d : Str} {n : Nat} {t : ATy} {r : List ATy × Str} (h : descLen s 0 = n) (h0 : n ≠ 0) (hd : s.drop n = d) (ht : tyOf (s.take n) = t) (hr : typesOf d = r) : typesOf s = (t :: r.1, r.2) := by
  rw [typesOf_some (by rw [h]; exact h0), h, hd, ht, hr]

theorem method_works : method [40, 73, 74, 76, 97, 59, 91, 91, 73, 41, 86] = ([⟨1, []⟩, ⟨2, []⟩, ⟨4, [97]⟩, ⟨4, [91, 91, 73]⟩], ⟨0, []⟩, 0) := by
  have : typesOf [73, 74, 76, 97, 59, 91, 91, 73, 41, 86] = ([⟨1, []⟩, ⟨2, []⟩, ⟨4, [97]⟩, ⟨4, [91, 91, 73]⟩], [41, 86]) :=
    typesOf_step (n := 1) (by decide) (by decide) rfl rfl <|
    typesOf_step (n := 1) (by decide) (by decide) rfl rfl <|
    typesOf_step (n := 3) (by decide) (by decide) rfl rfl <|
    typesOf_step (n := 3) (by decide) (by decide) rfl rfl <|
    typesOf_none (by decide)
  simp only [method, List.drop_succ_cons, List.drop_zero, this]
  decide
theorem wide_works : wide [⟨1, []⟩, ⟨2, []⟩, ⟨4, [97]⟩, ⟨4, [91, 91, 73]⟩] = 5 := by decide
theorem class_works : isClass [97, 47, 66, 95, 36, 49] = true := by decide

theorem p_works : SoundP Tryd.prog gl 16 (fn0 encBool (some true)) := by
  refine soundP_of_wk ((((okX_nil.addP p_kindWide).addP p_kindClass).addP p_kindMethod).addP p_SameTypes) mixed Tryd.func16 rfl rfl fun args r h G0 => ?_
  obtain ⟨e, rfl, he, rfl⟩ := fn0_inv h
  cases he
  simp [Tryd.f16, entry, method_works, wide_works, class_works]
  exact finS_fz (by simp)
end Go.Proofs.YtbjgepnkakcjaaaDoor.Lift
