/-
  K1: contracts of larchbase's helpers: SameTypes, SameTexts, Begins.
-/
import Derived.Test.YtbjgepnkakcjaaaDoorLK
namespace Go.Proofs.YtbjgepnkakcjaaaDoor.Lift
open Go
set_option maxRecDepth 100000

theorem p_SameTypes : SoundP Tryd.prog gl 13 (fn2 (cL cTy) (cL cTy) encBool fun xs ys => if xs.length < 1099511627776 then some (decide (xs = ys)) else none) := by
  refine soundP_of_wk okX_nil mixed Tryd.func13 rfl rfl fun args r h G0 => ?_
  obtain ⟨xs, ys, e, rfl, he, rfl⟩ := fn2_inv h
  simp only [Option.ite_none_right_eq_some, Option.some.injEq] at he
  obtain ⟨hlen, rfl⟩ := he
  simp [Tryd.f13, entry]
  rw [← decide_not]
  refine br_dec (fun h => ?_) (fun h => ?_)
  · have : xs ≠ ys := fun e => h (by rw [e])
    simp [this]
    exact finS_fz (by simp)
  · simp
    refine lp_of okX_nil mixed (fun (i : Nat) => ⟨26, frL [(0, .sl (xs.map encTy)), (1, .sl (ys.map encTy)), (4, .bool false), (5, .int .i64 i)], []⟩) (fun i => i ≤ xs.length ∧ xs.take i = ys.take i) (fun i => xs.length - i) 0 (by simp) (weak_frL rfl rfl (by simp)) ?_
    intro i ⟨h1, h2⟩
    simp
    refine br_dec (fun h3 => ?_) (fun h3 => ?_)
    · simp
      refine dk_of (by decide) ?_
      have hx : xs[i]? = some xs[i] := by simp [h3]
      have h4 : i < ys.length := by omega
      have hy : ys[i]? = some ys[i] := by simp [h4]
      simp [hx, hy]
      refine br_bool (fun h5 => ?_) (fun h5 => ?_)
      · have : xs ≠ ys := fun e => by subst e; simp at h5
        simp [this]
        exact finS_fz (by simp)
      · have : xs[i] = ys[i] := by
          cases hq : xs[i]
          cases hq' : ys[i]
          simp [hq, hq'] at h5
          simp [h5]
        simp
        refine nextQ_of (i + 1) ⟨h3, by rw [List.take_succ_eq_append_getElem h3, List.take_succ_eq_append_getElem h4, h2, this]⟩ (by omega) (weak_frL rfl rfl ?_)
        simp [wrap_i64 (show (-9223372036854775808 : Int) ≤ i + 1 by omega) (by omega)]
    · have hi : i = xs.length := by omega
      have : xs = ys := by
        have e : xs.length = ys.length := by omega
        rw [hi, List.take_length, e, List.take_length] at h2
        exact h2
      simp [this]
      exact finS_fz (by simp)
end Go.Proofs.YtbjgepnkakcjaaaDoor.Lift
