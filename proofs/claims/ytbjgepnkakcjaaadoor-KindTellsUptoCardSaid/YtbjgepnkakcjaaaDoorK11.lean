/-
  K11: contract of kind's Elem.
-/
import Derived.Test.YtbjgepnkakcjaaaDoorK10
namespace Go.Proofs.YtbjgepnkakcjaaaDoor.Lift
open Go
set_option maxRecDepth 100000

/-- Elem: 10.1 -/
def elem (x : ATy) : ATy × Int :=
  if (print x).2 = 0 ∧ (print x).1.head? = some 91 then (if (print x).1 = [91, 66] then (⟨1, []⟩, 0) else (tyOf ((print x).1.drop 1), 0)) else (⟨0, []⟩, 100)

/-- an array's elements have a descriptor -/
theorem elem_ok {s : Str} (h : parse s = (⟨4, s⟩, 0)) (h1 : s.head? = some 91) (h2 : s ≠ [91, 66]) : OfOk (s.drop 1) := by
  cases s with
  | nil => simp at h1
  | cons c r =>
    simp at h1
    subst h1
    unfold parse at h
    split at h
    · simp at h
    · rename_i hc
      have h0 : descLen (91 :: r) 0 ≠ 0 := fun h => hc (.inl h)
      have hl : descLen (91 :: r) 0 = (91 :: r).length := Classical.byContradiction fun h => hc (.inr h)
      simp only [List.drop_succ_cons, List.drop_zero]
      have hd : descLen (91 :: r) 0 = if r.head? = some 66 then 2 else if descLen r 1 = 0 then 0 else descLen r 1 + 1 := by simp [descLen]
      rw [hd] at h0 hl
      by_cases hB : r.head? = some 66
      · rw [if_pos hB] at hl
        exfalso
        cases r with
        | nil => simp at hB
        | cons d r =>
          simp at hB hl
          subst hB
          exact h2 (by simp [hl])
      · rw [if_neg hB] at h0 hl
        by_cases hz : descLen r 1 = 0
        · rw [if_pos hz] at h0; exact absurd rfl h0
        · rw [if_neg hz] at hl
          refine ⟨by rintro rfl; simp [descLen] at hz, fun h76 => ?_⟩
          cases r with
          | nil => simp at h76
          | cons d r =>
            simp at h76
            subst h76
            have e : descLen (76 :: r) 1 = refLen r := by simp [descLen]
            have := refLen_ge r (by rw [← e]; exact hz)
            rw [e] at hl
            simp at hl ⊢
            omega

theorem print_array {x : ATy} {t : Str} (h : print x = (t, 0)) (h1 : t.head? = some 91) : x = ⟨4, t⟩ := by
  unfold print at h
  split at h
  · simp only [Prod.mk.injEq, and_true] at h
    subst h
    obtain ⟨k, nm⟩ := x
    simp only [texty] at h1 ⊢
    split at h1
    · simp at h1
    · split at h1
      · simp at h1
      · split at h1
        · rename_i a b c
          subst c
          split at h1
          · rename_i d
            simp [d]
          · simp at h1
        · simp at h1
  · simp at h

theorem p_kindElem : SoundP Tryd.prog gl 19 (fn1 cTy encTyErr fun x => if x.name.length < 1099511600000 then some (elem x) else none) := by
  refine soundP_of_wk (((okX_nil.addP p_of).addP p_array).addP p_kindPrint) mixed Tryd.func19 rfl rfl fun args r h G0 => ?_
  obtain ⟨x, e, rfl, he, rfl⟩ := fn1_inv h
  simp only [Option.ite_none_right_eq_some, Option.some.injEq] at he
  obtain ⟨hs, rfl⟩ := he
  obtain ⟨k, nm⟩ := x
  simp at hs
  cases hp : print ⟨k, nm⟩ with
  | mk t er =>
    by_cases h0 : er = 0
    · subst h0
      by_cases h91 : t.head? = some 91
      · by_cases hB : t = [91, 66]
        · subst hB
          have hel : elem ⟨k, nm⟩ = (⟨1, []⟩, 0) := by simp [elem, hp]
          simp [Tryd.f19, entry, hs, hp, hel]
          exact finS_fz (by simp)
        · have hel : elem ⟨k, nm⟩ = (tyOf (t.drop 1), 0) := by simp only [elem, hp]; simp [h91, hB]
          have hx := print_array hp h91
          simp only [ATy.mk.injEq] at hx
          obtain ⟨rfl, rfl⟩ := hx
          have ho := elem_ok (print_ok hp) h91 hB
          have hlen : (nm.drop 1).length < 1099511627776 := by simp; omega
          have h1len : 1 ≤ nm.length := by
            cases nm with
            | nil => simp at h91
            | cons c r => simp
          generalize hq : nm.drop 1 = q at *
          simp [Tryd.f19, entry, hs, hp, hel, h91, hB, ho, hlen, h1len, hq]
          exact finS_fz (by simp)
      · have hel : elem ⟨k, nm⟩ = (⟨0, []⟩, 100) := by simp [elem, hp, h91]
        simp [Tryd.f19, entry, hs, hp, hel, h91]
        exact finS_fz (by simp)
    · have hel : elem ⟨k, nm⟩ = (⟨0, []⟩, 100) := by simp [elem, hp, h0]
      simp [Tryd.f19, entry, hs, hp, hel, h0]
      exact finS_fz (by simp)
end Go.Proofs.YtbjgepnkakcjaaaDoor.Lift
