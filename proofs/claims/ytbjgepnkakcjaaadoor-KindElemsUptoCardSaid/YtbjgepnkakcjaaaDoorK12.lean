/-
  K12: larchlaw10.KindElems is true.
-/
import Derived.Test.YtbjgepnkakcjaaaDoorK11
namespace Go.Proofs.YtbjgepnkakcjaaaDoor.Lift
open Go
set_option maxRecDepth 100000

theorem parse_ok {s : Str} {x : ATy} (h : parse s = (x, 0)) : descLen s 0 = s.length ∧ descLen s 0 ≠ 0 ∧ x = tyOf s := by
  unfold parse at h
  split at h
  · simp at h
  · rename_i hc
    refine ⟨Classical.byContradiction fun h => hc (.inr h), fun h => hc (.inl h), ?_⟩
    simp only [Prod.mk.injEq, and_true] at h
    exact h.symm

/-- an array of what has a descriptor has one, or there were eight [ -/
theorem arr_ok {s : Str} {x : ATy} (h : parse s = (x, 0)) : parse (91 :: s) = (⟨4, 91 :: s⟩, 0) ∨ ([91, 91, 91, 91, 91, 91, 91, 91] <+: s ∧ parse (91 :: s) = (⟨0, []⟩, 100)) := by
  obtain ⟨h1, h2, h3⟩ := parse_ok h
  obtain ⟨m, e1, e2⟩ := split91 s
  have hd := descLen_split m _ 0 e2
  rw [← e1] at hd
  have hd2 := descLen_split (m + 1) _ 0 e2
  have hcons : List.replicate (m + 1) 91 ++ s.dropWhile (· == 91) = 91 :: s := by
    rw [List.replicate_succ, List.cons_append, ← e1]
  rw [hcons] at hd2
  have hlen : s.length = m + (s.dropWhile (· == 91)).length := by
    conv => lhs; rw [e1]
    simp
  generalize hrest : s.dropWhile (· == 91) = rest at *
  by_cases h8 : 8 < m
  · rw [if_pos (by omega)] at hd; exact absurd hd h2
  · rw [if_neg (by omega)] at hd
    by_cases hz : size1 rest (decide (0 < m)) = 0
    · rw [if_pos hz] at hd; exact absurd hd h2
    · rw [if_neg hz] at hd
      by_cases h8' : m = 8
      · right
        subst h8'
        rw [if_pos (by omega)] at hd2
        refine ⟨?_, by simp [parse, hd2]⟩
        rw [e1]
        exact ⟨rest, rfl⟩
      · left
        rw [if_neg (by omega)] at hd2
        have hsz : size1 rest (decide (0 < m + 1)) = size1 rest (decide (0 < m)) := by
          cases rest with
          | nil => rfl
          | cons c r =>
            by_cases hm : 0 < m
            · simp [hm]
            · by_cases h66 : c = 66
              · subst h66
                exfalso
                simp [size1, hm] at hz
              · simp [size1, h66]
        rw [hsz, if_neg hz] at hd2
        have : descLen (91 :: s) 0 = (91 :: s).length := by rw [hd2, List.length_cons]; omega
        rw [parse, if_neg (fun h => h.elim (fun h => by rw [this] at h; simp at h) (fun h => h this))]
        rfl

theorem p_KindElems : SoundP Tryd.prog gl 6 (fn1 cTy encBool fun x => if x.name.length < 1099511600000 then some true else none) := by
  refine soundP_of_wk (((((okX_nil.addP p_works).addP p_Begins).addP p_kindElem).addP p_kindPrint).addP p_kindParse) mixed Tryd.func6 rfl rfl fun args r h G0 => ?_
  obtain ⟨x, e, rfl, he, rfl⟩ := fn1_inv h
  simp only [Option.ite_none_right_eq_some, Option.some.injEq] at he
  obtain ⟨hs, rfl⟩ := he
  obtain ⟨k, nm⟩ := x
  simp at hs
  rcases print_cases ⟨k, nm⟩ with ⟨t, ht1, ht2⟩ | ht
  · by_cases h5 : 500 < t.length
    · have e5 : ((500 : Int) < (t.length : Int)) = True := by simp; omega
      have e7 : 0 < t.length := by omega
      simp [Tryd.f6, entry, hs, ht1, e5, e7]
      exact finS_fz (by simp)
    · have e5 : ((500 : Int) < (t.length : Int)) = False := by simp; omega
      have l1 : t.length + 1 < 1099511627776 := by omega
      have l2 : 1 + t.length ≤ 4611686018427387904 := by omega
      have l3 : t.length + 1 < 1099511600000 := by omega
      rcases arr_ok ht2 with ha | ⟨hb, ha⟩
      · have hel : elem ⟨4, 91 :: t⟩ = (⟨k, nm⟩, 0) := by
          have hp := print_parse ha
          obtain ⟨q1, q2, q3⟩ := parse_ok ht2
          have hB : ¬ (91 :: t) = [91, 66] := by
            intro hq
            simp at hq
            subst hq
            exact absurd q2 (by decide)
          simp only [elem, hp]
          simp at hB
          simp [hB, ← q3]
        simp [Tryd.f6, entry, hs, ht1, e5, l1, l2, l3, ha, hel]
        exact finS_fz (by simp)
      · simp [Tryd.f6, entry, hs, ht1, e5, l1, l2, l3, ha, hb]
        exact finS_fz (by simp)
  · simp [Tryd.f6, entry, hs, ht]
    exact finS_fz (by simp)
end Go.Proofs.YtbjgepnkakcjaaaDoor.Lift
