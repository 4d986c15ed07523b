/-
  K8: contracts of kind's Elem and Method.
-/
import Derived.Test.YtbjgepnkakcjaaaDoorK7
namespace Go.Proofs.YtbjgepnkakcjaaaDoor.Lift
open Go
set_option maxRecDepth 100000

/-- the descriptors that a text begins with, and the rest -/
def typesOf (s : Str) : List ATy × Str :=
  if h : descLen s 0 = 0 then ([], s) else (tyOf (s.take (descLen s 0)) :: (typesOf (s.drop (descLen s 0))).1, (typesOf (s.drop (descLen s 0))).2)
termination_by s.length
decreasing_by all_goals
  have h1 : s ≠ [] := by rintro rfl; exact h (by simp [descLen])
  have h2 : 0 < s.length := List.length_pos_iff.2 h1
  simp only [List.length_drop]
  omega
theorem typesOf_none {s : Str} (h : descLen s 0 = 0) : typesOf s = ([], s) := by rw [typesOf]; simp [h]
theorem typesOf_some {s : Str} (h : descLen s 0 ≠ 0) : typesOf s = (tyOf (s.take (descLen s 0)) :: (typesOf (s.drop (descLen s 0))).1, (typesOf (s.drop (descLen s 0))).2) := by
  conv => lhs; rw [typesOf]
  simp [h]

/-- Method: 10.1 -/
def method (s : Str) : List ATy × ATy × Int :=
  if s.head? = some 40 then
    let r := typesOf (s.drop 1)
    if r.2.head? = some 41 then
      if r.2.drop 1 = [86] then (if 32 < wide r.1 then ([], ⟨0, []⟩, 3) else (r.1, ⟨0, []⟩, 0))
      else if (parse (r.2.drop 1)).2 ≠ 0 then ([], ⟨0, []⟩, (parse (r.2.drop 1)).2)
      else if 32 < wide r.1 then ([], ⟨0, []⟩, 3) else (r.1, (parse (r.2.drop 1)).1, 0)
    else ([], ⟨0, []⟩, 100)
  else ([], ⟨0, []⟩, 100)
@[simp] def encMethodR (x : List ATy × ATy × Int) : AV := .tup [.sl (x.1.map encTy), encTy x.2.1, .int .i64 x.2.2]

/-- the list of types and where it lies -/
@[simp] def lstSlot : List ATy → AV
  | [] => .snil
  | _ :: l => .sr 2 l.length 0 (l.length + 1)
@[simp] def lstSto (z : ABlk) : List ATy → Sto
  | [] => [z]
  | x :: l => [z, .row 2 0 0 [encTy x], .row 2 l.length 0 ((x :: l).map encTy)]

theorem p_kindMethod : SoundP Tryd.prog gl 11 (fn1 cStr encMethodR fun s => if s.length < 1099511627776 then some (method s) else none) := by
  refine soundP_of_wk (((((okX_nil.addP p_kindWide).addP p_kindParse).addP p_of).addP p_cut).addP p_CutPrefix) mixed Tryd.func11 rfl rfl fun args r h G0 => ?_
  obtain ⟨s, e, rfl, he, rfl⟩ := fn1_inv h
  simp only [Option.ite_none_right_eq_some, Option.some.injEq] at he
  obtain ⟨hs, rfl⟩ := he
  have okx := ((((okX_nil.addP p_kindWide).addP p_kindParse).addP p_of).addP p_cut).addP p_CutPrefix
  have pre40 : (([40] : Str) <+: s) = (s.head? = some 40) := by
    cases s with
    | nil => simp
    | cons c s => simp [List.cons_prefix_cons, eq_comm]
  by_cases h40 : s.head? = some 40
  · have hc : cutPrefix s [40] = (s.drop 1, true) := by simp [cutPrefix, pre40, h40]
    simp [Tryd.f11, entry, hc]
    refine lp_of okx mixed (fun (x : Str × List ATy) => ⟨64, frL [(3, .ptr 0 0 0 0), (5, .str x.1), (6, .bool true), (7, lstSlot x.2)], lstSto (.row 2 0 0 [encTy ⟨0, []⟩]) x.2⟩)
      (fun x => x.1.length ≤ s.length ∧ x.2.length + x.1.length ≤ s.length ∧ typesOf (s.drop 1) = (x.2 ++ (typesOf x.1).1, (typesOf x.1).2)) (fun x => x.1.length) (s.drop 1, []) ⟨by simp, by simp, by simp⟩ (weak_frL rfl rfl (by simp)) ?_
    rintro ⟨t, l⟩ ⟨hlt, hll, hty⟩
    simp only at hlt hll hty ⊢
    have hts : t.length < 1099511627776 := by omega
    by_cases h0 : descLen t 0 = 0
    · have hcut : cut t = ([], t) := by simp [cut, h0]
      rw [typesOf_none h0] at hty
      simp only [List.append_nil] at hty
      have hr1 : (typesOf (s.drop 1)).1 = l := by rw [hty]
      have hr2 : (typesOf (s.drop 1)).2 = t := by rw [hty]
      have pre41 : (([41] : Str) <+: t) = (t.head? = some 41) := by
        cases t with
        | nil => simp
        | cons c t => simp [List.cons_prefix_cons, eq_comm]
      have hll' : l.length < 1099511627776 := by omega
      by_cases h41 : t.head? = some 41
      · have hc2 : cutPrefix t [41] = (t.drop 1, true) := by simp [cutPrefix, pre41, h41]
        have hdl : (t.drop 1).length < 1099511627776 := by simp; omega
        have hm : method s = if t.drop 1 = [86] then (if 32 < wide l then ([], ⟨0, []⟩, 3) else (l, ⟨0, []⟩, 0))
            else if (parse (t.drop 1)).2 ≠ 0 then ([], ⟨0, []⟩, (parse (t.drop 1)).2)
            else if 32 < wide l then ([], ⟨0, []⟩, 3) else (l, (parse (t.drop 1)).1, 0) := by
          simp only [method, h40, if_true, hr1, hr2, h41]
        generalize t.drop 1 = back at *
        have hw0 : ¬ 32 < wide [] := by simp [wide, longs]
        by_cases h86 : back = [86]
        · subst h86
          by_cases hw : 32 < wide l
          · cases l with
            | nil =>
              exact absurd hw hw0
            | cons x l =>
              obtain ⟨xk, xn⟩ := x
              simp at hll'
              simp [hts, hcut, hc2, hm, hll', hw]
              exact finS_of 9 (by simp)
          · cases l with
            | nil =>
              simp [hts, hcut, hc2, hm, hw, hw0]
              refine dk_of (by decide) ?_
              simp
              exact finS_of 9 (by simp)
            | cons x l =>
              obtain ⟨xk, xn⟩ := x
              simp at hll'
              simp [hts, hcut, hc2, hm, hll', hw, hw0]
              refine dk_of (by decide) ?_
              simp
              exact finS_of 9 (by simp)
        · cases hp : parse back with
          | mk ty er =>
            rw [hp] at hm
            obtain ⟨tk, tn⟩ := ty
            by_cases he : er = 0
            · subst he
              by_cases hw : 32 < wide l
              · cases l with
                | nil =>
                  exact absurd hw hw0
                | cons x l =>
                  obtain ⟨xk, xn⟩ := x
                  simp at hll'
                  simp [hts, hcut, hc2, hm, hll', hw, h86, hp, hdl]
                  exact finS_of 9 (by simp)
              · cases l with
                | nil =>
                  simp [hts, hcut, hc2, hm, hw, hw0, h86, hp, hdl]
                  refine dk_of (by decide) ?_
                  simp
                  refine sd_of (by decide) ?_
                  simp
                  exact finS_of 9 (by simp)
                | cons x l =>
                  obtain ⟨xk, xn⟩ := x
                  simp at hll'
                  simp [hts, hcut, hc2, hm, hll', hw, hw0, h86, hp, hdl]
                  refine dk_of (by decide) ?_
                  simp
                  refine sd_of (by decide) ?_
                  simp
                  exact finS_of 9 (by simp)
            · cases l with
              | nil =>
                simp [hts, hcut, hc2, hm, h86, hp, hdl, he]
                exact finS_of 9 (by simp)
              | cons x l =>
                obtain ⟨xk, xn⟩ := x
                simp at hll'
                simp [hts, hcut, hc2, hm, hll', h86, hp, hdl, he]
                exact finS_of 9 (by simp)
      · have hc2 : cutPrefix t [41] = (t, false) := by simp [cutPrefix, pre41, h41]
        have hm : method s = ([], ⟨0, []⟩, 100) := by
          simp only [method, h40, if_true, hr1, hr2, h41, if_false]
        cases l with
        | nil =>
          simp [hts, hcut, hc2, hm]
          exact finS_of 9 (by simp)
        | cons x l =>
          simp [hts, hcut, hc2, hm]
          exact finS_of 9 (by simp)
    · have hcut : cut t = (t.take (descLen t 0), t.drop (descLen t 0)) := by simp [cut, h0]
      have ho := of_ok h0
      have hd := descLen_le t 0
      have hne := ho.1
      have hlen2 : (t.take (descLen t 0)).length < 1099511627776 := by simp; omega
      generalize hq : t.take (descLen t 0) = q at *
      rw [typesOf_some h0, hq] at hty
      cases l with
      | nil =>
        simp [hts, hcut, hne, ho, hlen2]
        refine nextQ_of (t.drop (descLen t 0), [tyOf q]) ⟨by simp; omega, by simp; omega, by simpa using hty⟩ (by simp; omega) (weak_frL rfl rfl (by simp))
      | cons x l =>
        simp at hll
        have hb : (l.length + 1 + 1) * 24 ≤ 140737488355328 := by omega
        simp [hts, hcut, hne, ho, hlen2, hb]
        refine nextQ_less (t.drop (descLen t 0), x :: (l ++ [tyOf q])) ⟨by simp; omega, by simp; omega, by simpa using hty⟩ (by simp; omega) (less_frL fz_gl (st2 := [.row 2 0 0 [encTy (tyOf q)]]) (by simp [G0.2]) rfl (by simp) (by simp) (by simp))
  · have hc : cutPrefix s [40] = (s, false) := by simp [cutPrefix, pre40, h40]
    have hm : method s = ([], ⟨0, []⟩, 100) := by simp [method, h40]
    simp [Tryd.f11, entry, hc]
    refine lp_of okx mixed (fun (_ : Unit) => ⟨64, frL [(3, .ptr 0 0 0 0), (5, .str s), (6, .bool false), (7, .snil)], [.row 2 0 0 [encTy ⟨0, []⟩]]⟩) (fun _ => True) (fun _ => 0) () trivial (weak_frL rfl rfl (by simp)) ?_
    intro _ _
    simp [hm]
    exact finS_of 9 (by simp)
end Go.Proofs.YtbjgepnkakcjaaaDoor.Lift
