/-
  K7: contracts of kind's Wide, Print, Elem, array.
-/
import Derived.Test.YtbjgepnkakcjaaaDoorK6
namespace Go.Proofs.YtbjgepnkakcjaaaDoor.Lift
open Go
set_option maxRecDepth 100000

/-- how many of the types are longs -/
def longs (l : List ATy) : Nat := (l.filter fun x => decide (x.kind = 2)).length
theorem longs_le (l : List ATy) : longs l ≤ l.length := List.length_filter_le _ _
theorem longs_succ (l : List ATy) (i : Nat) (h : i < l.length) : longs (l.take (i + 1)) = longs (l.take i) + if l[i].kind = 2 then 1 else 0 := by
  rw [List.take_succ_eq_append_getElem h]
  simp only [longs, List.filter_append, List.length_append, List.filter_cons, List.filter_nil]
  split <;> rename_i h' <;> simp at h' <;> simp [h']
/-- how wide types are together -/
def wide (l : List ATy) : Int := (l.length + longs l : Nat)

theorem p_kindWide : SoundP Tryd.prog gl 21 (fn1 (cL cTy) encInt fun l => if l.length < 1099511627776 then some (wide l) else none) := by
  refine soundP_of_wk okX_nil mixed Tryd.func21 rfl rfl fun args r h G0 => ?_
  obtain ⟨l, e, rfl, he, rfl⟩ := fn1_inv h
  simp only [Option.ite_none_right_eq_some, Option.some.injEq] at he
  obtain ⟨hs, rfl⟩ := he
  simp [Tryd.f21, entry]
  refine lp_of okX_nil mixed (fun (i : Nat) => ⟨21, frL [(3, .int .i64 ((l.length + longs (l.take i) : Nat) : Int)), (8, .sl (l.map encTy)), (9, .int .i64 l.length), (10, .int .i64 i)], []⟩) (fun i => i ≤ l.length) (fun i => l.length - i) 0 (by simp) (weak_frL rfl rfl (by simp [longs])) ?_
  intro i hi
  simp
  refine br_dec (fun h3 => ?_) (fun h3 => ?_)
  · have hx : l[i]? = some l[i] := by simp [h3]
    have hle := longs_le (l.take i)
    have hl := List.length_take_le i l
    have hw := wrap_i64 (show (-9223372036854775808 : Int) ≤ (i : Int) + 1 by omega) (by omega)
    have hw2 := wrap_i64 (show (-9223372036854775808 : Int) ≤ (l.length : Int) + (longs (l.take i) : Int) + 1 by omega) (by omega)
    have hsucc := longs_succ l i h3
    by_cases h2 : l[i].kind = 2
    · simp [hx, h2, hw, hw2]
      refine nextQ_less (i + 1) h3 (by omega) (less_frL fz_gl (st2 := [_]) (by simp [G0.2]) rfl rfl rfl ?_)
      simp [hsucc, h2]
      omega
    · simp [hx, h2, hw]
      refine nextQ_less (i + 1) h3 (by omega) (less_frL fz_gl (st2 := [_]) (by simp [G0.2]) rfl rfl rfl ?_)
      simp [hsucc, h2]
  · have : i = l.length := by omega
    subst this
    simp [wide]
    exact finS_fz (by simp)

theorem p_array : SoundP Tryd.prog gl 38 (fn1 cStr encBool fun s => some (decide (s.head? = some 91))) := by
  refine soundP_of_wk (okX_nil.addP p_stringsHasPrefix) mixed Tryd.func38 rfl rfl fun args r h G0 => ?_
  obtain ⟨s, e, rfl, he, rfl⟩ := fn1_inv h
  cases he
  have : (([91] : Str) <+: s) = (s.head? = some 91) := by
    cases s with
    | nil => simp
    | cons c s => simp [List.cons_prefix_cons, eq_comm]
  simp [Tryd.f38, entry, this]
  exact finS_fz (by simp)

/-- the text of a type, if it has one -/
def texty (x : ATy) : Str := if x.kind = 1 then [73] else if x.kind = 2 then [74] else if x.kind = 4 then (if x.name.head? = some 91 then x.name else 76 :: (x.name ++ [59])) else []
/-- Print: 10.1 -/
def print (x : ATy) : Str × Int := if parse (texty x) = (x, 0) then (texty x, 0) else ([], 100)
@[simp] def encSErr (x : Str × Int) : AV := .tup [.str x.1, .int .i64 x.2]

theorem p_kindPrint : SoundP Tryd.prog gl 17 (fn1 cTy encSErr fun x => if x.name.length < 1099511600000 then some (print x) else none) := by
  refine soundP_of_wk ((okX_nil.addP p_array).addP p_kindParse) mixed Tryd.func17 rfl rfl fun args r h G0 => ?_
  obtain ⟨x, e, rfl, he, rfl⟩ := fn1_inv h
  simp only [Option.ite_none_right_eq_some, Option.some.injEq] at he
  obtain ⟨hs, rfl⟩ := he
  obtain ⟨k, nm⟩ := x
  simp at hs
  by_cases h1 : k = 1
  · subst h1
    cases hp : parse [73] with
    | mk ty er =>
      obtain ⟨tk, tn⟩ := ty
      by_cases he : er = 0
      · subst he
        by_cases hk : tk = 1
        · by_cases hn : tn = nm
          · have hpr : print ⟨1, nm⟩ = ([73], 0) := by simp [print, texty, hp, hk, hn]
            subst hn
            simp [Tryd.f17, entry, hs, hp, hk, hpr]
            exact finS_fz (by simp)
          · have hpr : print ⟨1, nm⟩ = ([], 100) := by simp [print, texty, hp, hn]
            simp [Tryd.f17, entry, hs, hp, hk, hn, hpr]
            exact finS_fz (by simp)
        · have hpr : print ⟨1, nm⟩ = ([], 100) := by simp [print, texty, hp, hk]
          simp [Tryd.f17, entry, hs, hp, hk, hpr]
          exact finS_fz (by simp)
      · have hpr : print ⟨1, nm⟩ = ([], 100) := by simp [print, texty, hp, he]
        simp [Tryd.f17, entry, hs, hp, he, hpr]
        exact finS_fz (by simp)
  · by_cases h2 : k = 2
    · subst h2
      cases hp : parse [74] with
      | mk ty er =>
        obtain ⟨tk, tn⟩ := ty
        by_cases he : er = 0
        · subst he
          by_cases hk : tk = 2
          · by_cases hn : tn = nm
            · have hpr : print ⟨2, nm⟩ = ([74], 0) := by simp [print, texty, hp, hk, hn]
              subst hn
              simp [Tryd.f17, entry, hs, hp, hk, hpr]
              exact finS_fz (by simp)
            · have hpr : print ⟨2, nm⟩ = ([], 100) := by simp [print, texty, hp, hn]
              simp [Tryd.f17, entry, hs, hp, hk, hn, hpr]
              exact finS_fz (by simp)
          · have hpr : print ⟨2, nm⟩ = ([], 100) := by simp [print, texty, hp, hk]
            simp [Tryd.f17, entry, hs, hp, hk, hpr]
            exact finS_fz (by simp)
        · have hpr : print ⟨2, nm⟩ = ([], 100) := by simp [print, texty, hp, he]
          simp [Tryd.f17, entry, hs, hp, he, hpr]
          exact finS_fz (by simp)
    · by_cases h4 : k = 4
      · subst h4
        by_cases ha : nm.head? = some 91
        · have hs2 : nm.length < 1099511627776 := by omega
          cases hp : parse nm with
          | mk ty er =>
            obtain ⟨tk, tn⟩ := ty
            by_cases he : er = 0
            · subst he
              by_cases hk : tk = 4
              · by_cases hn : tn = nm
                · have hpr : print ⟨4, nm⟩ = (nm, 0) := by simp [print, texty, hp, hk, hn, ha, hs2]
                  subst hn
                  simp [Tryd.f17, entry, ha, hs2, hp, hk, hpr]
                  exact finS_fz (by simp)
                · have hpr : print ⟨4, nm⟩ = ([], 100) := by simp [print, texty, hp, hn, ha, hs2]
                  simp [Tryd.f17, entry, ha, hs2, hp, hk, hn, hpr]
                  exact finS_fz (by simp)
              · have hpr : print ⟨4, nm⟩ = ([], 100) := by simp [print, texty, hp, hk, ha, hs2]
                simp [Tryd.f17, entry, ha, hs2, hp, hk, hpr]
                exact finS_fz (by simp)
            · have hpr : print ⟨4, nm⟩ = ([], 100) := by simp [print, texty, hp, he, ha, hs2]
              simp [Tryd.f17, entry, ha, hs2, hp, he, hpr]
              exact finS_fz (by simp)
        · have hs2 : nm.length + 1 + 1 < 1099511627776 := by omega
          have hs3 : 1 + nm.length ≤ 4611686018427387904 := by omega
          have hs4 : nm.length + 1 + 1 ≤ 4611686018427387904 := by omega
          cases hp : parse (76 :: (nm ++ [59])) with
          | mk ty er =>
            obtain ⟨tk, tn⟩ := ty
            by_cases he : er = 0
            · subst he
              by_cases hk : tk = 4
              · by_cases hn : tn = nm
                · have hpr : print ⟨4, nm⟩ = ((76 :: (nm ++ [59])), 0) := by simp [print, texty, hp, hk, hn, ha, hs2, hs3, hs4]
                  subst hn
                  simp [Tryd.f17, entry, ha, hs2, hs3, hs4, hp, hk, hpr]
                  exact finS_fz (by simp)
                · have hpr : print ⟨4, nm⟩ = ([], 100) := by simp [print, texty, hp, hn, ha, hs2, hs3, hs4]
                  simp [Tryd.f17, entry, ha, hs2, hs3, hs4, hp, hk, hn, hpr]
                  exact finS_fz (by simp)
              · have hpr : print ⟨4, nm⟩ = ([], 100) := by simp [print, texty, hp, hk, ha, hs2, hs3, hs4]
                simp [Tryd.f17, entry, ha, hs2, hs3, hs4, hp, hk, hpr]
                exact finS_fz (by simp)
            · have hpr : print ⟨4, nm⟩ = ([], 100) := by simp [print, texty, hp, he, ha, hs2, hs3, hs4]
              simp [Tryd.f17, entry, ha, hs2, hs3, hs4, hp, he, hpr]
              exact finS_fz (by simp)
      · have hpr : print ⟨k, nm⟩ = ([], 100) := by simp [print, texty, h1, h2, h4, parse, descLen]
        have hp : parse [] = (⟨0, []⟩, 100) := rfl
        simp [Tryd.f17, entry, h1, h2, h4, hp, hpr]
        exact finS_fz (by simp)
end Go.Proofs.YtbjgepnkakcjaaaDoor.Lift
