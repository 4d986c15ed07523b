/-
  S8: Reverse, Cut, does; effect.
  S9: shape's hand, 6: moves.
  S10: shape's hand, 7: bound.
  S11: code.Plain; shape.Step.
  S12: shape.Step.
  K20: classes; larchlaw10.KindStands is true.
  K21: does going up end? what may stand for what is an order; larchlaw10.KindOrder is true.
  LIFT, P: larchlaw11's Place as a Lean structure (printed with tools/structs.py).
  M1: larchlaw11's light, classes, works; larchbase's SameFrame; ShapeSizes' function is true.
  P5: WHAT MAY BE DONE TO A FRAME MAY BE DONE TO ONE THAT MAY STAND FOR IT, plainly.
  P6: what is done to a hand may be done to one that may stand for it, and what comes of this may stand for what comes of that.
-/
import Derived.Test.YthchohjhcjkgjaaGreatDoorQ9
namespace Go.Proofs.YthchohjhcjkgjaaGreatDoor.Lift
open Go
set_option maxRecDepth 100000

/-- a list of which the first and the last i are swapped -/
def revAt (l : Str) (i : Nat) : Str := List.ofFn fun k : Fin l.length => if k.val < i ∨ l.length - i ≤ k.val then l[l.length - 1 - k.val]'(by omega) else l[k.val]
theorem revAt_length (l : Str) (i : Nat) : (revAt l i).length = l.length := by simp [revAt]
theorem revAt_get {l : Str} {i k : Nat} (h : k < l.length) : (revAt l i)[k]? = some (if k < i ∨ l.length - i ≤ k then l[l.length - 1 - k]'(by omega) else l[k]) := by
  unfold revAt
  rw [List.getElem?_ofFn, dif_pos h]
theorem revAt_zero (l : Str) : revAt l 0 = l := by
  refine List.ext_getElem? fun k => ?_
  by_cases hk : k < l.length
  · rw [revAt_get hk, if_neg (by omega), List.getElem?_eq_getElem hk]
  · rw [List.getElem?_eq_none (by rw [revAt_length]; omega), List.getElem?_eq_none (by omega)]
theorem revAt_end {l : Str} {i : Nat} (h : l.length ≤ 2 * i + 1) : revAt l i = l.reverse := by
  refine List.ext_getElem? fun k => ?_
  by_cases hk : k < l.length
  · rw [revAt_get hk, List.getElem?_reverse hk]
    split
    · rw [List.getElem?_eq_getElem]
    · have : l.length - 1 - k = k := by omega
      rw [List.getElem?_eq_getElem (by omega)]
      simp only [this]
  · rw [List.getElem?_eq_none (by rw [revAt_length]; omega), List.getElem?_eq_none (by simp; omega)]
theorem revAt_succ {l : Str} {i : Nat} (h : 2 * i + 1 < l.length) : ((revAt l i).set i (l[l.length - 1 - i]'(by omega))).set (l.length - 1 - i) (l[i]'(by omega)) = revAt l (i + 1) := by
  refine List.ext_getElem? fun k => ?_
  by_cases hk : k < l.length
  · rw [revAt_get hk, List.getElem?_set, List.getElem?_set, List.length_set, revAt_length]
    by_cases h1 : l.length - 1 - i = k
    · subst h1
      rw [if_pos rfl, if_pos (by omega), if_pos (by omega)]
      have : l.length - 1 - (l.length - 1 - i) = i := by omega
      simp only [this]
    · rw [if_neg h1]
      by_cases h2 : i = k
      · subst h2
        rw [if_pos rfl, if_pos (by omega), if_pos (by omega)]
      · rw [if_neg h2, revAt_get hk]
        by_cases h3 : k < i ∨ l.length - i ≤ k
        · rw [if_pos h3, if_pos (by omega)]
        · rw [if_neg h3, if_neg (by omega)]
  · rw [List.getElem?_eq_none (by simp [revAt_length]; omega), List.getElem?_eq_none (by rw [revAt_length]; omega)]

/-- Reverse of bytes in the store -/
def sRev : Spec := fun args st => match args with
  | [.sr b g 0 n] => match st[b]? with
    | some (.row 1 g' 0 xs) => match mapO decByte xs with
      | some l => if g' = g ∧ l.length = n ∧ n < 1099511627776 then some (.tup [], st.set b (.row 1 g 0 (l.reverse.map encByte))) else none
      | none => none
    | _ => none
  | _ => none
attribute [-simp] List.map_set
@[simp] theorem set_byte (l : Str) (i : Nat) (c : UInt8) : (l.map encByte).set i (.int .u8 c.toNat) = (l.set i c).map encByte := by rw [List.map_set]; rfl
theorem set_set_same (st : Sto) (b : Nat) (x y : ABlk) : (st.set b x).set b y = st.set b y := List.set_set _
set_option maxHeartbeats 1000000 in
theorem f_Reverse : SoundF Tryz.prog gl 78 sRev := by
  refine soundF_of_wk okX_nil mixed Tryz.func78 rfl rfl fun args st r st' hs G0 => ?_
  unfold sRev at hs
  split at hs
  · rename_i b g n
    split at hs
    · rename_i g' xs hb
      split at hs
      · rename_i l hl
        split at hs
        · rename_i hc
          obtain ⟨rfl, rfl, hn⟩ := hc
          cases hs
          have := mapO_inv decByte_ed _ _ hl
          subst this
          have hblt : b < st.length := (List.getElem?_eq_some_iff.1 hb).1
          have hw0 := wrap_i64 (show (-9223372036854775808 : Int) ≤ (l.length : Int) - 1 by omega) (by omega)
          have hst0 : st = st.set b (.row 1 g' 0 ((revAt l 0).map encByte)) := by
            rw [revAt_zero]
            obtain ⟨h1, h2⟩ := List.getElem?_eq_some_iff.1 hb
            have e : (ABlk.row 1 g' 0 (l.map encByte)) = st[b] := h2.symm
            rw [e, List.set_getElem_self]
          simp [Tryz.f78, entry, hw0]
          refine lp_of okX_nil mixed (fun (i : Nat) => ⟨28, frL [(0, .sr b g' 0 l.length), (2, .int .i64 i), (3, .int .i64 ((l.length : Int) - 1 - i))], st.set b (.row 1 g' 0 ((revAt l i).map encByte))⟩) (fun i => 2 * i ≤ l.length + 1) (fun i => l.length - i) 0 (by omega) (weak_frL rfl hst0 (by simp)) ?_
          intro i hi
          by_cases h3 : 2 * i + 1 < l.length
          · have hc1 : ((i : Int) < (l.length : Int) - 1 - i) = True := eq_true (by omega)
            have hi1 : i < l.length := by omega
            have hj1 : ((l.length : Int) - 1 - i < l.length) = True := eq_true (by omega)
            have hj2 : (0 ≤ (l.length : Int) - 1 - i) = True := eq_true (by omega)
            have hj3 : ((l.length : Int) - 1 - i).toNat = l.length - 1 - i := by omega
            have hgi : (revAt l i)[i]? = some l[i] := by rw [revAt_get hi1, if_neg (by omega)]
            have hgj : (revAt l i)[l.length - 1 - i]? = some (l[l.length - 1 - i]'(by omega)) := by rw [revAt_get (by omega), if_neg (by omega)]
            simp [hc1]
            refine dk_of (by decide) ?_
            have hj4 : ((i : Int) ≤ (l.length : Int) - 1) = True := eq_true (by omega)
            have hlr : ∀ k, (revAt l k).length = l.length := revAt_length l
            have hw1 := wrap_i64 (show (-9223372036854775808 : Int) ≤ (i : Int) + 1 by omega) (by omega)
            have hw2 := wrap_i64 (show (-9223372036854775808 : Int) ≤ (l.length : Int) - 1 - i - 1 by omega) (by omega)
            simp [hblt, hj1, hj3, hj4, hi1, hgi, hgj]
            refine sd_of (by decide) ?_
            have hgj2 : ((revAt l i).set i (l[l.length - 1 - i]'(by omega)))[l.length - 1 - i]? = some (l[l.length - 1 - i]'(by omega)) := by rw [List.getElem?_set_ne (by omega)]; exact hgj
            simp [hblt, hj1, hj3, hj4, hgj2]
            refine sd_of (by decide) ?_
            simp [hw1, hw2]
            refine nextQ_of (i + 1) (by omega) (by omega) (weak_frL rfl ?_ ?_)
            · simp only [revAt_succ h3]
            · simp
              omega
          · have hc1 : ((i : Int) < (l.length : Int) - 1 - i) = False := eq_false (by omega)
            have hrev : List.map encByte (revAt l i) = (List.map encByte l).reverse := by rw [revAt_end (l := l) (i := i) (by omega), List.map_reverse]
            simp [hc1, hrev]
        · cases hs
      · cases hs
    · cases hs
  · cases hs

theorem indexByte_self (c : UInt8) : Lib.indexByte [c] c = 0 := by simp [Lib.indexByte]
theorem p_Index1 : SoundP Tryz.prog gl 187 (fn2 cStr cStr encInt fun s p => match p with | [c] => if s.length < 1099511627776 then some (Lib.indexByte s c) else none | _ => none) := by
  refine soundP_of_wk (okX_nil.addP p_slIndexByte) mixed Tryz.func187 rfl rfl fun args r h G0 => ?_
  obtain ⟨s, p, e, rfl, he, rfl⟩ := fn2_inv h
  split at he
  · rename_i c
    simp only [Option.ite_none_right_eq_some, Option.some.injEq] at he
    obtain ⟨hs, rfl⟩ := he
    by_cases hq : s = [c]
    · subst hq
      simp [Tryz.f187, entry, indexByte_self]
      exact finS_eq (by simp) rfl
    · have hq' : ¬ [c] = s := fun e => hq e.symm
      simp [Tryz.f187, entry, hq']
      exact finS_fz (by simp)
  · cases he
@[simp] def encSSB (x : Str × Str × Bool) : AV := .tup [.str x.1, .str x.2.1, .bool x.2.2]
def cutAt (s : Str) (c : UInt8) : Str × Str × Bool := if 0 ≤ Lib.indexByte s c then (s.take (Lib.indexByte s c).toNat, s.drop ((Lib.indexByte s c).toNat + 1), true) else (s, [], false)
def gCut (s p : Str) : Option (Str × Str × Bool) := match p with | [c] => if s.length < 1099511627776 then some (cutAt s c) else none | _ => none
theorem p_slCut : SoundP Tryz.prog gl 148 (fn2 cStr cStr encSSB gCut) := by
  refine soundP_of_wk (okX_nil.addP p_Index1) mixed Tryz.func148 rfl rfl fun args r h G0 => ?_
  obtain ⟨s, p, e, rfl, he, rfl⟩ := fn2_inv h
  unfold gCut at he
  split at he
  · rename_i c
    simp only [Option.ite_none_right_eq_some, Option.some.injEq] at he
    obtain ⟨hs, rfl⟩ := he
    unfold cutAt
    rcases indexByte_lt s c with hlt | hlt
    · by_cases hi : 0 ≤ Lib.indexByte s c
      · rw [if_pos hi]
        obtain ⟨j, hj⟩ : ∃ j : Nat, Lib.indexByte s c = j := ⟨(Lib.indexByte s c).toNat, by omega⟩
        rw [hj] at hlt ⊢
        have hw := wrap_i64 (show (-9223372036854775808 : Int) ≤ (j : Int) + 1 by omega) (by omega)
        have h1 : j ≤ s.length := by omega
        have h2 : j + 1 ≤ s.length := by omega
        have h3 : (0 ≤ (j : Int) + 1) = True := eq_true (by omega)
        have h4 : ((j : Int) + 1).toNat = j + 1 := by omega
        simp [Tryz.f148, entry, hs, hj]
        refine dk_of (by decide) ?_
        simp [hw, h1, h2, h3, h4]
        exact finS_fz (by simp)
      · rw [if_neg hi]
        simp [Tryz.f148, entry, hs, hi]
        exact finS_fz (by simp)
    · rw [if_neg (by omega)]
      simp [Tryz.f148, entry, hs, hlt]
      exact finS_fz (by simp)
  · cases he
theorem p_Cut : SoundP Tryz.prog gl 75 (fn2 cStr cStr encSSB gCut) := by
  refine soundP_of_wk (okX_nil.addP p_slCut) mixed Tryz.func75 rfl rfl fun args r h G0 => ?_
  obtain ⟨s, p, e, rfl, he, rfl⟩ := fn2_inv h
  simp [Tryz.f75, entry, he]
  exact finS_fz (by simp)
/-- a text that is cut where it was put together -/
theorem indexByte_app {a b : Str} {c : UInt8} (h : c ∉ a) : Lib.indexByte (a ++ c :: b) c = a.length := by
  induction a with
  | nil => simp [Lib.indexByte]
  | cons x a ih =>
    simp only [List.mem_cons, not_or] at h
    have h1 : (x == c) = false := by simpa using fun e => h.1 e.symm
    simp only [List.cons_append, Lib.indexByte, h1, ih h.2, List.length_cons]
    have : ((a.length : Int) == -1) = false := by simp
    rw [this]
    simp
theorem cutAt_app {a b : Str} {c : UInt8} (h : c ∉ a) : cutAt (a ++ c :: b) c = (a, b, true) := by
  unfold cutAt
  rw [indexByte_app h, if_pos (by omega)]
  simp
/-- an effect's text -/
def hDoes (av : List AV) (_ : Sto) (h : AHand) : Option (AV × AHand) := match av with
  | [.str e] => if (cutAt e 62).2.2 = true ∧ asciiT (cutAt e 62).1 = true ∧ asciiT (cutAt e 62).2.1 = true ∧ e.length < 1000 then (doesO (cutAt e 62).1 (cutAt e 62).2.1 h).map fun h' => (.tup [], h') else none
  | _ => none
@[simp] theorem map_byte_eq (l : Str) : (l.map fun c : UInt8 => AV.int .u8 (c.toNat : Int)) = l.map encByte := rfl
@[simp] theorem bytesOf_enc : ∀ l : Str, bytesOf (l.map encByte) = some l
  | [] => rfl
  | c :: l => by simp [bytesOf_enc l]
theorem asciiT_reverse (s : Str) : asciiT s.reverse = asciiT s := by simp [asciiT]
theorem pre82 (s : Str) : (([82] : Str) <+: s.reverse) = (s.getLast? = some 82) := by
  rcases List.eq_nil_or_concat s with rfl | ⟨u, c, rfl⟩
  · simp
  · simp [List.cons_prefix_cons, eq_comm]
theorem ok_does : OkX Tryz.prog (XE [(75, liftS 9 (fn2 cStr cStr encSSB gCut)), (79, liftS 9 (fn2 cStr cStr encSB fun s p => some (cutPrefix s p))), (78, sRev), (76, eachS), (80, handS hRef)]) :=
  ((((okX_nil.add f_ref).add f_each).add f_Reverse).addP p_CutPrefix).addP p_Cut
set_option maxHeartbeats 1000000 in
theorem f_does : SoundF Tryz.prog gl 45 (handS hDoes) := by
  refine hand_of_wk' ok_does Tryz.func45 rfl rfl fun av q hh r h' hm => ?_
  unfold hDoes at hm
  split at hm
  · rename_i e
    split at hm
    · rename_i hc
      obtain ⟨h1, h2, h3, h4⟩ := hc
      obtain ⟨h'', hd, he⟩ := Option.map_eq_some_iff.1 hm
      cases he
      clear hm
      refine ⟨rfl, fun p0 p1 p2 p3 p4 hc G0 => ?_⟩
      have hlen : e.length < 1099511627776 := by omega
      have hcut : gCut e [62] = some (cutAt e 62) := by simp [gCut, hlen]
      have hl1 : (cutAt e 62).1.length < 1099511627776 ∧ (cutAt e 62).2.1.length < 1099511627776 := by
        unfold cutAt
        split
        · simp; omega
        · simp; omega
      generalize cutAt e 62 = x at *
      obtain ⟨pops, pushes, ok⟩ := x
      simp only at h1 h2 h3 hd hl1
      subst h1
      obtain ⟨h5, hp, hq⟩ := Option.bind_eq_some_iff.1 hd
      unfold popsO at hp
      have hby : bytesOf (List.take pops.length (List.map encByte pops).reverse) = some pops.reverse := by
        rw [← List.map_reverse, List.take_of_length_le (by simp), bytesOf_enc]
      by_cases hR : pops.getLast? = some 82
      · rw [if_pos hR] at hp
        have hcp : cutPrefix pops.reverse [82] = (pops.reverse.drop 1, true) := by unfold cutPrefix; exact if_pos (by rw [pre82]; exact hR)
        obtain ⟨⟨ta, ha⟩, hr1, hr2⟩ := Option.bind_eq_some_iff.1 hp
        simp only at hr2
        by_cases hdl : pops.dropLast = []
        · rw [if_pos hdl] at hr2
          cases hr2
          have hdr : pops.reverse.drop 1 = [] := by rw [List.drop_one, List.tail_reverse, hdl]; rfl
          simp [Tryz.f45, entry, hcut, sRev, hl1, hby, hcp, hdr, handS_eq, hRef, hr1, eachS_push h3 hl1.2, hq]
        · rw [if_neg hdl] at hr2
          obtain ⟨⟨tb, hb⟩, hr3, hr4⟩ := Option.map_eq_some_iff.1 hr2
          cases hr4
          have hdr : ¬ pops.reverse.drop 1 = [] := by rw [List.drop_one, List.tail_reverse]; simpa using hdl
          simp at hdr
          simp [Tryz.f45, entry, hcut, sRev, hl1, hby, hcp, hdr, handS_eq, hRef, hr1, hr3, eachS_push h3 hl1.2, hq]
      · rw [if_neg hR] at hp
        have hcp : cutPrefix pops.reverse [82] = (pops.reverse, false) := by unfold cutPrefix; exact if_neg (by rw [pre82]; exact hR)
        simp [Tryz.f45, entry, hcut, sRev, hl1, hby, hcp, handS_eq, eachS_pop ((asciiT_reverse pops).trans h2) (show pops.reverse.length < 1099511627776 by simpa using hl1.1), hp, eachS_push h3 hl1.2, hq]
    · cases hm
  · cases hm
/-- effect: its text -/
def effectS (op : Int) : Str × Bool := match effectT op with
  | some e => (e.1 ++ 62 :: e.2, true)
  | none => ([], false)
set_option maxHeartbeats 4000000 in
theorem p_effect : SoundP Tryz.prog gl 44 (fn1 cInt encSB fun op => some (effectS op)) := by
  refine soundP_of_wk okX_nil mixed Tryz.func44 rfl rfl fun args r h G0 => ?_
  obtain ⟨op, e, rfl, he, rfl⟩ := fn1_inv h
  cases he
  clear h
  simp [Tryz.f44, entry]
  refine br_dec (fun h => ?_) (fun h0 => ?_)
  · subst h
    simp
    exact finS_eq rfl rfl
  simp
  refine br_dec (fun h => ?_) (fun h167 => ?_)
  · subst h
    simp
    exact finS_eq rfl rfl
  simp
  refine br_dec (fun h => ?_) (fun h1 => ?_)
  · subst h
    simp
    exact finS_eq rfl rfl
  simp
  refine br_dec (fun h => ?_) (fun h9 => ?_)
  · subst h
    simp
    exact finS_eq rfl rfl
  simp
  refine br_dec (fun h => ?_) (fun h17 => ?_)
  · subst h
    simp
    exact finS_eq rfl rfl
  simp
  refine br_dec (fun h => ?_) (fun h46 => ?_)
  · subst h
    simp
    exact finS_eq rfl rfl
  simp
  refine br_dec (fun h => ?_) (fun h47 => ?_)
  · subst h
    simp
    exact finS_eq rfl rfl
  simp
  refine br_dec (fun h => ?_) (fun h51 => ?_)
  · subst h
    simp
    exact finS_eq rfl rfl
  simp
  refine br_dec (fun h => ?_) (fun h79 => ?_)
  · subst h
    simp
    exact finS_eq rfl rfl
  simp
  refine br_dec (fun h => ?_) (fun h80 => ?_)
  · subst h
    simp
    exact finS_eq rfl rfl
  simp
  refine br_dec (fun h => ?_) (fun h84 => ?_)
  · subst h
    simp
    exact finS_eq rfl rfl
  simp
  refine br_dec (fun h => ?_) (fun h96 => ?_)
  · subst h
    simp
    exact finS_eq rfl rfl
  simp
  refine br_dec (fun h => ?_) (fun h100 => ?_)
  · subst h
    simp
    exact finS_eq rfl rfl
  simp
  refine br_dec (fun h => ?_) (fun h104 => ?_)
  · subst h
    simp
    exact finS_eq rfl rfl
  simp
  refine br_dec (fun h => ?_) (fun h108 => ?_)
  · subst h
    simp
    exact finS_eq rfl rfl
  simp
  refine br_dec (fun h => ?_) (fun h112 => ?_)
  · subst h
    simp
    exact finS_eq rfl rfl
  simp
  refine br_dec (fun h => ?_) (fun h120 => ?_)
  · subst h
    simp
    exact finS_eq rfl rfl
  simp
  refine br_dec (fun h => ?_) (fun h122 => ?_)
  · subst h
    simp
    exact finS_eq rfl rfl
  simp
  refine br_dec (fun h => ?_) (fun h124 => ?_)
  · subst h
    simp
    exact finS_eq rfl rfl
  simp
  refine br_dec (fun h => ?_) (fun h126 => ?_)
  · subst h
    simp
    exact finS_eq rfl rfl
  simp
  refine br_dec (fun h => ?_) (fun h128 => ?_)
  · subst h
    simp
    exact finS_eq rfl rfl
  simp
  refine br_dec (fun h => ?_) (fun h130 => ?_)
  · subst h
    simp
    exact finS_eq rfl rfl
  simp
  refine br_dec (fun h => ?_) (fun h97 => ?_)
  · subst h
    simp
    exact finS_eq rfl rfl
  simp
  refine br_dec (fun h => ?_) (fun h101 => ?_)
  · subst h
    simp
    exact finS_eq rfl rfl
  simp
  refine br_dec (fun h => ?_) (fun h105 => ?_)
  · subst h
    simp
    exact finS_eq rfl rfl
  simp
  refine br_dec (fun h => ?_) (fun h109 => ?_)
  · subst h
    simp
    exact finS_eq rfl rfl
  simp
  refine br_dec (fun h => ?_) (fun h113 => ?_)
  · subst h
    simp
    exact finS_eq rfl rfl
  simp
  refine br_dec (fun h => ?_) (fun h127 => ?_)
  · subst h
    simp
    exact finS_eq rfl rfl
  simp
  refine br_dec (fun h => ?_) (fun h129 => ?_)
  · subst h
    simp
    exact finS_eq rfl rfl
  simp
  refine br_dec (fun h => ?_) (fun h131 => ?_)
  · subst h
    simp
    exact finS_eq rfl rfl
  simp
  refine br_dec (fun h => ?_) (fun h121 => ?_)
  · subst h
    simp
    exact finS_eq rfl rfl
  simp
  refine br_dec (fun h => ?_) (fun h123 => ?_)
  · subst h
    simp
    exact finS_eq rfl rfl
  simp
  refine br_dec (fun h => ?_) (fun h125 => ?_)
  · subst h
    simp
    exact finS_eq rfl rfl
  simp
  refine br_dec (fun h => ?_) (fun h116 => ?_)
  · subst h
    simp
    exact finS_eq rfl rfl
  simp
  refine br_dec (fun h => ?_) (fun h145 => ?_)
  · subst h
    simp
    exact finS_eq rfl rfl
  simp
  refine br_dec (fun h => ?_) (fun h146 => ?_)
  · subst h
    simp
    exact finS_eq rfl rfl
  simp
  refine br_dec (fun h => ?_) (fun h147 => ?_)
  · subst h
    simp
    exact finS_eq rfl rfl
  simp
  refine br_dec (fun h => ?_) (fun h117 => ?_)
  · subst h
    simp
    exact finS_eq rfl rfl
  simp
  refine br_dec (fun h => ?_) (fun h133 => ?_)
  · subst h
    simp
    exact finS_eq rfl rfl
  simp
  refine br_dec (fun h => ?_) (fun h136 => ?_)
  · subst h
    simp
    exact finS_eq rfl rfl
  simp
  refine br_dec (fun h => ?_) (fun h148 => ?_)
  · subst h
    simp
    exact finS_eq rfl rfl
  simp
  refine br_dec (fun h => ?_) (fun h153 => ?_)
  · subst h
    simp
    exact finS_eq rfl rfl
  simp
  refine br_dec (fun h => ?_) (fun h154 => ?_)
  · subst h
    simp
    exact finS_eq rfl rfl
  simp
  refine br_dec (fun h => ?_) (fun h155 => ?_)
  · subst h
    simp
    exact finS_eq rfl rfl
  simp
  refine br_dec (fun h => ?_) (fun h156 => ?_)
  · subst h
    simp
    exact finS_eq rfl rfl
  simp
  refine br_dec (fun h => ?_) (fun h157 => ?_)
  · subst h
    simp
    exact finS_eq rfl rfl
  simp
  refine br_dec (fun h => ?_) (fun h158 => ?_)
  · subst h
    simp
    exact finS_eq rfl rfl
  simp
  refine br_dec (fun h => ?_) (fun h170 => ?_)
  · subst h
    simp
    exact finS_eq rfl rfl
  simp
  refine br_dec (fun h => ?_) (fun h171 => ?_)
  · subst h
    simp
    exact finS_eq rfl rfl
  simp
  refine br_dec (fun h => ?_) (fun h159 => ?_)
  · subst h
    simp
    exact finS_eq rfl rfl
  simp
  refine br_dec (fun h => ?_) (fun h160 => ?_)
  · subst h
    simp
    exact finS_eq rfl rfl
  simp
  refine br_dec (fun h => ?_) (fun h161 => ?_)
  · subst h
    simp
    exact finS_eq rfl rfl
  simp
  refine br_dec (fun h => ?_) (fun h162 => ?_)
  · subst h
    simp
    exact finS_eq rfl rfl
  simp
  refine br_dec (fun h => ?_) (fun h163 => ?_)
  · subst h
    simp
    exact finS_eq rfl rfl
  simp
  refine br_dec (fun h => ?_) (fun h164 => ?_)
  · subst h
    simp
    exact finS_eq rfl rfl
  simp
  refine br_dec (fun h => ?_) (fun h165 => ?_)
  · subst h
    simp
    exact finS_eq rfl rfl
  simp
  refine br_dec (fun h => ?_) (fun h166 => ?_)
  · subst h
    simp
    exact finS_eq rfl rfl
  simp
  refine br_dec (fun h => ?_) (fun h194 => ?_)
  · subst h
    simp
    exact finS_eq rfl rfl
  simp
  refine br_dec (fun h => ?_) (fun h195 => ?_)
  · subst h
    simp
    exact finS_eq rfl rfl
  simp
  refine br_dec (fun h => ?_) (fun h198 => ?_)
  · subst h
    simp
    exact finS_eq rfl rfl
  simp
  refine br_dec (fun h => ?_) (fun h199 => ?_)
  · subst h
    simp
    exact finS_eq rfl rfl
  simp
  refine br_dec (fun h => ?_) (fun h191 => ?_)
  · subst h
    simp
    exact finS_eq rfl rfl
  simp
  have hn : effectT op = none := by simp [effectT, effTab, h0, h167, h1, h9, h17, h46, h47, h51, h79, h80, h84, h96, h100, h104, h108, h112, h120, h122, h124, h126, h128, h130, h97, h101, h105, h109, h113, h127, h129, h131, h121, h123, h125, h116, h145, h146, h147, h117, h133, h136, h148, h153, h154, h155, h156, h157, h158, h170, h171, h159, h160, h161, h162, h163, h164, h165, h166, h194, h195, h198, h199, h191]
  exact finS_eq (by simp [effectS, hn]) rfl
end Go.Proofs.YthchohjhcjkgjaaGreatDoor.Lift
namespace Go.Proofs.YthchohjhcjkgjaaGreatDoor.Lift
open Go
set_option maxRecDepth 100000

theorem letterT_I : letterT 73 = ⟨1, []⟩ := rfl
theorem letterT_J : letterT 74 = ⟨2, []⟩ := rfl
def hMoves (av : List AV) (_ : Sto) (h : AHand) : Option (AV × AHand) := match av with
  | [i] => (decInstr i).bind fun i => (movesO i.op i.a h).map fun r => (.bool r.1, r.2)
  | _ => none
theorem ok_moves : OkX Tryz.prog (XE [(81, handS hPop), (82, handS hPush), (80, handS hRef), (90, handS hSingle), (91, handS hTop),
    (83, handS hLocal), (92, handS hElems), (89, handS hSet), (77, liftS 9 (fn1 cRune encTy fun c => some (letterT c)))]) :=
  ((((((((okX_nil.addP p_letterT).add f_set).add f_elems).add f_local).add f_top).add f_single).add f_ref).add f_push).add f_pop
set_option maxHeartbeats 4000000 in
theorem f_moves : SoundF Tryz.prog gl 46 (handS hMoves) := by
  refine hand_of_wk' (ok_moves.b [26, 36, 45, 58, 69, 103, 115, 126, 138, 147, 153, 158, 166, 176]) Tryz.func46 rfl rfl fun av q hh r h' hm => ?_
  unfold hMoves at hm
  split at hm
  · rename_i iv
    obtain ⟨i, hi, hm2⟩ := Option.bind_eq_some_iff.1 hm
    have := cInstr.ed _ _ hi
    subst this
    obtain ⟨⟨rb, h1⟩, he, hr⟩ := Option.map_eq_some_iff.1 hm2
    cases hr
    clear hm hm2 hi
    refine ⟨rfl, fun p0 p1 p2 p3 p4 hc G0 => ?_⟩
    obtain ⟨iat, op, a, b, cs⟩ := i
    simp only at he
    unfold movesO tI tJ at he
    simp [Tryz.f46, entry, letterT_I, letterT_J]
    refine br_dec (fun h => ?_) (fun h21 => ?_)
    · rw [if_pos h] at he
      subst h
      obtain ⟨h2, q1, q2⟩ := Option.map_eq_some_iff.1 he
      cases q2
      simp [handS_eq, hLocal, hPush, willOf, q1]
    rw [if_neg h21] at he
    simp
    refine br_dec (fun h => ?_) (fun h22 => ?_)
    · rw [if_pos h] at he
      subst h
      obtain ⟨h2, q1, q2⟩ := Option.map_eq_some_iff.1 he
      cases q2
      simp [handS_eq, hLocal, hPush, willOf, q1]
    rw [if_neg h22] at he
    simp
    refine br_dec (fun h => ?_) (fun h25 => ?_)
    · rw [if_pos h] at he
      subst h
      obtain ⟨h2, q1, q2⟩ := Option.map_eq_some_iff.1 he
      cases q2
      simp [handS_eq, hLocal, hPush, willOf, q1]
    rw [if_neg h25] at he
    simp
    refine br_dec (fun h => ?_) (fun h132 => ?_)
    · rw [if_pos h] at he
      subst h
      cases he
      simp [handS_eq, hLocal, willOf]
    rw [if_neg h132] at he
    simp
    refine br_dec (fun h => ?_) (fun h54 => ?_)
    · rw [if_pos h] at he
      subst h
      obtain ⟨h2, q1, q2⟩ := Option.map_eq_some_iff.1 he
      cases q2
      obtain ⟨h3, q3, q4⟩ := Option.bind_eq_some_iff.1 q1
      simp [handS_eq, hPop, hSet, popO_one, q3, q4]
    rw [if_neg h54] at he
    simp
    refine br_dec (fun h => ?_) (fun h55 => ?_)
    · rw [if_pos h] at he
      subst h
      obtain ⟨h2, q1, q2⟩ := Option.map_eq_some_iff.1 he
      cases q2
      obtain ⟨h3, q3, q4⟩ := Option.bind_eq_some_iff.1 q1
      simp [handS_eq, hPop, hSet, popO_one, q3, q4]
    rw [if_neg h55] at he
    simp
    refine br_dec (fun h => ?_) (fun h58 => ?_)
    · rw [if_pos h] at he
      subst h
      obtain ⟨h2, q1, q2⟩ := Option.map_eq_some_iff.1 he
      cases q2
      obtain ⟨⟨t, h3⟩, q3, q4⟩ := Option.bind_eq_some_iff.1 q1
      simp
      refine dk_ofL [(2, .ptr (q.length + 8) 0 0 2)] (by decide) ?_
      simp [List.lookup, handS_eq, hRef, q3]
      refine sd_ofL rfl ?_ ?_
      · simp [steadyL, ldEq]
      simp [List.lookup, handS_eq, hSet, q4]
      refine sd_of (by decide) ?_
      simp
    rw [if_neg h58] at he
    simp
    refine br_dec (fun h => ?_) (fun h87 => ?_)
    · rw [if_pos h] at he
      subst h
      obtain ⟨⟨t, h2⟩, q1, q2⟩ := Option.map_eq_some_iff.1 he
      cases q2
      simp [handS_eq, hSingle, q1]
    rw [if_neg h87] at he
    simp
    refine br_dec (fun h => ?_) (fun h88 => ?_)
    · rw [if_pos h] at he
      subst h
      obtain ⟨⟨t, h2⟩, q1, q2⟩ := Option.bind_eq_some_iff.1 he
      simp only at q2
      by_cases hk : t.kind = 2
      · rw [if_pos hk] at q2
        cases q2
        simp [handS_eq, hTop, q1, hk]
      · rw [if_neg hk] at q2
        obtain ⟨⟨t3, h3⟩, q3, q4⟩ := Option.map_eq_some_iff.1 q2
        cases q4
        simp [handS_eq, hSingle, hTop, q1, hk, q3]
    rw [if_neg h88] at he
    simp
    refine br_dec (fun h => ?_) (fun h89 => ?_)
    · rw [if_pos h] at he
      subst h
      obtain ⟨⟨t, h2⟩, q1, q2⟩ := Option.bind_eq_some_iff.1 he
      obtain ⟨h3, q3, q4⟩ := Option.map_eq_some_iff.1 q2
      cases q4
      simp [handS_eq, hPush, hSingle, q1, q3]
    rw [if_neg h89] at he
    simp
    refine br_dec (fun h => ?_) (fun h90 => ?_)
    · rw [if_pos h] at he
      subst h
      obtain ⟨⟨t, h2⟩, q1, q2⟩ := Option.bind_eq_some_iff.1 he
      obtain ⟨⟨t3, h3⟩, q3, q4⟩ := Option.bind_eq_some_iff.1 q2
      obtain ⟨h4, q5, q6⟩ := Option.map_eq_some_iff.1 q4
      cases q6
      simp [handS_eq, hPush, hSingle, q1, q3, q5]
    rw [if_neg h90] at he
    simp
    refine br_dec (fun h => ?_) (fun h95 => ?_)
    · rw [if_pos h] at he
      subst h
      obtain ⟨⟨t, h2⟩, q1, q2⟩ := Option.bind_eq_some_iff.1 he
      obtain ⟨⟨t3, h3⟩, q3, q4⟩ := Option.bind_eq_some_iff.1 q2
      obtain ⟨h4, q5, q6⟩ := Option.map_eq_some_iff.1 q4
      cases q6
      simp [handS_eq, hPush, hSingle, q1, q3, q5]
    rw [if_neg h95] at he
    simp
    refine br_dec (fun h => ?_) (fun h92 => ?_)
    · rw [if_pos h] at he
      subst h
      obtain ⟨⟨t, h2⟩, q1, q2⟩ := Option.bind_eq_some_iff.1 he
      simp only at q2
      by_cases hk : t.kind = 2
      · rw [if_pos hk] at q2
        obtain ⟨h3, q3, q4⟩ := Option.map_eq_some_iff.1 q2
        cases q4
        obtain ⟨tk, tn⟩ := t
        simp only at hk
        subst hk
        simp [handS_eq, hPush, hTop, q1, q3]
      · rw [if_neg hk] at q2
        obtain ⟨⟨t3, h3⟩, q3, q4⟩ := Option.bind_eq_some_iff.1 q2
        obtain ⟨h4, q5, q6⟩ := Option.map_eq_some_iff.1 q4
        cases q6
        simp [handS_eq, hPush, hSingle, hTop, q1, hk, q3, q5]
    rw [if_neg h92] at he
    simp
    refine br_dec (fun h => ?_) (fun h50 => ?_)
    · rw [if_pos h] at he
      subst h
      obtain ⟨h2, q1, q2⟩ := Option.bind_eq_some_iff.1 he
      obtain ⟨⟨t3, h3⟩, q3, q4⟩ := Option.bind_eq_some_iff.1 q2
      obtain ⟨h4, q5, q6⟩ := Option.map_eq_some_iff.1 q4
      cases q6
      simp [handS_eq, hPush, hPop, hElems, willE, popO_one, q1, q3, q5]
    rw [if_neg h50] at he
    simp
    refine br_dec (fun h => ?_) (fun h83 => ?_)
    · rw [if_pos h] at he
      subst h
      obtain ⟨⟨t, h2⟩, q1, q2⟩ := Option.bind_eq_some_iff.1 he
      obtain ⟨h3, q3, q4⟩ := Option.bind_eq_some_iff.1 q2
      obtain ⟨⟨t4, h4⟩, q5, q6⟩ := Option.map_eq_some_iff.1 q4
      cases q6
      simp [handS_eq, hPop, hRef, hElems, willE, popO_one, q1, q3, q5]
    rw [if_neg h83] at he
    simp
    refine br_dec (fun h => ?_) (fun h190 => ?_)
    · rw [if_pos h] at he
      subst h
      obtain ⟨⟨t, h2⟩, q1, q2⟩ := Option.bind_eq_some_iff.1 he
      obtain ⟨h3, q3, q4⟩ := Option.map_eq_some_iff.1 q2
      cases q4
      simp [handS_eq, hPush, hElems, willE, q1, q3]
    rw [if_neg h190] at he
    simp
    cases he
    simp
  · cases hm
end Go.Proofs.YthchohjhcjkgjaaGreatDoor.Lift
namespace Go.Proofs.YthchohjhcjkgjaaGreatDoor.Lift
open Go
set_option maxRecDepth 100000

def hBound (av : List AV) (_ : Sto) (h : AHand) : Option (AV × AHand) := match av with
  | [c, i] => (decClass c).bind fun c => (decInstr i).bind fun i => if c.pool.length < 1099511627776 then (boundO c.pool i.op i.a h).map fun r => (.bool r.1, r.2) else none
  | _ => none
theorem ok_bound : OkX Tryz.prog (XE [(81, handS hPop), (82, handS hPush), (80, handS hRef), (94, handS hMust), (45, handS hDoes),
    (95, handS hConst), (96, handS hKind), (99, handS hClass), (77, liftS 9 (fn1 cRune encTy fun c => some (letterT c))), (97, liftS 9 (fn1 cStr encTy fun s => some (namedT s))),
    (98, liftS 9 (fn1 cStr encMethodR fun s => if s.length < 1099511627776 then some (method s) else none)), (100, liftS 9 (fn2 cStr cStr encBool fun s p => some (decide (p <+: s))))]) :=
  (((((((((((okX_nil.addP p_stringsHasPrefix).addP p_kindMethod).addP p_named).addP p_letterT).add f_class).add f_kindOf).add f_constant).add f_does).add f_must).add f_ref).add f_push).add f_pop
theorem kindH_len {s : Str} {h : AHand} {r : ATy × AHand} (e : kindH s h = some r) : s.length < 1099511627776 := by
  unfold kindH at e
  split at e
  · assumption
  · cases e
theorem cut_I : cutAt [62, 73] 62 = ([], [73], true) := by decide
theorem cut_J : cutAt [62, 74] 62 = ([], [74], true) := by decide
theorem cut_RI : cutAt [82, 62, 73] 62 = ([82], [73], true) := by decide
theorem does_I (h : AHand) : doesO [] [73] h = pushO [tI] h := by
  show (pushO [tI] h).bind (fun h => some h) = _
  cases pushO [tI] h <;> rfl
theorem does_J (h : AHand) : doesO [] [74] h = pushO [tJ] h := by
  show (pushO [tJ] h).bind (fun h => some h) = _
  cases pushO [tJ] h <;> rfl
set_option maxHeartbeats 4000000 in
theorem f_bound : SoundF Tryz.prog gl 48 (handS hBound) := by
  refine hand_of_wk' (ok_bound.b [56, 64, 71, 102, 109, 126, 132, 149, 155, 166, 180]) Tryz.func48 rfl rfl fun av q hh r h' hm => ?_
  unfold hBound at hm
  split at hm
  · rename_i cv iv
    obtain ⟨c, hc, hm2⟩ := Option.bind_eq_some_iff.1 hm
    have := cClass.ed _ _ hc
    subst this
    obtain ⟨i, hi, hm3⟩ := Option.bind_eq_some_iff.1 hm2
    have := cInstr.ed _ _ hi
    subst this
    split at hm3
    · rename_i hpool
      obtain ⟨⟨rb, h1⟩, he, hr⟩ := Option.map_eq_some_iff.1 hm3
      cases hr
      clear hm hm2 hm3 hc hi
      refine ⟨rfl, fun p0 p1 p2 p3 p4 hc G0 => ?_⟩
      obtain ⟨iat, op, a, b, cs⟩ := i
      simp only at he
      unfold boundO at he
      simp [Tryz.f48, entry]
      refine br_dec (fun h => ?_) (fun h18 => ?_)
      · rw [if_pos h] at he
        subst h
        generalize hk : constH c.pool a 3 hh = kk at he
        obtain ⟨⟨xt, xn, xc, xm, xy⟩, hx⟩ := kk
        obtain ⟨h2, q1, q2⟩ := Option.map_eq_some_iff.1 he
        cases q2
        simp [handS_eq, hConst, hDoes, hpool, namedT, hk, cut_I, asciiT, does_I, q1]
      rw [if_neg h18] at he
      simp
      refine br_dec (fun h => ?_) (fun h20 => ?_)
      · rw [if_pos h] at he
        subst h
        generalize hk : constH c.pool a 5 hh = kk at he
        obtain ⟨⟨xt, xn, xc, xm, xy⟩, hx⟩ := kk
        obtain ⟨h2, q1, q2⟩ := Option.map_eq_some_iff.1 he
        cases q2
        simp [handS_eq, hConst, hDoes, hpool, namedT, hk, cut_J, asciiT, does_J, q1]
      rw [if_neg h20] at he
      simp
      refine br_dec (fun h => ?_) (fun h178 => ?_)
      · rw [if_pos h] at he
        subst h
        generalize hk : constH c.pool a 9 hh = kk at he
        obtain ⟨⟨xt, xn, xc, xm, xy⟩, hx⟩ := kk
        obtain ⟨⟨t, h3⟩, q3, q4⟩ := Option.bind_eq_some_iff.1 he
        obtain ⟨h2, q1, q2⟩ := Option.map_eq_some_iff.1 q4
        cases q2
        simp [handS_eq, hConst, hKind, hPush, hpool, namedT, hk, q3, q1]
      rw [if_neg h178] at he
      simp
      refine br_dec (fun h => ?_) (fun h179 => ?_)
      · rw [if_pos h] at he
        subst h
        generalize hk : constH c.pool a 9 hh = kk at he
        obtain ⟨⟨xt, xn, xc, xm, xy⟩, hx⟩ := kk
        obtain ⟨⟨t, h3⟩, q3, q4⟩ := Option.bind_eq_some_iff.1 he
        obtain ⟨h2, q1, q2⟩ := Option.map_eq_some_iff.1 q4
        cases q2
        simp [handS_eq, hConst, hKind, hPop, popO_one, hpool, namedT, hk, q3, q1]
      rw [if_neg h179] at he
      simp
      refine br_dec (fun h => ?_) (fun h180 => ?_)
      · rw [if_pos h] at he
        subst h
        generalize hk : constH c.pool a 9 hh = kk at he
        obtain ⟨⟨xt, xn, xc, xm, xy⟩, hx⟩ := kk
        obtain ⟨⟨t, h3⟩, q3, q4⟩ := Option.bind_eq_some_iff.1 he
        obtain ⟨h4, q5, q6⟩ := Option.bind_eq_some_iff.1 q4
        unfold namedT at q5
        obtain ⟨h2, q1, q2⟩ := Option.map_eq_some_iff.1 q6
        cases q2
        simp [handS_eq, hConst, hKind, hPush, hPop, popO_one, hpool, namedT, hk, q3, q5, q1]
      rw [if_neg h180] at he
      simp
      refine br_dec (fun h => ?_) (fun h181 => ?_)
      · rw [if_pos h] at he
        subst h
        generalize hk : constH c.pool a 9 hh = kk at he
        obtain ⟨⟨xt, xn, xc, xm, xy⟩, hx⟩ := kk
        obtain ⟨⟨t, h3⟩, q3, q4⟩ := Option.bind_eq_some_iff.1 he
        obtain ⟨h4, q5, q6⟩ := Option.bind_eq_some_iff.1 q4
        obtain ⟨h2, q1, q2⟩ := Option.map_eq_some_iff.1 q6
        cases q2
        unfold namedT at q1
        simp [handS_eq, hConst, hKind, hPop, popO_one, hpool, namedT, hk, q3, q5, q1]
      rw [if_neg h181] at he
      simp
      refine br_dec (fun h => ?_) (fun h182 => ?_)
      · rw [if_pos (.inl h)] at he
        subst h
        generalize hk : constH c.pool a 10 hh = kk at he
        obtain ⟨⟨xt, xn, xc, xm, xy⟩, hx⟩ := kk
        simp only at he
        split at he
        · rename_i hl
          cases hmth : method xy with
          | mk ml mr =>
            obtain ⟨⟨mk, mn⟩, me⟩ := mr
            rw [hmth] at he
            simp only at he
            obtain ⟨h3, q3, q4⟩ := Option.bind_eq_some_iff.1 he
            have hml : ml.length < 1099511627776 := by
              have := method_len xy
              rw [hmth] at this
              simp only at this
              omega
            simp only [show (182 : Int) ≠ 184 by decide, if_false] at q4
            obtain ⟨h4, q7, q8⟩ := Option.bind_eq_some_iff.1 q4
            unfold namedT at q7
            by_cases h0 : mk = 0
            · rw [if_pos h0] at q8
              cases q8
              simp [handS_eq, hConst, hPop, hMust, popO_one, hpool, namedT, hk, hl, hmth, hml, q3, h0, q7]
            · rw [if_neg h0] at q8
              obtain ⟨h5, q5, q6⟩ := Option.map_eq_some_iff.1 q8
              cases q6
              simp [handS_eq, hConst, hPush, hPop, hMust, popO_one, hpool, namedT, hk, hl, hmth, hml, q3, h0, q7, q5]
        · cases he
      simp
      refine br_dec (fun h => ?_) (fun h183 => ?_)
      · rw [if_pos (.inr (.inl h))] at he
        subst h
        generalize hk : constH c.pool a 10 hh = kk at he
        obtain ⟨⟨xt, xn, xc, xm, xy⟩, hx⟩ := kk
        simp only at he
        split at he
        · rename_i hl
          cases hmth : method xy with
          | mk ml mr =>
            obtain ⟨⟨mk, mn⟩, me⟩ := mr
            rw [hmth] at he
            simp only at he
            obtain ⟨h3, q3, q4⟩ := Option.bind_eq_some_iff.1 he
            have hml : ml.length < 1099511627776 := by
              have := method_len xy
              rw [hmth] at this
              simp only at this
              omega
            simp only [show (183 : Int) ≠ 184 by decide, if_false] at q4
            obtain ⟨h4, q7, q8⟩ := Option.bind_eq_some_iff.1 q4
            unfold namedT at q7
            by_cases h0 : mk = 0
            · rw [if_pos h0] at q8
              cases q8
              simp [handS_eq, hConst, hPop, hMust, popO_one, hpool, namedT, hk, hl, hmth, hml, q3, h0, q7]
            · rw [if_neg h0] at q8
              obtain ⟨h5, q5, q6⟩ := Option.map_eq_some_iff.1 q8
              cases q6
              simp [handS_eq, hConst, hPush, hPop, hMust, popO_one, hpool, namedT, hk, hl, hmth, hml, q3, h0, q7, q5]
        · cases he
      simp
      refine br_dec (fun h => ?_) (fun h184 => ?_)
      · rw [if_pos (.inr (.inr h))] at he
        subst h
        generalize hk : constH c.pool a 10 hh = kk at he
        obtain ⟨⟨xt, xn, xc, xm, xy⟩, hx⟩ := kk
        simp only at he
        split at he
        · rename_i hl
          cases hmth : method xy with
          | mk ml mr =>
            obtain ⟨⟨mk, mn⟩, me⟩ := mr
            rw [hmth] at he
            simp only at he
            obtain ⟨h3, q3, q4⟩ := Option.bind_eq_some_iff.1 he
            have hml : ml.length < 1099511627776 := by
              have := method_len xy
              rw [hmth] at this
              simp only at this
              omega
            simp only [if_true, Option.bind_some] at q4
            by_cases h0 : mk = 0
            · rw [if_pos h0] at q4
              cases q4
              simp [handS_eq, hConst, hPop, hMust, hpool, namedT, hk, hl, hmth, hml, q3, h0]
            · rw [if_neg h0] at q4
              obtain ⟨h5, q5, q6⟩ := Option.map_eq_some_iff.1 q4
              cases q6
              simp [handS_eq, hConst, hPush, hPop, hMust, hpool, namedT, hk, hl, hmth, hml, q3, h0, q5]
        · cases he
      rw [if_neg (by rintro (h | h | h) <;> contradiction)] at he
      simp
      refine br_dec (fun h => ?_) (fun h187 => ?_)
      · rw [if_pos h] at he
        subst h
        obtain ⟨⟨s, h3⟩, q3, q4⟩ := Option.bind_eq_some_iff.1 he
        obtain ⟨⟨t, h4⟩, q5, q6⟩ := Option.bind_eq_some_iff.1 q4
        obtain ⟨h2, q1, q2⟩ := Option.map_eq_some_iff.1 q6
        cases q2
        simp [handS_eq, hKind, hClass, hPush, hMust, hpool, namedT, q3, q5, q1]
      rw [if_neg h187] at he
      simp
      refine br_dec (fun h => ?_) (fun h188 => ?_)
      · rw [if_pos h] at he
        subst h
        obtain ⟨h3, q3, q4⟩ := Option.bind_eq_some_iff.1 he
        unfold tI at q3
        obtain ⟨h2, q1, q2⟩ := Option.map_eq_some_iff.1 q4
        cases q2
        by_cases a8 : a = 8
        · subst a8
          simp at q1
          simp [handS_eq, hPush, hPop, hMust, popO_one, namedT, letterT_I, q3, q1]
        by_cases a10 : a = 10
        · subst a10
          simp at q1
          simp [handS_eq, hPush, hPop, hMust, popO_one, namedT, letterT_I, q3, q1]
        by_cases a11 : a = 11
        · subst a11
          simp at q1
          simp [handS_eq, hPush, hPop, hMust, popO_one, namedT, letterT_I, q3, q1]
        have b8 : ¬ 8 = a := fun e => a8 e.symm
        have b10 : ¬ 10 = a := fun e => a10 e.symm
        have b11 : ¬ 11 = a := fun e => a11 e.symm
        simp [a8, a10, a11] at q1
        simp [handS_eq, hPush, hPop, hMust, popO_one, namedT, letterT_I, q3, q1, b8, b10, b11]
      rw [if_neg h188] at he
      simp
      refine br_dec (fun h => ?_) (fun h189 => ?_)
      · rw [if_pos h] at he
        subst h
        obtain ⟨h5, q7, q8⟩ := Option.bind_eq_some_iff.1 he
        unfold tI at q7
        obtain ⟨⟨s, h3⟩, q3, q4⟩ := Option.bind_eq_some_iff.1 q8
        obtain ⟨⟨t, h4⟩, q5, q6⟩ := Option.bind_eq_some_iff.1 q4
        obtain ⟨h2, q1, q2⟩ := Option.map_eq_some_iff.1 q6
        cases q2
        have hsl : 1 + s.length ≤ 4611686018427387904 := by
          have := kindH_len q5
          simp at this
          omega
        simp [handS_eq, hKind, hClass, hPush, hPop, popO_one, hpool, namedT, letterT_I, q7, q3, q5, q1, hsl]
      rw [if_neg h189] at he
      simp
      refine br_dec (fun h => ?_) (fun h192 => ?_)
      · rw [if_pos h] at he
        subst h
        obtain ⟨⟨t0, h5⟩, q7, q8⟩ := Option.bind_eq_some_iff.1 he
        obtain ⟨⟨s, h3⟩, q3, q4⟩ := Option.bind_eq_some_iff.1 q8
        obtain ⟨⟨t, h4⟩, q5, q6⟩ := Option.bind_eq_some_iff.1 q4
        obtain ⟨h2, q1, q2⟩ := Option.map_eq_some_iff.1 q6
        cases q2
        simp [handS_eq, hKind, hClass, hPush, hRef, hpool, namedT, q7, q3, q5, q1]
      rw [if_neg h192] at he
      simp
      refine br_dec (fun h => ?_) (fun h193 => ?_)
      · rw [if_pos h] at he
        subst h
        obtain ⟨⟨s, h3⟩, q3, q4⟩ := Option.bind_eq_some_iff.1 he
        obtain ⟨h2, q1, q2⟩ := Option.map_eq_some_iff.1 q4
        cases q2
        simp [handS_eq, hClass, hDoes, hpool, namedT, q3, cut_RI, asciiT, q1]
      rw [if_neg h193] at he
      simp
      cases he
      simp
    · cases hm3
  · cases hm
end Go.Proofs.YthchohjhcjkgjaaGreatDoor.Lift
namespace Go.Proofs.YthchohjhcjkgjaaGreatDoor.Lift
open Go
set_option maxRecDepth 100000

def plPairs : List (Int × Int) := [(26, 21), (30, 22), (42, 25), (59, 54), (63, 55), (75, 58)]
def plStep (op : Int) (x p : Int × Int) : Int × Int := if p.1 ≤ op ∧ op < p.1 + 4 then (p.2, op - p.1) else x
def plain0 (op a : Int) : Int × Int := if 2 ≤ op ∧ op ≤ 8 then (17, op - 3) else if op = 10 then (9, 1) else if op = 16 then (17, a) else if op = 19 then (18, a) else (op, a)
theorem plain_fold (op a : Int) : plPairs.foldl (plStep op) (plain0 op a) = plainO op a := by
  simp only [plPairs, List.foldl_cons, List.foldl_nil, plStep, plain0, plainO]
  by_cases h1 : 2 ≤ op ∧ op ≤ 8
  · rw [if_neg (by omega), if_neg (by omega), if_neg (by omega), if_neg (by omega), if_neg (by omega), if_neg (by omega), if_pos h1, if_pos h1]
  by_cases h2 : op = 10
  · rw [if_neg (by omega), if_neg (by omega), if_neg (by omega), if_neg (by omega), if_neg (by omega), if_neg (by omega), if_neg h1, if_pos h2, if_neg h1, if_pos h2]
  by_cases h3 : op = 16
  · rw [if_neg (by omega), if_neg (by omega), if_neg (by omega), if_neg (by omega), if_neg (by omega), if_neg (by omega), if_neg h1, if_neg h2, if_pos h3, if_neg h1, if_neg h2, if_pos h3]
  by_cases h4 : op = 19
  · rw [if_neg (by omega), if_neg (by omega), if_neg (by omega), if_neg (by omega), if_neg (by omega), if_neg (by omega), if_neg h1, if_neg h2, if_neg h3, if_pos h4, if_neg h1, if_neg h2, if_neg h3, if_pos h4]
  simp only [if_neg h1, if_neg h2, if_neg h3, if_neg h4]
  by_cases h5 : 26 ≤ op ∧ op < 30
  · rw [if_neg (by omega), if_neg (by omega), if_neg (by omega), if_neg (by omega), if_neg (by omega), if_pos (by omega), if_pos (by omega)]
  by_cases h6 : 30 ≤ op ∧ op < 34
  · rw [if_neg (by omega), if_neg (by omega), if_neg (by omega), if_neg (by omega), if_pos (by omega), if_neg (by omega), if_pos (by omega)]
  by_cases h7 : 42 ≤ op ∧ op < 46
  · rw [if_neg (by omega), if_neg (by omega), if_neg (by omega), if_pos (by omega), if_neg (by omega), if_neg (by omega), if_pos (by omega)]
  by_cases h8 : 59 ≤ op ∧ op < 63
  · rw [if_neg (by omega), if_neg (by omega), if_pos (by omega), if_neg (by omega), if_neg (by omega), if_neg (by omega), if_pos (by omega)]
  by_cases h9 : 63 ≤ op ∧ op < 67
  · rw [if_neg (by omega), if_pos (by omega), if_neg (by omega), if_neg (by omega), if_neg (by omega), if_neg (by omega), if_pos (by omega)]
  by_cases h10 : 75 ≤ op ∧ op < 79
  · rw [if_pos (by omega), if_neg (by omega), if_neg (by omega), if_neg (by omega), if_neg (by omega), if_neg (by omega), if_pos (by omega)]
  rw [if_neg (by omega), if_neg (by omega), if_neg (by omega), if_neg (by omega), if_neg (by omega), if_neg (by omega), if_neg (by omega), if_neg (by omega), if_neg (by omega), if_neg (by omega), if_neg (by omega), if_neg (by omega)]
def pairAV (p : Int × Int) : AV := .agg [.int .i64 p.1, .int .i64 p.2]
@[simp] theorem blwL_pairs (k : Nat) : blwL k (plPairs.map pairAV) = true := rfl
theorem plPairs_get {k : Nat} (h : k < 6) : ∃ p, plPairs[k]? = some p ∧ plPairs.drop k = p :: plPairs.drop (k + 1) ∧ 0 ≤ p.1 ∧ p.1 < 100 := by
  have hl : k < plPairs.length := h
  refine ⟨plPairs[k], List.getElem?_eq_getElem hl, List.drop_eq_getElem_cons hl, ?_⟩
  have : ∀ p ∈ plPairs, 0 ≤ p.1 ∧ p.1 < 100 := by decide
  exact this _ (List.getElem_mem hl)
set_option maxHeartbeats 4000000 in
theorem p_Plain : SoundP Tryz.prog gl 43 (fn1 cInstr encInstr fun i => some (plainT i)) := by
  refine soundP_of_wk (okX_nil.b [38]) mixed Tryz.func43 rfl rfl fun args r h G0 => ?_
  obtain ⟨i, e, rfl, he, rfl⟩ := fn1_inv h
  cases he
  clear h
  obtain ⟨iat, op, a, b, cs⟩ := i
  by_cases h1 : 2 ≤ op
  · by_cases h2 : op ≤ 8
    · have wop := wrap_i64 (show (-9223372036854775808 : Int) ≤ op - 3 by omega) (by omega)
      simp [Tryz.f43, entry, h1, h2, wop]
      refine lp_of (okX_nil.b [38]) mixed (fun (x : Nat × Int × Int) => ⟨65, frL [(1, .ptr 0 0 0 0), (2, .ptr 1 0 0 0), (3, .int .i64 op), (38, .sl (plPairs.map pairAV)), (39, .int .i64 6), (40, .int .i64 x.1)], [.row 5 0 0 [.agg [.int .i64 iat, .int .i64 x.2.1, .int .i64 x.2.2, .int .i64 b, .sl (cs.map encCase)]], .row 5 0 0 [.agg [.int .i64 0, .int .i64 0, .int .i64 0, .int .i64 0, .snil]]]⟩)
        (fun x => x.1 ≤ 6 ∧ (plPairs.drop x.1).foldl (plStep op) x.2 = plainO op a) (fun x => 6 - x.1) (0, 17, op - 3) ⟨by simp, by rw [← plain_fold op a, show plain0 op a = (17, op - 3) from if_pos ⟨h1, h2⟩]; rfl⟩ (weak_frL rfl rfl (by simp [plPairs, pairAV])) ?_
      rintro ⟨k, o1, a1⟩ ⟨hk, hf⟩
      simp only at hk hf ⊢
      by_cases h6 : k < 6
      · obtain ⟨⟨lo, to⟩, hp, hd, hlo, hhi⟩ := plPairs_get h6
        simp only at hlo hhi
        rw [hd, List.foldl_cons] at hf
        have w4 := wrap_i64 (show (-9223372036854775808 : Int) ≤ lo + 4 by omega) (by omega)
        have wk1 := wrap_i64 (show (-9223372036854775808 : Int) ≤ (k : Int) + 1 by omega) (by omega)
        have h6' : ((k : Int) < 6) = True := eq_true (by omega)
        by_cases g1 : lo ≤ op
        · by_cases g2 : op < lo + 4
          · have hs : plStep op (o1, a1) (lo, to) = (to, op - lo) := if_pos ⟨g1, g2⟩
            rw [hs] at hf
            have wd := wrap_i64 (show (-9223372036854775808 : Int) ≤ op - lo by omega) (by omega)
            simp [h6', hp, pairAV, g1, g2, w4]
            refine dk_ofL [(3, .tup [.ptr 2 0 0 0, .int .i64 0]), (4, .ptr 2 0 0 0)] (by decide) ?_
            simp [List.lookup, wd]
            refine sd_ofL rfl ?_ ?_
            · simp [steadyL, ldEq, blind]
            simp [List.lookup]
            refine sd_of (by decide) ?_
            simp [wk1]
            exact nextQ_less (k + 1, to, op - lo) ⟨by simp only; omega, hf⟩ (by simp only; omega) (less_take fz_gl G0.2 rfl rfl (by simp) (by simp))
          · have hs : plStep op (o1, a1) (lo, to) = (o1, a1) := if_neg (fun h => g2 h.2)
            rw [hs] at hf
            simp [h6', hp, pairAV, g1, g2, w4, wk1]
            exact nextQ_less (k + 1, o1, a1) ⟨by simp only; omega, hf⟩ (by simp only; omega) (less_take fz_gl G0.2 rfl rfl (by simp) (by simp))
        · have hs : plStep op (o1, a1) (lo, to) = (o1, a1) := if_neg (fun h => g1 h.1)
          rw [hs] at hf
          simp [h6', hp, pairAV, g1, wk1]
          exact nextQ_less (k + 1, o1, a1) ⟨by simp only; omega, hf⟩ (by simp only; omega) (less_take fz_gl G0.2 rfl rfl (by simp) (by simp))
      · have h6' : ((k : Int) < 6) = False := eq_false (by omega)
        have hk6 : k = 6 := by omega
        subst hk6
        have hf' : (o1, a1) = plainO op a := hf
        simp
        exact finS_eq (by simp [plainT, ← hf']) (by simp)
    · by_cases h10 : op = 10
      · subst h10
        simp [Tryz.f43, entry]
        refine lp_of (okX_nil.b [38]) mixed (fun (x : Nat × Int × Int) => ⟨65, frL [(1, .ptr 0 0 0 0), (2, .ptr 1 0 0 0), (3, .int .i64 10), (38, .sl (plPairs.map pairAV)), (39, .int .i64 6), (40, .int .i64 x.1)], [.row 5 0 0 [.agg [.int .i64 iat, .int .i64 x.2.1, .int .i64 x.2.2, .int .i64 b, .sl (cs.map encCase)]], .row 5 0 0 [.agg [.int .i64 0, .int .i64 0, .int .i64 0, .int .i64 0, .snil]]]⟩)
          (fun x => x.1 ≤ 6 ∧ (plPairs.drop x.1).foldl (plStep 10) x.2 = plainO 10 a) (fun x => 6 - x.1) (0, 9, 1) ⟨by simp, by rw [← plain_fold 10 a, show plain0 10 a = (9, 1) from rfl]; rfl⟩ (weak_frL rfl rfl (by simp [plPairs, pairAV])) ?_
        rintro ⟨k, o1, a1⟩ ⟨hk, hf⟩
        simp only at hk hf ⊢
        by_cases h6 : k < 6
        · obtain ⟨⟨lo, to⟩, hp, hd, hlo, hhi⟩ := plPairs_get h6
          simp only at hlo hhi
          rw [hd, List.foldl_cons] at hf
          have w4 := wrap_i64 (show (-9223372036854775808 : Int) ≤ lo + 4 by omega) (by omega)
          have wk1 := wrap_i64 (show (-9223372036854775808 : Int) ≤ (k : Int) + 1 by omega) (by omega)
          have h6' : ((k : Int) < 6) = True := eq_true (by omega)
          by_cases g1 : lo ≤ 10
          · by_cases g2 : 10 < lo + 4
            · have hs : plStep 10 (o1, a1) (lo, to) = (to, 10 - lo) := if_pos ⟨g1, g2⟩
              rw [hs] at hf
              have wd := wrap_i64 (show (-9223372036854775808 : Int) ≤ 10 - lo by omega) (by omega)
              simp [h6', hp, pairAV, g1, g2, w4]
              refine dk_ofL [(3, .tup [.ptr 2 0 0 0, .int .i64 0]), (4, .ptr 2 0 0 0)] (by decide) ?_
              simp [List.lookup, wd]
              refine sd_ofL rfl ?_ ?_
              · simp [steadyL, ldEq, blind]
              simp [List.lookup]
              refine sd_of (by decide) ?_
              simp [wk1]
              exact nextQ_less (k + 1, to, 10 - lo) ⟨by simp only; omega, hf⟩ (by simp only; omega) (less_take fz_gl G0.2 rfl rfl (by simp) (by simp))
            · have hs : plStep 10 (o1, a1) (lo, to) = (o1, a1) := if_neg (fun h => g2 h.2)
              rw [hs] at hf
              simp [h6', hp, pairAV, g1, g2, w4, wk1]
              exact nextQ_less (k + 1, o1, a1) ⟨by simp only; omega, hf⟩ (by simp only; omega) (less_take fz_gl G0.2 rfl rfl (by simp) (by simp))
          · have hs : plStep 10 (o1, a1) (lo, to) = (o1, a1) := if_neg (fun h => g1 h.1)
            rw [hs] at hf
            simp [h6', hp, pairAV, g1, wk1]
            exact nextQ_less (k + 1, o1, a1) ⟨by simp only; omega, hf⟩ (by simp only; omega) (less_take fz_gl G0.2 rfl rfl (by simp) (by simp))
        · have h6' : ((k : Int) < 6) = False := eq_false (by omega)
          have hk6 : k = 6 := by omega
          subst hk6
          have hf' : (o1, a1) = plainO 10 a := hf
          simp
          exact finS_eq (by simp [plainT, ← hf']) (by simp)
      by_cases h16 : op = 16
      · subst h16
        simp [Tryz.f43, entry]
        refine lp_of (okX_nil.b [38]) mixed (fun (x : Nat × Int × Int) => ⟨65, frL [(1, .ptr 0 0 0 0), (2, .ptr 1 0 0 0), (3, .int .i64 16), (38, .sl (plPairs.map pairAV)), (39, .int .i64 6), (40, .int .i64 x.1)], [.row 5 0 0 [.agg [.int .i64 iat, .int .i64 x.2.1, .int .i64 x.2.2, .int .i64 b, .sl (cs.map encCase)]], .row 5 0 0 [.agg [.int .i64 0, .int .i64 0, .int .i64 0, .int .i64 0, .snil]]]⟩)
          (fun x => x.1 ≤ 6 ∧ (plPairs.drop x.1).foldl (plStep 16) x.2 = plainO 16 a) (fun x => 6 - x.1) (0, 17, a) ⟨by simp, by rw [← plain_fold 16 a, show plain0 16 a = (17, a) from rfl]; rfl⟩ (weak_frL rfl rfl (by simp [plPairs, pairAV])) ?_
        rintro ⟨k, o1, a1⟩ ⟨hk, hf⟩
        simp only at hk hf ⊢
        by_cases h6 : k < 6
        · obtain ⟨⟨lo, to⟩, hp, hd, hlo, hhi⟩ := plPairs_get h6
          simp only at hlo hhi
          rw [hd, List.foldl_cons] at hf
          have w4 := wrap_i64 (show (-9223372036854775808 : Int) ≤ lo + 4 by omega) (by omega)
          have wk1 := wrap_i64 (show (-9223372036854775808 : Int) ≤ (k : Int) + 1 by omega) (by omega)
          have h6' : ((k : Int) < 6) = True := eq_true (by omega)
          by_cases g1 : lo ≤ 16
          · by_cases g2 : 16 < lo + 4
            · have hs : plStep 16 (o1, a1) (lo, to) = (to, 16 - lo) := if_pos ⟨g1, g2⟩
              rw [hs] at hf
              have wd := wrap_i64 (show (-9223372036854775808 : Int) ≤ 16 - lo by omega) (by omega)
              simp [h6', hp, pairAV, g1, g2, w4]
              refine dk_ofL [(3, .tup [.ptr 2 0 0 0, .int .i64 0]), (4, .ptr 2 0 0 0)] (by decide) ?_
              simp [List.lookup, wd]
              refine sd_ofL rfl ?_ ?_
              · simp [steadyL, ldEq, blind]
              simp [List.lookup]
              refine sd_of (by decide) ?_
              simp [wk1]
              exact nextQ_less (k + 1, to, 16 - lo) ⟨by simp only; omega, hf⟩ (by simp only; omega) (less_take fz_gl G0.2 rfl rfl (by simp) (by simp))
            · have hs : plStep 16 (o1, a1) (lo, to) = (o1, a1) := if_neg (fun h => g2 h.2)
              rw [hs] at hf
              simp [h6', hp, pairAV, g1, g2, w4, wk1]
              exact nextQ_less (k + 1, o1, a1) ⟨by simp only; omega, hf⟩ (by simp only; omega) (less_take fz_gl G0.2 rfl rfl (by simp) (by simp))
          · have hs : plStep 16 (o1, a1) (lo, to) = (o1, a1) := if_neg (fun h => g1 h.1)
            rw [hs] at hf
            simp [h6', hp, pairAV, g1, wk1]
            exact nextQ_less (k + 1, o1, a1) ⟨by simp only; omega, hf⟩ (by simp only; omega) (less_take fz_gl G0.2 rfl rfl (by simp) (by simp))
        · have h6' : ((k : Int) < 6) = False := eq_false (by omega)
          have hk6 : k = 6 := by omega
          subst hk6
          have hf' : (o1, a1) = plainO 16 a := hf
          simp
          exact finS_eq (by simp [plainT, ← hf']) (by simp)
      by_cases h19 : op = 19
      · subst h19
        simp [Tryz.f43, entry]
        refine lp_of (okX_nil.b [38]) mixed (fun (x : Nat × Int × Int) => ⟨65, frL [(1, .ptr 0 0 0 0), (2, .ptr 1 0 0 0), (3, .int .i64 19), (38, .sl (plPairs.map pairAV)), (39, .int .i64 6), (40, .int .i64 x.1)], [.row 5 0 0 [.agg [.int .i64 iat, .int .i64 x.2.1, .int .i64 x.2.2, .int .i64 b, .sl (cs.map encCase)]], .row 5 0 0 [.agg [.int .i64 0, .int .i64 0, .int .i64 0, .int .i64 0, .snil]]]⟩)
          (fun x => x.1 ≤ 6 ∧ (plPairs.drop x.1).foldl (plStep 19) x.2 = plainO 19 a) (fun x => 6 - x.1) (0, 18, a) ⟨by simp, by rw [← plain_fold 19 a, show plain0 19 a = (18, a) from rfl]; rfl⟩ (weak_frL rfl rfl (by simp [plPairs, pairAV])) ?_
        rintro ⟨k, o1, a1⟩ ⟨hk, hf⟩
        simp only at hk hf ⊢
        by_cases h6 : k < 6
        · obtain ⟨⟨lo, to⟩, hp, hd, hlo, hhi⟩ := plPairs_get h6
          simp only at hlo hhi
          rw [hd, List.foldl_cons] at hf
          have w4 := wrap_i64 (show (-9223372036854775808 : Int) ≤ lo + 4 by omega) (by omega)
          have wk1 := wrap_i64 (show (-9223372036854775808 : Int) ≤ (k : Int) + 1 by omega) (by omega)
          have h6' : ((k : Int) < 6) = True := eq_true (by omega)
          by_cases g1 : lo ≤ 19
          · by_cases g2 : 19 < lo + 4
            · have hs : plStep 19 (o1, a1) (lo, to) = (to, 19 - lo) := if_pos ⟨g1, g2⟩
              rw [hs] at hf
              have wd := wrap_i64 (show (-9223372036854775808 : Int) ≤ 19 - lo by omega) (by omega)
              simp [h6', hp, pairAV, g1, g2, w4]
              refine dk_ofL [(3, .tup [.ptr 2 0 0 0, .int .i64 0]), (4, .ptr 2 0 0 0)] (by decide) ?_
              simp [List.lookup, wd]
              refine sd_ofL rfl ?_ ?_
              · simp [steadyL, ldEq, blind]
              simp [List.lookup]
              refine sd_of (by decide) ?_
              simp [wk1]
              exact nextQ_less (k + 1, to, 19 - lo) ⟨by simp only; omega, hf⟩ (by simp only; omega) (less_take fz_gl G0.2 rfl rfl (by simp) (by simp))
            · have hs : plStep 19 (o1, a1) (lo, to) = (o1, a1) := if_neg (fun h => g2 h.2)
              rw [hs] at hf
              simp [h6', hp, pairAV, g1, g2, w4, wk1]
              exact nextQ_less (k + 1, o1, a1) ⟨by simp only; omega, hf⟩ (by simp only; omega) (less_take fz_gl G0.2 rfl rfl (by simp) (by simp))
          · have hs : plStep 19 (o1, a1) (lo, to) = (o1, a1) := if_neg (fun h => g1 h.1)
            rw [hs] at hf
            simp [h6', hp, pairAV, g1, wk1]
            exact nextQ_less (k + 1, o1, a1) ⟨by simp only; omega, hf⟩ (by simp only; omega) (less_take fz_gl G0.2 rfl rfl (by simp) (by simp))
        · have h6' : ((k : Int) < 6) = False := eq_false (by omega)
          have hk6 : k = 6 := by omega
          subst hk6
          have hf' : (o1, a1) = plainO 19 a := hf
          simp
          exact finS_eq (by simp [plainT, ← hf']) (by simp)
      have hp0 : plain0 op a = (op, a) := by unfold plain0; rw [if_neg (by omega), if_neg h10, if_neg h16, if_neg h19]
      simp [Tryz.f43, entry, h1, h2, h10, h16, h19]
      refine lp_of (okX_nil.b [38]) mixed (fun (x : Nat × Int × Int) => ⟨65, frL [(1, .ptr 0 0 0 0), (2, .ptr 1 0 0 0), (3, .int .i64 op), (38, .sl (plPairs.map pairAV)), (39, .int .i64 6), (40, .int .i64 x.1)], [.row 5 0 0 [.agg [.int .i64 iat, .int .i64 x.2.1, .int .i64 x.2.2, .int .i64 b, .sl (cs.map encCase)]], .row 5 0 0 [.agg [.int .i64 0, .int .i64 0, .int .i64 0, .int .i64 0, .snil]]]⟩)
        (fun x => x.1 ≤ 6 ∧ (plPairs.drop x.1).foldl (plStep op) x.2 = plainO op a) (fun x => 6 - x.1) (0, op, a) ⟨by simp, by rw [← plain_fold op a, show plain0 op a = (op, a) from hp0]; rfl⟩ (weak_frL rfl rfl (by simp [plPairs, pairAV])) ?_
      rintro ⟨k, o1, a1⟩ ⟨hk, hf⟩
      simp only at hk hf ⊢
      by_cases h6 : k < 6
      · obtain ⟨⟨lo, to⟩, hp, hd, hlo, hhi⟩ := plPairs_get h6
        simp only at hlo hhi
        rw [hd, List.foldl_cons] at hf
        have w4 := wrap_i64 (show (-9223372036854775808 : Int) ≤ lo + 4 by omega) (by omega)
        have wk1 := wrap_i64 (show (-9223372036854775808 : Int) ≤ (k : Int) + 1 by omega) (by omega)
        have h6' : ((k : Int) < 6) = True := eq_true (by omega)
        by_cases g1 : lo ≤ op
        · by_cases g2 : op < lo + 4
          · have hs : plStep op (o1, a1) (lo, to) = (to, op - lo) := if_pos ⟨g1, g2⟩
            rw [hs] at hf
            have wd := wrap_i64 (show (-9223372036854775808 : Int) ≤ op - lo by omega) (by omega)
            simp [h6', hp, pairAV, g1, g2, w4]
            refine dk_ofL [(3, .tup [.ptr 2 0 0 0, .int .i64 0]), (4, .ptr 2 0 0 0)] (by decide) ?_
            simp [List.lookup, wd]
            refine sd_ofL rfl ?_ ?_
            · simp [steadyL, ldEq, blind]
            simp [List.lookup]
            refine sd_of (by decide) ?_
            simp [wk1]
            exact nextQ_less (k + 1, to, op - lo) ⟨by simp only; omega, hf⟩ (by simp only; omega) (less_take fz_gl G0.2 rfl rfl (by simp) (by simp))
          · have hs : plStep op (o1, a1) (lo, to) = (o1, a1) := if_neg (fun h => g2 h.2)
            rw [hs] at hf
            simp [h6', hp, pairAV, g1, g2, w4, wk1]
            exact nextQ_less (k + 1, o1, a1) ⟨by simp only; omega, hf⟩ (by simp only; omega) (less_take fz_gl G0.2 rfl rfl (by simp) (by simp))
        · have hs : plStep op (o1, a1) (lo, to) = (o1, a1) := if_neg (fun h => g1 h.1)
          rw [hs] at hf
          simp [h6', hp, pairAV, g1, wk1]
          exact nextQ_less (k + 1, o1, a1) ⟨by simp only; omega, hf⟩ (by simp only; omega) (less_take fz_gl G0.2 rfl rfl (by simp) (by simp))
      · have h6' : ((k : Int) < 6) = False := eq_false (by omega)
        have hk6 : k = 6 := by omega
        subst hk6
        have hf' : (o1, a1) = plainO op a := hf
        simp
        exact finS_eq (by simp [plainT, ← hf']) (by simp)
  · have h10 : ¬ op = 10 := by omega
    have h16 : ¬ op = 16 := by omega
    have h19 : ¬ op = 19 := by omega
    have hp0 : plain0 op a = (op, a) := by unfold plain0; rw [if_neg (by omega), if_neg h10, if_neg h16, if_neg h19]
    simp [Tryz.f43, entry, h1, h10, h16, h19]
    refine lp_of (okX_nil.b [38]) mixed (fun (x : Nat × Int × Int) => ⟨65, frL [(1, .ptr 0 0 0 0), (2, .ptr 1 0 0 0), (3, .int .i64 op), (38, .sl (plPairs.map pairAV)), (39, .int .i64 6), (40, .int .i64 x.1)], [.row 5 0 0 [.agg [.int .i64 iat, .int .i64 x.2.1, .int .i64 x.2.2, .int .i64 b, .sl (cs.map encCase)]], .row 5 0 0 [.agg [.int .i64 0, .int .i64 0, .int .i64 0, .int .i64 0, .snil]]]⟩)
      (fun x => x.1 ≤ 6 ∧ (plPairs.drop x.1).foldl (plStep op) x.2 = plainO op a) (fun x => 6 - x.1) (0, op, a) ⟨by simp, by rw [← plain_fold op a, show plain0 op a = (op, a) from hp0]; rfl⟩ (weak_frL rfl rfl (by simp [plPairs, pairAV])) ?_
    rintro ⟨k, o1, a1⟩ ⟨hk, hf⟩
    simp only at hk hf ⊢
    by_cases h6 : k < 6
    · obtain ⟨⟨lo, to⟩, hp, hd, hlo, hhi⟩ := plPairs_get h6
      simp only at hlo hhi
      rw [hd, List.foldl_cons] at hf
      have w4 := wrap_i64 (show (-9223372036854775808 : Int) ≤ lo + 4 by omega) (by omega)
      have wk1 := wrap_i64 (show (-9223372036854775808 : Int) ≤ (k : Int) + 1 by omega) (by omega)
      have h6' : ((k : Int) < 6) = True := eq_true (by omega)
      by_cases g1 : lo ≤ op
      · by_cases g2 : op < lo + 4
        · have hs : plStep op (o1, a1) (lo, to) = (to, op - lo) := if_pos ⟨g1, g2⟩
          rw [hs] at hf
          have wd := wrap_i64 (show (-9223372036854775808 : Int) ≤ op - lo by omega) (by omega)
          simp [h6', hp, pairAV, g1, g2, w4]
          refine dk_ofL [(3, .tup [.ptr 2 0 0 0, .int .i64 0]), (4, .ptr 2 0 0 0)] (by decide) ?_
          simp [List.lookup, wd]
          refine sd_ofL rfl ?_ ?_
          · simp [steadyL, ldEq, blind]
          simp [List.lookup]
          refine sd_of (by decide) ?_
          simp [wk1]
          exact nextQ_less (k + 1, to, op - lo) ⟨by simp only; omega, hf⟩ (by simp only; omega) (less_take fz_gl G0.2 rfl rfl (by simp) (by simp))
        · have hs : plStep op (o1, a1) (lo, to) = (o1, a1) := if_neg (fun h => g2 h.2)
          rw [hs] at hf
          simp [h6', hp, pairAV, g1, g2, w4, wk1]
          exact nextQ_less (k + 1, o1, a1) ⟨by simp only; omega, hf⟩ (by simp only; omega) (less_take fz_gl G0.2 rfl rfl (by simp) (by simp))
      · have hs : plStep op (o1, a1) (lo, to) = (o1, a1) := if_neg (fun h => g1 h.1)
        rw [hs] at hf
        simp [h6', hp, pairAV, g1, wk1]
        exact nextQ_less (k + 1, o1, a1) ⟨by simp only; omega, hf⟩ (by simp only; omega) (less_take fz_gl G0.2 rfl rfl (by simp) (by simp))
    · have h6' : ((k : Int) < 6) = False := eq_false (by omega)
      have hk6 : k = 6 := by omega
      subst hk6
      have hf' : (o1, a1) = plainO op a := hf
      simp
      exact finS_eq (by simp [plainT, ← hf']) (by simp)
end Go.Proofs.YthchohjhcjkgjaaGreatDoor.Lift
namespace Go.Proofs.YthchohjhcjkgjaaGreatDoor.Lift
open Go
set_option maxRecDepth 100000

section
variable {α β γ δ ε ζ η : Type}
def fn6 (ca : Cod α) (cb : Cod β) (cc : Cod γ) (cd : Cod δ) (ce : Cod ε) (cf : Cod ζ) (er : η → AV) (g : α → β → γ → δ → ε → ζ → Option η) : List AV → Option AV
  | [x, y, z, w, u, v] => (ca.dec x).bind fun a => (cb.dec y).bind fun b => (cc.dec z).bind fun c => (cd.dec w).bind fun d => (ce.dec u).bind fun e => (cf.dec v).bind fun f => (g a b c d e f).map er
  | _ => none
variable {ca : Cod α} {cb : Cod β} {cc : Cod γ} {cd : Cod δ} {ce : Cod ε} {cf : Cod ζ} {er : η → AV}
@[simp] theorem fn6_eq {g : α → β → γ → δ → ε → ζ → Option η} {x y z w u v : AV} : fn6 ca cb cc cd ce cf er g [x, y, z, w, u, v] = (ca.dec x).bind fun a => (cb.dec y).bind fun b => (cc.dec z).bind fun c => (cd.dec w).bind fun d => (ce.dec u).bind fun e => (cf.dec v).bind fun f => (g a b c d e f).map er := rfl
theorem fn6_inv {g : α → β → γ → δ → ε → ζ → Option η} {args : List AV} {r : AV} (h : fn6 ca cb cc cd ce cf er g args = some r) : ∃ a b c d e f x, args = [ca.enc a, cb.enc b, cc.enc c, cd.enc d, ce.enc e, cf.enc f] ∧ g a b c d e f = some x ∧ r = er x := by
  unfold fn6 at h
  split at h
  · simp only [Option.bind_eq_some_iff, Option.map_eq_some_iff] at h
    obtain ⟨a, ha, b, hb, c, hc, d, hd, e, he, f, hf, x, hx, rfl⟩ := h
    exact ⟨a, b, c, d, e, f, x, by rw [ca.ed _ _ ha, cb.ed _ _ hb, cc.ed _ _ hc, cd.ed _ _ hd, ce.ed _ _ he, cf.ed _ _ hf], hx, rfl⟩
  · cases h
end
section
variable {p0 p1 p2 p3 p4 : ABlk} {h : AHand} {q : Sto}
@[simp high] theorem hs_0 : (handSto p0 p1 p2 p3 p4 h q)[0]? = some p0 := rfl
@[simp high] theorem hs_1 : (handSto p0 p1 p2 p3 p4 h q)[1]? = some p1 := rfl
@[simp high] theorem hs_2 : (handSto p0 p1 p2 p3 p4 h q)[2]? = some p2 := rfl
@[simp high] theorem hs_3 : (handSto p0 p1 p2 p3 p4 h q)[3]? = some p3 := rfl
@[simp high] theorem hs_4 : (handSto p0 p1 p2 p3 p4 h q)[4]? = some p4 := rfl
@[simp high] theorem hs_0' (hl : 0 < (handSto p0 p1 p2 p3 p4 h q).length) : (handSto p0 p1 p2 p3 p4 h q)[0] = p0 := rfl
@[simp high] theorem hs_1' (hl : 1 < (handSto p0 p1 p2 p3 p4 h q).length) : (handSto p0 p1 p2 p3 p4 h q)[1] = p1 := rfl
@[simp high] theorem hs_2' (hl : 2 < (handSto p0 p1 p2 p3 p4 h q).length) : (handSto p0 p1 p2 p3 p4 h q)[2] = p2 := rfl
@[simp high] theorem hs_3' (hl : 3 < (handSto p0 p1 p2 p3 p4 h q).length) : (handSto p0 p1 p2 p3 p4 h q)[3] = p3 := rfl
@[simp high] theorem hs_4' (hl : 4 < (handSto p0 p1 p2 p3 p4 h q).length) : (handSto p0 p1 p2 p3 p4 h q)[4] = p4 := rfl
@[simp high] theorem hs_set2 (x : ABlk) : (handSto p0 p1 p2 p3 p4 h q).set 2 x = handSto p0 p1 x p3 p4 h q := rfl
@[simp high] theorem hs_set4 (x : ABlk) : (handSto p0 p1 p2 p3 p4 h q).set 4 x = handSto p0 p1 p2 p3 x h q := rfl
@[simp high] theorem hs_set7 (b : Bool) : (handSto p0 p1 p2 p3 p4 h q).set 7 (.row 4 0 0 [.agg [.sl (h.cl.map encClass), .sr 5 1 0 h.loc.length, .sr 6 h.g 0 h.stk.length, .bool b]]) = handSto p0 p1 p2 p3 p4 { h with bad := b } q := rfl
theorem to_hand {cl : List AClass} {l s : List ATy} : p0 :: p1 :: p2 :: p3 :: p4 :: ABlk.row 2 1 0 (l.map encTy) :: .row 2 1 0 (s.map encTy) :: .row 4 0 0 [.agg [.sl (cl.map encClass), .sr 5 1 0 l.length, .sr 6 1 0 s.length, .bool false]] :: q = handSto p0 p1 p2 p3 p4 ⟨cl, l, s, false, 1, []⟩ q := by simp [handSto]
end
@[simp] theorem take_stk (s j : List ATy) : List.take s.length (s.map encTy ++ j.map encTy) = s.map encTy := by rw [List.take_append]; simp
theorem effTab_does : ∀ e ∈ effTab, cutAt (e.2.1 ++ 62 :: e.2.2) 62 = (e.2.1, e.2.2, true) ∧ asciiT e.2.1 = true ∧ asciiT e.2.2 = true ∧ (e.2.1 ++ 62 :: e.2.2).length < 1000 := by decide
theorem effectT_does {op : Int} {e : Str × Str} (h : effectT op = some e) (q : Sto) (hh : AHand) : hDoes [.str (e.1 ++ 62 :: e.2)] q hh = (doesO e.1 e.2 hh).map fun h' => (.tup [], h') := by
  obtain ⟨x, hx, rfl⟩ := Option.map_eq_some_iff.1 h
  obtain ⟨h1, h2, h3, h4⟩ := effTab_does x (List.mem_of_find?_eq_some hx)
  simp only [hDoes, h1, h2, h3, h4, and_self, if_true]
@[simp] def encFE (x : AFrame × Int) : AV := .tup [encFrame x.1, .int .i64 x.2]
def gStep (cl : List AClass) (c : AClass) (back : ATy) (i : AInstr) (f : AFrame) (most : Int) : Option (AFrame × Int) :=
  if c.pool.length < 1099511627776 ∧ f.locals.length < 1099511627776 ∧ f.stack.length < 1099511627776 then stepO cl c.pool back i f most else none
theorem ok_step : OkX Tryz.prog (XE [(42, sClone 2 cloneOk), (43, liftS 9 (fn1 cInstr encInstr fun i => some (plainT i))), (44, liftS 9 (fn1 cInt encSB fun op => some (effectS op))),
    (45, handS hDoes), (46, handS hMoves), (47, handS hAnswers), (48, handS hBound), (49, liftS 9 (fn1 (cL cTy) encInt fun l => if l.length < 1099511627776 then some (wide l) else none))]) :=
  (((((((okX_nil.addP p_kindWide).add f_bound).add f_answers).add f_moves).add f_does).addP p_effect).addP p_Plain).add (a_Clone _)
set_option maxHeartbeats 4000000 in
theorem p_Step : SoundP Tryz.prog gl 14 (fn6 (cL cClass) cClass cTy cInstr cFrame cInt encFE gStep) := by
  refine soundP_of_wk ok_step mixed Tryz.func14 rfl rfl fun args r h G0 => ?_
  obtain ⟨cl, c, back, i, f, most, e, rfl, he, rfl⟩ := fn6_inv h
  clear h
  unfold gStep at he
  simp only [Option.ite_none_right_eq_some] at he
  obtain ⟨⟨hc, hl, hs⟩, he⟩ := he
  simp [Tryz.f14, entry]
  refine dk_ofL [(5, .ptr 3 0 0 1)] (by decide) ?_
  simp [List.lookup, cloneOk_tys, hl]
  refine sd_ofL rfl ?_ ?_
  · simp [steadyL, ldEq]
  simp [List.lookup, cloneOk_tys, hs]
  refine sd_of (by decide) ?_
  simp [List.lookup]
  refine sd_of (by decide) ?_
  simp [List.lookup, to_hand]
  unfold stepO at he
  obtain ⟨h1, hh, he2⟩ := Option.bind_eq_some_iff.1 he
  clear he
  obtain ⟨iat, iop, ia, ib, ics⟩ := i
  generalize plainT ⟨iat, iop, ia, ib, ics⟩ = I at *
  obtain ⟨jat, jop, ja, jb, jcs⟩ := I
  simp only at hh
  unfold handO at hh
  cases hef : effectT jop with
  | some ef =>
    rw [hef] at hh
    simp only at hh
    have h1' : effectS jop = (ef.1 ++ 62 :: ef.2, true) := by simp [effectS, hef]
    have hd := fun q hx => effectT_does hef q hx
    simp [h1']
    by_cases hb : h1.bad = true
    · rw [if_pos hb] at he2
      cases he2
      simp [handS_eq, hd, hh, hb]
      refine finS_of 9 (by simp)
    · rw [if_neg hb] at he2
      have hb' : h1.bad = false := by simpa using hb
      split at he2
      · rename_i hlen
        by_cases hm : most < wide h1.stk
        · rw [if_pos hm] at he2
          cases he2
          simp [handS_eq, hd, hh, hb', hlen, hm]
          refine finS_of 9 (by simp)
        · rw [if_neg hm] at he2
          cases he2
          simp [handS_eq, hd, hh, hb', hlen, hm]
          refine dk_of (by decide) ?_
          simp
          refine sd_of (by decide) ?_
          simp
          refine finS_of 9 (by simp)
      · cases he2
  | none =>
    rw [hef] at hh
    simp only at hh
    have h1' : effectS jop = ([], false) := by simp [effectS, hef]
    obtain ⟨⟨b1, k1⟩, m1, hh⟩ := Option.bind_eq_some_iff.1 hh
    simp only at hh
    cases b1 with
    | true =>
      simp only [if_true] at hh
      cases hh
      simp [h1']
      by_cases hb : h1.bad = true
      · rw [if_pos hb] at he2
        cases he2
        simp [handS_eq, hMoves, m1, hb]
        refine finS_of 9 (by simp)
      · rw [if_neg hb] at he2
        have hb' : h1.bad = false := by simpa using hb
        split at he2
        · rename_i hlen
          by_cases hm : most < wide h1.stk
          · rw [if_pos hm] at he2
            cases he2
            simp [handS_eq, hMoves, m1, hb', hlen, hm]
            refine finS_of 9 (by simp)
          · rw [if_neg hm] at he2
            cases he2
            simp [handS_eq, hMoves, m1, hb', hlen, hm]
            refine dk_of (by decide) ?_
            simp
            refine sd_of (by decide) ?_
            simp
            refine finS_of 9 (by simp)
        · cases he2
    | false =>
      simp only [Bool.false_eq_true, if_false] at hh
      obtain ⟨⟨b2, k2⟩, m2, hh⟩ := Option.bind_eq_some_iff.1 hh
      simp only at hh
      cases b2 with
      | true =>
        simp only [if_true] at hh
        cases hh
        simp [h1']
        by_cases hb : h1.bad = true
        · rw [if_pos hb] at he2
          cases he2
          simp [handS_eq, hMoves, hAnswers, m1, m2, hb]
          refine finS_of 9 (by simp)
        · rw [if_neg hb] at he2
          have hb' : h1.bad = false := by simpa using hb
          split at he2
          · rename_i hlen
            by_cases hm : most < wide h1.stk
            · rw [if_pos hm] at he2
              cases he2
              simp [handS_eq, hMoves, hAnswers, m1, m2, hb', hlen, hm]
              refine finS_of 9 (by simp)
            · rw [if_neg hm] at he2
              cases he2
              simp [handS_eq, hMoves, hAnswers, m1, m2, hb', hlen, hm]
              refine dk_of (by decide) ?_
              simp
              refine sd_of (by decide) ?_
              simp
              refine finS_of 9 (by simp)
          · cases he2
      | false =>
        simp only [Bool.false_eq_true, if_false] at hh
        obtain ⟨⟨b3, k3⟩, m3, hh⟩ := Option.map_eq_some_iff.1 hh
        simp only at hh
        cases b3 with
        | true =>
          simp only [if_true] at hh
          obtain rfl : h1 = k3 := hh.symm
          simp [h1']
          by_cases hb : h1.bad = true
          · rw [if_pos hb] at he2
            cases he2
            simp [handS_eq, hMoves, hAnswers, hBound, hc, m1, m2, m3, hb]
            refine finS_of 9 (by simp)
          · rw [if_neg hb] at he2
            have hb' : h1.bad = false := by simpa using hb
            split at he2
            · rename_i hlen
              by_cases hm : most < wide h1.stk
              · rw [if_pos hm] at he2
                cases he2
                simp [handS_eq, hMoves, hAnswers, hBound, hc, m1, m2, m3, hb', hlen, hm]
                refine finS_of 9 (by simp)
              · rw [if_neg hm] at he2
                cases he2
                simp [handS_eq, hMoves, hAnswers, hBound, hc, m1, m2, m3, hb', hlen, hm]
                refine dk_of (by decide) ?_
                simp
                refine sd_of (by decide) ?_
                simp
                refine finS_of 9 (by simp)
            · cases he2
        | false =>
          simp only [Bool.false_eq_true, if_false] at hh
          subst hh
          rw [if_pos rfl] at he2
          cases he2
          simp [h1', handS_eq, hMoves, hAnswers, hBound, hc, m1, m2, m3]
          refine finS_of 9 (by simp)
end Go.Proofs.YthchohjhcjkgjaaGreatDoor.Lift
namespace Go.Proofs.YthchohjhcjkgjaaGreatDoor.Lift
open Go
set_option maxRecDepth 100000

/-- a class without members -/
def bare (p : APair) : AClass := ⟨[], p.name, p.super, [], []⟩
def bareRaw (p : APair) : AV := .agg [.snil, .str p.name, .str p.super, .snil, .snil]
def classesOf (l : List APair) : List AClass := (l.take 40).map bare
theorem peek_bare (st : Sto) (l : List APair) : mapO (peek st 8) (l.map bareRaw) = some ((l.map bare).map encClass) := by
  induction l with
  | nil => rfl
  | cons p l ih =>
    simp only [List.map_cons, mapO, ih]
    simp [bareRaw, bare]
@[simp] theorem blwL_bare (k : Nat) : ∀ l : List APair, blwL k (l.map bareRaw) = true
  | [] => rfl
  | p :: l => by simp [blwL_bare k l, bareRaw]

theorem take_bare (i : Nat) (l : List APair) : List.take i (List.take i (l.map bareRaw)) = (l.take i).map bareRaw := by rw [List.take_take, Nat.min_self, List.map_take]
@[simp] theorem blwL_bare' (k i : Nat) (l : List APair) : blwL k (List.take i (l.map bareRaw)) = true := by rw [← List.map_take]; exact blwL_bare k _
theorem peek_bare' (st : Sto) (i : Nat) (l : List APair) : mapO (peek st 8) (List.take i (List.take i (l.map bareRaw))) = some (List.take i (l.map (encClass ∘ bare))) := by
  rw [take_bare, peek_bare, ← List.map_take, List.map_map]
end Go.Proofs.YthchohjhcjkgjaaGreatDoor.Lift
namespace Go.Proofs.YthchohjhcjkgjaaGreatDoor.Lift
open Go
set_option maxRecDepth 100000

/-- the last one of a chain -/
def lastOr : List Str → Str → Str
  | [], d => d
  | x :: r, _ => lastOr r x
theorem lastOr_eq (l : List Str) : ∀ d : Str, lastOr l d = (l[l.length - 1]?).getD d := by
  induction l with
  | nil => intro d; rfl
  | cons x r ih =>
    intro d
    rw [lastOr, ih]
    cases r with
    | nil => rfl
    | cons y r => simp
/-- where does going up from a class end? -/
def topOf (l : List AClass) (s : Str) : Str := lastOr (aboveOf l [s] s) s
/-- does going up end, from each class? -/
def endsOf (l : List AClass) : Bool := l.all fun c => decide (superOf l (topOf l c.name) = [])

/-- what is above by a chain that ends is above by each other that begins there -/
theorem above_sub (l : List AClass) : ∀ (n : Nat) (met : List Str) (s : Str), unmet l met ≤ n → superOf l (lastOr (aboveOf l met s) s) = [] → ∀ met' z, z ∈ aboveOf l met' s → z ∈ aboveOf l met s := by
  intro n
  induction n with
  | zero =>
    intro met s hn he met' z hz
    by_cases h1 : superOf l s = [] ∨ superOf l s ∈ met
    · rw [aboveOf_nil h1] at he ⊢
      have he' : superOf l s = [] := he
      rw [aboveOf_nil (.inl he')] at hz
      exact hz
    · have := unmet_lt (fun e => h1 (.inl e)) (fun e => h1 (.inr e)); omega
  | succ n ih =>
    intro met s hn he met' z hz
    by_cases h1 : superOf l s = [] ∨ superOf l s ∈ met
    · rw [aboveOf_nil h1] at he ⊢
      have he' : superOf l s = [] := he
      rw [aboveOf_nil (.inl he')] at hz
      exact hz
    · have hlt := unmet_lt (fun e => h1 (.inl e)) (fun e => h1 (.inr e))
      rw [aboveOf_cons (fun e => h1 (.inl e)) (fun e => h1 (.inr e))] at he ⊢
      by_cases h2 : superOf l s = [] ∨ superOf l s ∈ met'
      · rw [aboveOf_nil h2] at hz; cases hz
      · rw [aboveOf_cons (fun e => h2 (.inl e)) (fun e => h2 (.inr e))] at hz
        rcases List.mem_cons.1 hz with rfl | hz
        · exact List.mem_cons_self
        · exact List.mem_cons_of_mem _ (ih _ _ (by omega) he _ z hz)
theorem above_trans (l : List AClass) : ∀ (n : Nat) (met : List Str) (s : Str), unmet l met ≤ n → superOf l (lastOr (aboveOf l met s) s) = [] → ∀ y, y ∈ aboveOf l met s → ∀ met' z, z ∈ aboveOf l met' y → z ∈ aboveOf l met s := by
  intro n
  induction n with
  | zero =>
    intro met s hn he y hy met' z hz
    by_cases h1 : superOf l s = [] ∨ superOf l s ∈ met
    · rw [aboveOf_nil h1] at hy; cases hy
    · have := unmet_lt (fun e => h1 (.inl e)) (fun e => h1 (.inr e)); omega
  | succ n ih =>
    intro met s hn he y hy met' z hz
    by_cases h1 : superOf l s = [] ∨ superOf l s ∈ met
    · rw [aboveOf_nil h1] at hy; cases hy
    · have hlt := unmet_lt (fun e => h1 (.inl e)) (fun e => h1 (.inr e))
      rw [aboveOf_cons (fun e => h1 (.inl e)) (fun e => h1 (.inr e))] at he hy ⊢
      rcases List.mem_cons.1 hy with rfl | hy
      · exact List.mem_cons_of_mem _ (above_sub l _ _ _ (Nat.le_refl _) he _ z hz)
      · exact List.mem_cons_of_mem _ (ih _ _ (by omega) he y hy _ z hz)
theorem above_order {l : List AClass} (he : endsOf l = true) {x y z : Str} (hy : y ∈ aboveOf l [x] x) (hz : z ∈ aboveOf l [y] y) : z ∈ aboveOf l [x] x := by
  have hp : placeOf l x < l.length := by
    apply Classical.byContradiction
    intro h
    rw [aboveOf_nil (.inl (by simp [superOf, h]))] at hy
    cases hy
  have hn : l[placeOf l x].name = x := by
    have := List.findIdx_getElem (w := hp)
    exact of_decide_eq_true this
  have h1 := List.all_eq_true.1 he _ (List.getElem_mem hp)
  rw [hn] at h1
  exact above_trans l _ _ _ (Nat.le_refl _) (of_decide_eq_true h1) y hy _ z hz

theorem may_self (l : List AClass) (x : ATy) : may l x x = true := by rw [may_eq, if_pos (.inr (.inl rfl))]
theorem print_kind {x : ATy} (h : (print x).2 = 0) : x = ⟨1, []⟩ ∨ x = ⟨2, []⟩ ∨ x.kind = 4 := by
  rcases print_cases x with ⟨t, h1, h2⟩ | h1
  · obtain ⟨k, nm⟩ := x
    have ht : t = texty ⟨k, nm⟩ := by
      rcases print_fst h1 with ⟨_, e⟩ | ⟨e, _⟩
      · exact e
      · cases e
    by_cases k1 : k = 1
    · subst k1
      have : t = [73] := by rw [ht]; rfl
      subst this
      have e : parse [73] = (⟨1, []⟩, 0) := by decide
      rw [e] at h2
      cases h2
      exact .inl rfl
    · by_cases k2 : k = 2
      · subst k2
        have : t = [74] := by rw [ht]; rfl
        subst this
        have e : parse [74] = (⟨2, []⟩, 0) := by decide
        rw [e] at h2
        cases h2
        exact .inr (.inl rfl)
      · by_cases k4 : k = 4
        · exact .inr (.inr k4)
        · have : t = [] := by rw [ht]; simp [texty, k1, k2, k4]
          subst this
          have e : parse [] = (⟨0, []⟩, 100) := rfl
          rw [e] at h2
          cases h2
  · rw [h1] at h; cases h

/-- an array's elements can be told -/
theorem elem_print {x : ATy} (h : (elem x).2 = 0) : (print (elem x).1).2 = 0 := by
  unfold elem at h ⊢
  cases hq : print x with
  | mk t er =>
    rw [hq] at h
    simp only at h ⊢
    by_cases hc : er = 0 ∧ t.head? = some 91
    · rw [if_pos hc]
      obtain ⟨rfl, ha⟩ := hc
      have hx := print_array hq ha
      by_cases hB : t = [91, 66]
      · rw [if_pos hB]
        decide
      · rw [if_neg hB]
        have hp := print_ok hq
        rw [hx] at hp
        rw [print_parse (parse_tail hp ha hB)]
    · rw [if_neg hc] at h
      cases h

theorem objName_not : objName.head? ≠ some 91 := by decide
theorem may_trans {l : List AClass} (hO : superOf l objName = []) (he : endsOf l = true) : ∀ (n : Nat) (x y z : ATy), x.name.length < n → (print x).2 = 0 → (print y).2 = 0 → (print z).2 = 0 → may l x y = true → may l y z = true → may l x z = true := by
  intro n
  induction n with
  | zero =>
    intro x y z hn
    omega
  | succ n ih =>
    intro x y z hn px py pz h1 h2
    by_cases exy : x = y
    · subst exy; exact h2
    · by_cases eyz : y = z
      · subst eyz; exact h1
      · -- none is KTop or KNull: all three are references
        have nk : ∀ {w : ATy}, (print w).2 = 0 → w.kind ≠ 0 ∧ w.kind ≠ 3 := fun {w} hw => by
          rcases print_kind hw with rfl | rfl | h
          · simp
          · simp
          · rw [h]; simp
        rw [may_eq] at h1 h2
        rw [if_neg (fun h => h.elim (nk py).1 fun h => h.elim exy fun h => (nk px).2 h.1)] at h1
        rw [if_neg (fun h => h.elim (nk pz).1 fun h => h.elim eyz fun h => (nk py).2 h.1)] at h2
        by_cases k1 : x.kind ≠ 4 ∨ y.kind ≠ 4
        · rw [if_pos k1] at h1; cases h1
        · by_cases k2 : y.kind ≠ 4 ∨ z.kind ≠ 4
          · rw [if_pos k2] at h2; cases h2
          · rw [if_neg k1] at h1
            rw [if_neg k2] at h2
            have hx4 : x.kind = 4 := Classical.byContradiction fun h => k1 (.inl h)
            have hy4 : y.kind = 4 := Classical.byContradiction fun h => k1 (.inr h)
            have hz4 : z.kind = 4 := Classical.byContradiction fun h => k2 (.inr h)
            by_cases exz : x = z
            · subst exz; exact may_self l x
            · rw [may_eq, if_neg (fun h => h.elim (nk pz).1 fun h => h.elim exz fun h => (nk px).2 h.1), if_neg (fun h => h.elim (fun h => h hx4) fun h => h hz4)]
              by_cases oz : z.name = objName
              · rw [if_pos oz]
              · rw [if_neg oz] at h2 ⊢
                by_cases oy : y.name = objName
                · -- nothing is above Object
                  exfalso
                  rw [oy] at h2
                  rw [if_neg (fun h => objName_not h.1)] at h2
                  by_cases az : z.name.head? = some 91
                  · rw [if_pos (.inr az)] at h2; cases h2
                  · rw [if_neg (fun h => h.elim objName_not az), aboveOf_nil (.inl hO)] at h2
                    cases h2
                · rw [if_neg oy] at h1
                  by_cases ay : y.name.head? = some 91
                  · by_cases ax : x.name.head? = some 91
                    · by_cases az : z.name.head? = some 91
                      · rw [if_pos ⟨ax, ay⟩] at h1
                        rw [if_pos ⟨ay, az⟩] at h2
                        rw [if_pos ⟨ax, az⟩]
                        by_cases c1 : (elem x).2 = 0 ∧ (elem y).2 = 0 ∧ (elem x).1.kind = 4 ∧ (elem y).1.kind = 4
                        · by_cases c2 : (elem y).2 = 0 ∧ (elem z).2 = 0 ∧ (elem y).1.kind = 4 ∧ (elem z).1.kind = 4
                          · rw [if_pos c1] at h1
                            rw [if_pos c2] at h2
                            rw [if_pos ⟨c1.1, c2.2.1, c1.2.2.1, c2.2.2.2⟩]
                            have := elem_lt c1.1 ax
                            exact ih _ _ _ (by omega) (elem_print c1.1) (elem_print c1.2.1) (elem_print c2.2.1) h1 h2
                          · rw [if_neg c2] at h2; cases h2
                        · rw [if_neg c1] at h1; cases h1
                      · rw [if_neg (fun h => az h.2), if_pos (.inl ay)] at h2; cases h2
                    · rw [if_neg (fun h => ax h.1), if_pos (.inr ay)] at h1; cases h1
                  · by_cases ax : x.name.head? = some 91
                    · rw [if_neg (fun h => ay h.2), if_pos (.inl ax)] at h1; cases h1
                    · by_cases az : z.name.head? = some 91
                      · rw [if_neg (fun h => ay h.1), if_pos (.inr az)] at h2; cases h2
                      · rw [if_neg (fun h => ax h.1), if_neg (fun h => h.elim ax ay)] at h1
                        rw [if_neg (fun h => ay h.1), if_neg (fun h => h.elim ay az)] at h2
                        rw [if_neg (fun h => ax h.1), if_neg (fun h => h.elim ax az)]
                        exact decide_eq_true (above_order he (of_decide_eq_true h1) (of_decide_eq_true h2))
end Go.Proofs.YthchohjhcjkgjaaGreatDoor.Lift
namespace Go.Proofs.YthchohjhcjkgjaaGreatDoor.Lift
open Go

structure APlace where
  classes : List APair
  pool : List AEntry
  back : ATy
  most : Int
  deriving DecidableEq, Inhabited

@[simp] def encPlace (x : APlace) : AV := .agg [.sl (x.classes.map encPair), .sl (x.pool.map encEntry), .int .i64 x.back.kind, .str x.back.name, .int .i64 x.most]

@[simp] def decPlace : AV → Option APlace
  | .agg [.sl classes, .sl pool, .int .i64 back_kind, .str back_name, .int .i64 most] => (mapO decPair classes).bind fun classes => (mapO decEntry pool).bind fun pool => some ⟨classes, pool, ⟨back_kind, back_name⟩, most⟩
  | _ => none

theorem edPlace (v : AV) (x : APlace) (h : decPlace v = some x) : v = encPlace x := by
  unfold decPlace at h
  split at h
  · simp only [Option.bind_eq_some_iff, Option.some.injEq] at h
    obtain ⟨q_classes, h_classes, q_pool, h_pool, rfl⟩ := h
    simp only [encPlace, ← mapO_inv edPair _ _ h_classes, ← mapO_inv edEntry _ _ h_pool]
  · cases h

def cPlace : Cod APlace := ⟨encPlace, decPlace, fun x => by simp, edPlace, fun x => by simp⟩
@[simp] theorem cPlace_dec : cPlace.dec = decPlace := rfl
@[simp] theorem cPlace_enc : cPlace.enc = encPlace := rfl
@[simp] theorem mapO_Place (l : List APlace) : mapO decPlace (l.map encPlace) = some l := mapO_map cPlace.de l
@[simp] theorem fzL_Place (l : List APlace) : fzL (l.map encPlace) = true := fzL_map cPlace.fz l
@[simp] theorem blwL_Place (k : Nat) (l : List APlace) : blwL k (l.map encPlace) = true := blwL_map cPlace.fz k l

end Go.Proofs.YthchohjhcjkgjaaGreatDoor.Lift
namespace Go.Proofs.YthchohjhcjkgjaaGreatDoor.Lift
open Go
set_option maxRecDepth 100000

theorem p_light : SoundP Tryz.prog gl 10 (fn1 cFrame encBool fun f => some (decide (f.locals.length ≤ 100) && decide (f.stack.length ≤ 100))) := by
  refine soundP_of_wk okX_nil mixed Tryz.func10 rfl rfl fun args r h G0 => ?_
  obtain ⟨f, e, rfl, he, rfl⟩ := fn1_inv h
  cases he
  by_cases h1 : f.locals.length ≤ 100
  · have h2 : ((f.locals.length : Int) ≤ 100) = True := eq_true (by omega)
    by_cases h3 : f.stack.length ≤ 100
    · have h4 : ((f.stack.length : Int) ≤ 100) = True := eq_true (by omega)
      simp [Tryz.f10, entry, h1, h2, h3, h4]
      exact finS_fz (by simp)
    · have h4 : ((f.stack.length : Int) ≤ 100) = False := eq_false (by omega)
      simp [Tryz.f10, entry, h1, h2, h3, h4]
      exact finS_fz (by simp)
  · have h2 : ((f.locals.length : Int) ≤ 100) = False := eq_false (by omega)
    simp [Tryz.f10, entry, h1, h2]
    exact finS_fz (by simp)
def classes30 (l : List APair) : List AClass := (l.take 30).map bare
theorem p_classes11 : SoundP Tryz.prog gl 9 (fn1 (cL cPair) (cL cClass).enc fun l => if l.length < 1099511627776 then some (classes30 l) else none) := by
  refine soundP_of_wk okX_nil mixed Tryz.func9 rfl rfl fun args r h G0 => ?_
  obtain ⟨l, e, rfl, he, rfl⟩ := fn1_inv h
  simp only [Option.ite_none_right_eq_some, Option.some.injEq] at he
  obtain ⟨hs, rfl⟩ := he
  simp [Tryz.f9, entry]
  refine lp_of okX_nil mixed (fun (i : Nat) => ⟨31, frL [(0, .sl (l.map encPair)), (3, .sr 0 i 0 i), (4, .int .i64 i)], [.row 5 i 0 ((l.take i).map bareRaw)]⟩) (fun i => i ≤ l.length ∧ i ≤ 30) (fun i => l.length - i) 0 (by simp) (weak_frL rfl rfl (by simp)) ?_
  intro i ⟨hi, hi40⟩
  have htl : min i l.length = i := by omega
  have endd : ¬ (i < l.length ∧ i < 30) → l.take 30 = l.take i := fun hn => by
    by_cases h1 : i < l.length
    · have : i = 30 := by omega
      rw [this]
    · rw [List.take_of_length_le (by omega), List.take_of_length_le (by omega)]
  by_cases h3 : i < l.length
  · by_cases h4 : i < 30
    · have hx : l[i]? = some l[i] := by simp [h3]
      have hw := wrap_i64 (show (-9223372036854775808 : Int) ≤ (i : Int) + 1 by omega) (by omega)
      have e1 : ((i : Int) < 30) = True := by simp; omega
      have hb : (i + 1) * 104 ≤ 140737488355328 := by omega
      simp [h3, e1]
      refine dk_of (by decide) ?_
      simp [hx]
      refine sd_of (by decide) ?_
      simp [hb, htl]
      refine sd_of (by decide) ?_
      simp [hw]
      have hstep : List.take i (List.take i (l.map bareRaw)) ++ [AV.agg [.snil, .str l[i].name, .str l[i].super, .snil, .snil]] = List.take (i + 1) (l.map bareRaw) := by
        rw [take_bare, ← List.map_take, List.take_succ_eq_append_getElem h3, List.map_append]
        rfl
      refine nextQ_less (i + 1) ⟨h3, h4⟩ (by omega) (less_take fz_gl G0.2 rfl (by simp [hstep]) (by simp) (by simp))
    · have e1 : ((i : Int) < 30) = False := by simp; omega
      simp [h3, e1]
      refine finS_of 9 ?_
      simp [htl, peek_bare', classes30, endd (fun h => h4 h.2)]
  · simp [h3]
    refine finS_of 9 ?_
    simp [htl, peek_bare', classes30, endd (fun h => h3 h.1)]
theorem p_SameFrame : SoundP Tryz.prog gl 35 (fn2 cFrame cFrame encBool fun a b => if a.locals.length < 1099511627776 ∧ a.stack.length < 1099511627776 then some (decide (a = b)) else none) := by
  refine soundP_of_wk (okX_nil.addP p_SameTypes) mixed Tryz.func35 rfl rfl fun args r h G0 => ?_
  obtain ⟨a, b, e, rfl, he, rfl⟩ := fn2_inv h
  simp only [Option.ite_none_right_eq_some, Option.some.injEq] at he
  obtain ⟨⟨h1, h2⟩, rfl⟩ := he
  obtain ⟨al, ast⟩ := a
  obtain ⟨bl, bs⟩ := b
  simp only at h1 h2
  by_cases hl : al = bl
  · subst hl
    simp [Tryz.f35, entry, h1, h2]
    exact finS_eq (by simp) rfl
  · simp [Tryz.f35, entry, h1, hl]
    exact finS_eq (by simp) rfl

theorem step_w1 : gStep [] ⟨[], [], [], [], []⟩ ⟨0, []⟩ ⟨0, 133, 0, 0, []⟩ ⟨[], [⟨1, []⟩]⟩ 4 = some (⟨[], [⟨2, []⟩]⟩, 0) := by
  simp [gStep, stepO, handO, plainT, plainO, effectT, effTab, doesO, popsO, lettersT, letterT, popR, pop1, topO, gMayT, may_self, mustT, pushR, pushO, wide, longs]
theorem step_w2 : gStep [] ⟨[], [], [], [], []⟩ ⟨0, []⟩ ⟨0, 96, 0, 0, []⟩ ⟨[], [⟨1, []⟩, ⟨1, []⟩]⟩ 4 = some (⟨[], [⟨1, []⟩]⟩, 0) := by
  simp [gStep, stepO, handO, plainT, plainO, effectT, effTab, doesO, popsO, lettersT, letterT, popR, pop1, topO, gMayT, may_self, mustT, pushR, pushO, wide, longs]
theorem may_JI : may [] ⟨2, []⟩ ⟨1, []⟩ = false := by rw [may_eq]; simp
theorem step_w3 : gStep [] ⟨[], [], [], [], []⟩ ⟨0, []⟩ ⟨0, 96, 0, 0, []⟩ ⟨[], [⟨1, []⟩, ⟨2, []⟩]⟩ 4 = some (⟨[], []⟩, 110) := by
  simp [gStep, stepO, handO, plainT, plainO, effectT, effTab, doesO, popsO, lettersT, letterT, popR, pop1, topO, gMayT, may_self, may_JI, mustT, pushR, pushO, wide, longs]
theorem p_works11 : SoundP Tryz.prog gl 8 (fn0 encBool (some true)) := by
  refine soundP_of_wk (((okX_nil.addP p_Step).addP p_SameTypes).b [16, 27, 38, 49, 60]) mixed Tryz.func8 rfl rfl fun args r h G0 => ?_
  obtain ⟨e, rfl, he, rfl⟩ := fn0_inv h
  cases he
  simp [Tryz.f8, entry, step_w1, step_w2, step_w3]
  exact finS_fz (by simp)
end Go.Proofs.YthchohjhcjkgjaaGreatDoor.Lift
namespace Go.Proofs.YthchohjhcjkgjaaGreatDoor.Lift
open Go
set_option maxRecDepth 100000

/-- what may stand for what is transitive, whatever the types are -/
theorem may_trans' {l : List AClass} (hO : superOf l objName = []) (he : endsOf l = true) : ∀ (n : Nat) (x y z : ATy), x.name.length < n → may l x y = true → may l y z = true → may l x z = true := by
  intro n
  induction n with
  | zero =>
    intro x y z hn
    omega
  | succ n ih =>
    intro x y z hn h1 h2
    by_cases exy : x = y
    · subst exy; exact h2
    by_cases eyz : y = z
    · subst eyz; exact h1
    by_cases exz : x = z
    · subst exz; exact may_self l x
    by_cases z0 : z.kind = 0
    · rw [may_eq, if_pos (.inl z0)]
    by_cases x3 : x.kind = 3 ∧ z.kind = 4
    · rw [may_eq, if_pos (.inr (.inr x3))]
    rw [may_eq] at h1 h2
    by_cases c2 : z.kind = 0 ∨ y = z ∨ (y.kind = 3 ∧ z.kind = 4)
    · rcases c2 with c | c | c
      · exact absurd c z0
      · exact absurd c eyz
      · -- y is KNull: only it itself may stand for it
        rw [if_neg (fun h => h.elim (fun h => by rw [c.1] at h; cases h) fun h => h.elim exy fun h => by rw [c.1] at h; exact absurd h.2 (by decide)), if_pos (.inr (by rw [c.1]; decide))] at h1
        cases h1
    rw [if_neg c2] at h2
    by_cases k2 : y.kind ≠ 4 ∨ z.kind ≠ 4
    · rw [if_pos k2] at h2; cases h2
    rw [if_neg k2] at h2
    have hy4 : y.kind = 4 := Classical.byContradiction fun h => k2 (.inl h)
    have hz4 : z.kind = 4 := Classical.byContradiction fun h => k2 (.inr h)
    have nx3 : x.kind ≠ 3 := fun h => x3 ⟨h, hz4⟩
    rw [if_neg (fun h => h.elim (fun h => by rw [hy4] at h; cases h) fun h => h.elim exy fun h => nx3 h.1)] at h1
    by_cases k1 : x.kind ≠ 4 ∨ y.kind ≠ 4
    · rw [if_pos k1] at h1; cases h1
    rw [if_neg k1] at h1
    have hx4 : x.kind = 4 := Classical.byContradiction fun h => k1 (.inl h)
    rw [may_eq, if_neg (fun h => h.elim z0 fun h => h.elim exz fun h => nx3 h.1), if_neg (fun h => h.elim (fun h => h hx4) fun h => h hz4)]
    by_cases oz : z.name = objName
    · rw [if_pos oz]
    rw [if_neg oz] at h2 ⊢
    by_cases oy : y.name = objName
    · exfalso
      rw [oy] at h2
      rw [if_neg (fun h => objName_not h.1)] at h2
      by_cases az : z.name.head? = some 91
      · rw [if_pos (.inr az)] at h2; cases h2
      · rw [if_neg (fun h => h.elim objName_not az), aboveOf_nil (.inl hO)] at h2
        cases h2
    rw [if_neg oy] at h1
    by_cases ay : y.name.head? = some 91
    · by_cases ax : x.name.head? = some 91
      · by_cases az : z.name.head? = some 91
        · rw [if_pos ⟨ax, ay⟩] at h1
          rw [if_pos ⟨ay, az⟩] at h2
          rw [if_pos ⟨ax, az⟩]
          by_cases c1 : (elem x).2 = 0 ∧ (elem y).2 = 0 ∧ (elem x).1.kind = 4 ∧ (elem y).1.kind = 4
          · by_cases c2 : (elem y).2 = 0 ∧ (elem z).2 = 0 ∧ (elem y).1.kind = 4 ∧ (elem z).1.kind = 4
            · rw [if_pos c1] at h1
              rw [if_pos c2] at h2
              rw [if_pos ⟨c1.1, c2.2.1, c1.2.2.1, c2.2.2.2⟩]
              have := elem_lt c1.1 ax
              exact ih _ _ _ (by omega) h1 h2
            · rw [if_neg c2] at h2; cases h2
          · rw [if_neg c1] at h1; cases h1
        · rw [if_neg (fun h => az h.2), if_pos (.inl ay)] at h2; cases h2
      · rw [if_neg (fun h => ax h.1), if_pos (.inr ay)] at h1; cases h1
    · by_cases ax : x.name.head? = some 91
      · rw [if_neg (fun h => ay h.2), if_pos (.inl ax)] at h1; cases h1
      · by_cases az : z.name.head? = some 91
        · rw [if_neg (fun h => ay h.1), if_pos (.inr az)] at h2; cases h2
        · rw [if_neg (fun h => ax h.1), if_neg (fun h => h.elim ax ay)] at h1
          rw [if_neg (fun h => ay h.1), if_neg (fun h => h.elim ay az)] at h2
          rw [if_neg (fun h => ax h.1), if_neg (fun h => h.elim ax az)]
          exact decide_eq_true (above_order he (of_decide_eq_true h1) (of_decide_eq_true h2))

/-- one may stand for the other, and a long for a long alone -/
def le1 (l : List AClass) (x y : ATy) : Prop := may l x y = true ∧ (x.kind = 2 → y.kind = 2)
def leL (l : List AClass) : List ATy → List ATy → Prop
  | [], [] => True
  | x :: xs, y :: ys => le1 l x y ∧ leL l xs ys
  | _, _ => False
theorem le1_self (l : List AClass) (x : ATy) : le1 l x x := ⟨may_self l x, id⟩
theorem le1_wide {l : List AClass} {x y : ATy} (h : le1 l x y) : x.kind = 2 ↔ y.kind = 2 := by
  refine ⟨h.2, fun hy => ?_⟩
  have h1 := h.1
  rw [may_eq] at h1
  by_cases c : y.kind = 0 ∨ x = y ∨ (x.kind = 3 ∧ y.kind = 4)
  · rcases c with c | c | c
    · rw [hy] at c; cases c
    · rw [c]; exact hy
    · rw [hy] at c; exact absurd c.2 (by decide)
  · rw [if_neg c, if_pos (.inr (by rw [hy]; decide))] at h1
    cases h1
theorem leL_length {l : List AClass} : ∀ {xs ys : List ATy}, leL l xs ys → xs.length = ys.length
  | [], [], _ => rfl
  | _ :: _, _ :: _, h => by simp [leL_length h.2]
  | [], _ :: _, h => h.elim
  | _ :: _, [], h => h.elim
theorem leL_self (l : List AClass) : ∀ xs : List ATy, leL l xs xs
  | [] => trivial
  | x :: xs => ⟨le1_self l x, leL_self l xs⟩
theorem leL_append {l : List AClass} : ∀ {xs ys xs' ys' : List ATy}, leL l xs ys → leL l xs' ys' → leL l (xs ++ xs') (ys ++ ys')
  | [], [], _, _, _, h => h
  | _ :: _, _ :: _, _, _, h, h' => ⟨h.1, leL_append h.2 h'⟩
  | [], _ :: _, _, _, h, _ => h.elim
  | _ :: _, [], _, _, h, _ => h.elim
theorem leL_may {l : List AClass} : ∀ {xs ys : List ATy}, leL l xs ys → mayAll l xs ys = true
  | [], [], _ => rfl
  | _ :: _, _ :: _, h => by simp [mayAll, h.1.1, leL_may h.2]
  | [], _ :: _, h => h.elim
  | _ :: _, [], h => h.elim
theorem leL_longs {l : List AClass} : ∀ {xs ys : List ATy}, leL l xs ys → longs xs = longs ys
  | [], [], _ => rfl
  | x :: xs, y :: ys, h => by
    have := leL_longs h.2
    have hw := le1_wide h.1
    by_cases hx : x.kind = 2
    · simp [longs, hx, hw.1 hx] at *; exact this
    · have hy : ¬ y.kind = 2 := fun e => hx (hw.2 e)
      simp [longs, hx, hy] at *; exact this
  | [], _ :: _, h => h.elim
  | _ :: _, [], h => h.elim
theorem leL_get {l : List AClass} : ∀ {xs ys : List ATy}, leL l xs ys → ∀ i, le1 l (xs.getD i ⟨0, []⟩) (ys.getD i ⟨0, []⟩)
  | [], [], _, _ => by simpa using le1_self l ⟨0, []⟩
  | _ :: _, _ :: _, h, 0 => h.1
  | _ :: _, _ :: _, h, i + 1 => by simpa using leL_get h.2 i
  | [], _ :: _, h, _ => h.elim
  | _ :: _, [], h, _ => h.elim
theorem leL_set {l : List AClass} {x y : ATy} (hxy : le1 l x y) : ∀ {xs ys : List ATy}, leL l xs ys → ∀ i, leL l (xs.set i x) (ys.set i y)
  | [], [], _, _ => trivial
  | _ :: _, _ :: _, h, 0 => ⟨hxy, h.2⟩
  | _ :: _, _ :: _, h, i + 1 => ⟨h.1, leL_set hxy h.2 i⟩
  | [], _ :: _, h, _ => h.elim
  | _ :: _, [], h, _ => h.elim
/-- two hands of which one may stand for the other, and is not bad -/
structure Sim (l : List AClass) (a b : AHand) : Prop where
  cla : a.cl = l
  clb : b.cl = l
  loc : leL l a.loc b.loc
  stk : leL l a.stk b.stk
  good : a.bad = false
end Go.Proofs.YthchohjhcjkgjaaGreatDoor.Lift
namespace Go.Proofs.YthchohjhcjkgjaaGreatDoor.Lift
open Go
set_option maxRecDepth 100000

/-- what is not bad came of what was not -/
def Md {α : Type} (o : Option α) (p : α → AHand) (h : AHand) : Prop := ∀ v, o = some v → (p v).bad = false → h.bad = false
theorem Md.bind {α β : Type} {o : Option α} {p : α → AHand} {h : AHand} {k : α → Option β} {q : β → AHand} (h1 : Md o p h) (h2 : ∀ v, Md (k v) q (p v)) : Md (o.bind k) q h := fun v hv hb => by
  obtain ⟨u, hu, hk⟩ := Option.bind_eq_some_iff.1 hv
  exact h1 u hu (h2 u v hk hb)
theorem Md.map {α β : Type} {o : Option α} {p : α → AHand} {h : AHand} {f : α → β} {q : β → AHand} (h1 : Md o p h) (h2 : ∀ v, (q (f v)).bad = false → (p v).bad = false) : Md (o.map f) q h := fun v hv hb => by
  obtain ⟨u, hu, rfl⟩ := Option.map_eq_some_iff.1 hv
  exact h1 u hu (h2 u hb)
theorem Md.some {α : Type} {x : α} {p : α → AHand} {h : AHand} (h1 : (p x).bad = false → h.bad = false) : Md (some x) p h := fun v hv hb => by cases hv; exact h1 hb
theorem Md.none {α : Type} {p : α → AHand} {h : AHand} : Md none p h := fun v hv => by cases hv
theorem Md.ite {α : Type} {c : Prop} [Decidable c] {x y : Option α} {p : α → AHand} {h : AHand} (h1 : Md x p h) (h2 : Md y p h) : Md (if c then x else y) p h := by
  split
  · exact h1
  · exact h2
theorem Md.of {α : Type} {o : Option α} {p : α → AHand} {h h' : AHand} (h1 : Md o p h) (h2 : h.bad = false → h'.bad = false) : Md o p h' := fun v hv hb => h2 (h1 v hv hb)

/-- the one's result may stand for the other's, if that is not bad -/
def Wd {α : Type} (l : List AClass) (oa ob : Option α) (p : α → AHand) (R : α → α → Prop) : Prop := ∀ va vb, oa = some va → ob = some vb → (p vb).bad = false → R va vb ∧ Sim l (p va) (p vb)
theorem Wd.bind {α β : Type} {l : List AClass} {oa ob : Option α} {p : α → AHand} {R : α → α → Prop} {ka kb : α → Option β} {q : β → AHand} {R' : β → β → Prop} (h1 : Wd l oa ob p R) (h2 : ∀ va vb, R va vb → Sim l (p va) (p vb) → Wd l (ka va) (kb vb) q R') (h3 : ∀ vb, Md (kb vb) q (p vb)) :
    Wd l (oa.bind ka) (ob.bind kb) q R' := fun va vb ha hb hbad => by
  obtain ⟨ua, hua, hka⟩ := Option.bind_eq_some_iff.1 ha
  obtain ⟨ub, hub, hkb⟩ := Option.bind_eq_some_iff.1 hb
  obtain ⟨r, s⟩ := h1 ua ub hua hub (h3 ub vb hkb hbad)
  exact h2 ua ub r s va vb hka hkb hbad
theorem Wd.map {α β : Type} {l : List AClass} {oa ob : Option α} {p : α → AHand} {R : α → α → Prop} {fa fb : α → β} {q : β → AHand} {R' : β → β → Prop} (h1 : Wd l oa ob p R) (h2 : ∀ va vb, R va vb → Sim l (p va) (p vb) → (q (fb vb)).bad = false → R' (fa va) (fb vb) ∧ Sim l (q (fa va)) (q (fb vb))) (h3 : ∀ vb, (q (fb vb)).bad = false → (p vb).bad = false) :
    Wd l (oa.map fa) (ob.map fb) q R' := fun va vb ha hb hbad => by
  obtain ⟨ua, hua, rfl⟩ := Option.map_eq_some_iff.1 ha
  obtain ⟨ub, hub, rfl⟩ := Option.map_eq_some_iff.1 hb
  obtain ⟨r, s⟩ := h1 ua ub hua hub (h3 ub hbad)
  exact h2 ua ub r s hbad
theorem Wd.some {α : Type} {l : List AClass} {x y : α} {p : α → AHand} {R : α → α → Prop} (h : (p y).bad = false → R x y ∧ Sim l (p x) (p y)) : Wd l (some x) (some y) p R := fun va vb ha hb hbad => by
  cases ha; cases hb
  exact h hbad
theorem Wd.noneB {α : Type} {l : List AClass} {x : Option α} {p : α → AHand} {R : α → α → Prop} : Wd l x none p R := fun va vb ha hb => by cases hb
theorem Wd.noneA {α : Type} {l : List AClass} {x : Option α} {p : α → AHand} {R : α → α → Prop} : Wd l none x p R := fun va vb ha => by cases ha

def anyR {α : Type} : α → α → Prop := fun _ _ => True
def idH : AHand → AHand := fun h => h

theorem mustT_bad {b : Bool} {h : AHand} (hb : (mustT b h).bad = false) : h.bad = false ∧ b = true := by
  simp only [mustT, Bool.or_eq_false_iff, Bool.not_eq_eq_eq_not, Bool.not_false] at hb
  exact hb
theorem Sim.must {l : List AClass} {a b : AHand} (s : Sim l a b) {x : Bool} (hx : x = true) (y : Bool) : Sim l (mustT x a) (mustT y b) where
  cla := s.cla
  clb := s.clb
  loc := s.loc
  stk := s.stk
  good := by simp [mustT, hx, s.good]

theorem leL_last {l : List AClass} : ∀ {xs ys : List ATy}, leL l xs ys → (xs.getLast? = none ∧ ys.getLast? = none) ∨ ∃ x y, xs.getLast? = some x ∧ ys.getLast? = some y ∧ le1 l x y ∧ leL l xs.dropLast ys.dropLast
  | [], [], _ => .inl ⟨rfl, rfl⟩
  | [x], [y], h => .inr ⟨x, y, rfl, rfl, h.1, trivial⟩
  | x :: x' :: xs, y :: y' :: ys, h => by
    rcases leL_last h.2 with ⟨h1, _⟩ | ⟨u, v, h1, h2, h3, h4⟩
    · simp at h1
    · exact .inr ⟨u, v, by rw [List.getLast?_cons_cons]; exact h1, by rw [List.getLast?_cons_cons]; exact h2, h3, by rw [List.dropLast_cons_cons, List.dropLast_cons_cons]; exact ⟨h.1, h4⟩⟩
  | [_], _ :: _ :: _, h => h.2.elim
  | _ :: _ :: _, [_], h => h.2.elim
  | [], _ :: _, h => h.elim
  | _ :: _, [], h => h.elim
theorem md_top (h : AHand) : Md (topO h) Prod.snd h := by
  unfold topO
  refine Md.ite ?_ Md.none
  split
  · exact Md.some fun h => by cases h
  · exact Md.some fun h => h
theorem wd_top {l : List AClass} {a b : AHand} (s : Sim l a b) : Wd l (topO a) (topO b) Prod.snd (fun x y => le1 l x.1 y.1) := by
  unfold topO
  by_cases h1 : a.stk.length < 1099511627776
  · rw [if_pos h1, if_pos (leL_length s.stk ▸ h1)]
    rcases leL_last s.stk with ⟨h2, h3⟩ | ⟨x, y, h2, h3, h4, h5⟩
    · rw [h2, h3]
      exact Wd.some fun h => by cases h
    · rw [h2, h3]
      exact Wd.some fun _ => ⟨h4, ⟨s.cla, s.clb, s.loc, h5, s.good⟩⟩
  · rw [if_neg h1]
    exact Wd.noneA
theorem md_push (x : List ATy) (h : AHand) : Md (pushO x h) idH h := by
  unfold pushO
  exact Md.ite (Md.some fun h => h) Md.none
theorem wd_push {l : List AClass} {a b : AHand} (s : Sim l a b) {x y : List ATy} (hxy : leL l x y) : Wd l (pushO x a) (pushO y b) idH anyR := by
  unfold pushO
  rw [leL_length s.stk, leL_length hxy]
  by_cases h1 : b.stk.length + y.length < 1099511627776
  · rw [if_pos h1, if_pos h1]
    exact Wd.some fun _ => ⟨trivial, ⟨s.cla, s.clb, s.loc, leL_append s.stk hxy, s.good⟩⟩
  · rw [if_neg h1]
    exact Wd.noneA
theorem md_ref (h : AHand) : Md (refO h) Prod.snd h := (md_top h).map fun v hv => (mustT_bad hv).1
theorem ref_of {l : List AClass} {x y : ATy} (h : le1 l x y) (hy : (decide (y.kind = 3) || decide (y.kind = 4)) = true) : (decide (x.kind = 3) || decide (x.kind = 4)) = true := by
  have h1 := h.1
  rw [may_eq] at h1
  simp only [Bool.or_eq_true, decide_eq_true_eq] at hy ⊢
  by_cases c : y.kind = 0 ∨ x = y ∨ (x.kind = 3 ∧ y.kind = 4)
  · rcases c with c | c | c
    · omega
    · rw [c]; exact hy
    · exact .inl c.1
  · rw [if_neg c] at h1
    by_cases k : x.kind ≠ 4 ∨ y.kind ≠ 4
    · rw [if_pos k] at h1; cases h1
    · exact .inr (Classical.byContradiction fun h => k (.inl h))
theorem wd_ref {l : List AClass} {a b : AHand} (s : Sim l a b) : Wd l (refO a) (refO b) Prod.snd (fun x y => le1 l x.1 y.1 ∧ (decide (y.1.kind = 3) || decide (y.1.kind = 4)) = true) := by
  refine (wd_top s).map (fun va vb r s hb => ?_) fun v hv => (mustT_bad hv).1
  have hy := (mustT_bad hb).2
  exact ⟨⟨r, hy⟩, s.must (ref_of r hy) _⟩
theorem md_single (h : AHand) : Md (singleO h) Prod.snd h := (md_top h).map fun v hv => (mustT_bad hv).1
theorem wd_single {l : List AClass} {a b : AHand} (s : Sim l a b) : Wd l (singleO a) (singleO b) Prod.snd (fun x y => le1 l x.1 y.1) := by
  refine (wd_top s).map (fun va vb r s hb => ?_) fun v hv => (mustT_bad hv).1
  have hy := (mustT_bad hb).2
  refine ⟨r, s.must ?_ _⟩
  simp only [decide_eq_true_eq] at hy ⊢
  exact fun e => hy (r.2 e)

theorem gMayT_eq {l : List AClass} {x y : ATy} {b : Bool} (h : gMayT l x y = some b) : b = may l x y := by
  unfold gMayT at h
  split at h
  · cases h; rfl
  · cases h
theorem md_pop1 (x : ATy) (h : AHand) : Md (pop1 x h) idH h := (md_top h).bind fun v => by
  intro u hu hb
  obtain ⟨t, _, rfl⟩ := Option.map_eq_some_iff.1 hu
  exact (mustT_bad hb).1
theorem md_popR : ∀ (x : List ATy) (h : AHand), Md (popR x h) idH h
  | [], _ => Md.some fun h => h
  | x :: xs, h => (md_pop1 x h).bind fun v => md_popR xs v
section
variable {l : List AClass} (hO : superOf l objName = []) (he : endsOf l = true)
include hO he
theorem wd_pop1 {a b : AHand} (s : Sim l a b) (x : ATy) : Wd l (pop1 x a) (pop1 x b) idH anyR := by
  refine (wd_top s).bind (fun va vb r s va' vb' ha hb hbad => ?_) fun v => ?_
  · obtain ⟨t, ht, rfl⟩ := Option.map_eq_some_iff.1 ha
    obtain ⟨u, hu, rfl⟩ := Option.map_eq_some_iff.1 hb
    have hu2 := (mustT_bad hbad).2
    rw [s.cla] at ht
    rw [s.clb] at hu
    rw [gMayT_eq hu] at hu2
    exact ⟨trivial, s.must (by rw [gMayT_eq ht]; exact may_trans' hO he _ _ _ _ (Nat.lt_succ_self _) r.1 hu2) _⟩
  · intro u hu hb
    obtain ⟨t, _, rfl⟩ := Option.map_eq_some_iff.1 hu
    exact (mustT_bad hb).1
theorem wd_popR : ∀ (x : List ATy) {a b : AHand}, Sim l a b → Wd l (popR x a) (popR x b) idH anyR
  | [], _, _, s => Wd.some fun _ => ⟨trivial, s⟩
  | x :: xs, _, _, s => (wd_pop1 hO he s x).bind (fun _ _ _ s => wd_popR xs s) fun v => md_popR xs v
end

/-- the elements of an array, of one that may stand for another -/
theorem elem_le {l : List AClass} {x y : ATy} (h : le1 l x y) (hx3 : x.kind ≠ 3) (hy3 : y.kind ≠ 3) (hyr : y.kind = 4) (hy : (elem y).2 = 0) : (elem x).2 = 0 ∧ le1 l (elem x).1 (elem y).1 ∧ ((elem y).1.kind = 4 → (elem x).1.kind = 4) := by
  by_cases exy : x = y
  · subst exy
    exact ⟨hy, le1_self l _, id⟩
  have h1 := h.1
  rw [may_eq, if_neg (fun h => h.elim (fun h => by rw [hyr] at h; cases h) fun h => h.elim exy fun h => hx3 h.1)] at h1
  by_cases k1 : x.kind ≠ 4 ∨ y.kind ≠ 4
  · rw [if_pos k1] at h1; cases h1
  rw [if_neg k1] at h1
  -- y is an array
  have ay : y.name.head? = some 91 := by
    unfold elem at hy
    by_cases hc : (print y).2 = 0 ∧ (print y).1.head? = some 91
    · have := congrArg ATy.name (print_array (x := y) (t := (print y).1) (by rw [← hc.1]) hc.2)
      rw [show y.name = (print y).1 from this]
      exact hc.2
    · rw [if_neg hc] at hy; cases hy
  have noy : y.name ≠ objName := fun e => objName_not (e ▸ ay)
  rw [if_neg noy] at h1
  by_cases ax : x.name.head? = some 91
  · rw [if_pos ⟨ax, ay⟩] at h1
    by_cases c : (elem x).2 = 0 ∧ (elem y).2 = 0 ∧ (elem x).1.kind = 4 ∧ (elem y).1.kind = 4
    · rw [if_pos c] at h1
      exact ⟨c.1, ⟨h1, fun e => by rw [c.2.2.1] at e; cases e⟩, fun _ => c.2.2.1⟩
    · rw [if_neg c] at h1; cases h1
  · rw [if_neg (fun h => ax h.1), if_pos (.inr ay)] at h1; cases h1
theorem md_elems (will : ATy → Bool) (h : AHand) : Md (elemsO will h) Prod.snd h := (md_ref h).bind fun v => Md.ite (Md.some fun h => h) (Md.ite (Md.some fun h => (mustT_bad h).1) Md.none)
theorem wd_elems {l : List AClass} {a b : AHand} (s : Sim l a b) {will : ATy → Bool} (hw : ∀ u v : ATy, (v.kind = 4 → u.kind = 4) → will v = true → will u = true) :
    Wd l (elemsO will a) (elemsO will b) Prod.snd (fun x y => le1 l x.1 y.1 ∨ (will y.1 = true ∧ (y.1.kind = 4 → le1 l x.1 y.1))) := by
  refine (wd_ref s).bind (fun va vb r s => ?_) fun v => Md.ite (Md.some fun h => h) (Md.ite (Md.some fun h => (mustT_bad h).1) Md.none)
  obtain ⟨r, hy⟩ := r
  simp only [Bool.or_eq_true, decide_eq_true_eq] at hy
  by_cases y3 : vb.1.kind = 3
  · have hx3 : va.1.kind = 3 := by
      have h1 := r.1
      rw [may_eq] at h1
      by_cases c : vb.1.kind = 0 ∨ va.1 = vb.1 ∨ (va.1.kind = 3 ∧ vb.1.kind = 4)
      · rcases c with c | c | c
        · omega
        · rw [c]; exact y3
        · exact c.1
      · rw [if_neg c, if_pos (.inr (by omega))] at h1; cases h1
    rw [if_pos y3, if_pos hx3]
    exact Wd.some fun _ => ⟨.inl r, s⟩
  have y4 : vb.1.kind = 4 := hy.resolve_left y3
  rw [if_neg y3]
  by_cases hb : vb.1.name.length < 1099511600000
  · rw [if_pos hb]
    by_cases x3 : va.1.kind = 3
    · rw [if_pos x3]
      refine Wd.some fun h => ?_
      have h2 := (mustT_bad h).2
      simp only [Bool.and_eq_true, decide_eq_true_eq] at h2
      refine ⟨.inr ⟨h2.2, fun h4 => ⟨?_, fun e => by rw [x3] at e; cases e⟩⟩, ⟨s.cla, s.clb, s.loc, s.stk, s.good⟩⟩
      rw [may_eq, if_pos (.inr (.inr ⟨x3, h4⟩))]
    · rw [if_neg x3]
      by_cases ha : va.1.name.length < 1099511600000
      · rw [if_pos ha]
        refine Wd.some fun h => ?_
        have h2 := (mustT_bad h).2
        simp only [Bool.and_eq_true, decide_eq_true_eq] at h2
        obtain ⟨e1, e2, e3⟩ := elem_le r x3 y3 y4 h2.1
        exact ⟨.inl e2, s.must (by simp [e1, hw _ _ e3 h2.2]) _⟩
      · rw [if_neg ha]
        exact Wd.noneA
  · rw [if_neg hb]
    exact Wd.noneB

theorem md_local {will : ATy → Bool} {k : Int} {h : AHand} (hb : (localT will k h).2.bad = false) : h.bad = false := by
  unfold localT at hb
  split at hb
  · exact hb
  · cases hb
theorem local_le {l : List AClass} {a b : AHand} (s : Sim l a b) {will : ATy → Bool} (hw : ∀ u v : ATy, le1 l u v → will v = true → will u = true) {k : Int} (hb : (localT will k b).2.bad = false) :
    le1 l (localT will k a).1 (localT will k b).1 ∧ Sim l (localT will k a).2 (localT will k b).2 := by
  unfold localT at hb ⊢
  have hg := leL_get s.loc k.toNat
  rw [leL_length s.loc]
  by_cases c : 0 ≤ k ∧ k < b.loc.length ∧ will (b.loc.getD k.toNat ⟨0, []⟩) = true
  · rw [if_pos c, if_pos ⟨c.1, c.2.1, hw _ _ hg c.2.2⟩]
    exact ⟨hg, s⟩
  · rw [if_neg c] at hb
    cases hb
/-- what has no other that may stand for it -/
theorem le_same {l : List AClass} {u v : ATy} (h : le1 l u v) (h0 : v.kind ≠ 0) (h4 : v.kind ≠ 4) : u = v := by
  have h1 := h.1
  rw [may_eq] at h1
  by_cases c : v.kind = 0 ∨ u = v ∨ (u.kind = 3 ∧ v.kind = 4)
  · rcases c with c | c | c
    · exact absurd c h0
    · exact c
    · exact absurd c.2 h4
  · rw [if_neg c, if_pos (.inr h4)] at h1; cases h1
theorem leL_setL {l : List AClass} {x y : ATy} (hxy : le1 l x y) {xs ys : List ATy} (h : leL l xs ys) (k : Nat) : leL l (setL k x xs) (setL k y ys) := by
  unfold setL
  have hg := le1_wide (leL_get h (k - 1))
  have hw := le1_wide hxy
  have h1 : leL l (if 0 < k ∧ (xs.getD (k - 1) ⟨0, []⟩).kind = 2 then xs.set (k - 1) ⟨0, []⟩ else xs) (if 0 < k ∧ (ys.getD (k - 1) ⟨0, []⟩).kind = 2 then ys.set (k - 1) ⟨0, []⟩ else ys) := by
    by_cases c : 0 < k ∧ (ys.getD (k - 1) ⟨0, []⟩).kind = 2
    · rw [if_pos c, if_pos ⟨c.1, hg.2 c.2⟩]
      exact leL_set (le1_self l _) h _
    · rw [if_neg c, if_neg (fun h => c ⟨h.1, hg.1 h.2⟩)]
      exact h
  have h2 := leL_set hxy h1 k
  by_cases c : y.kind = 2
  · simp only [if_pos c, if_pos (hw.2 c)]
    exact leL_set (le1_self l _) h2 _
  · simp only [if_neg c, if_neg (fun e => c (hw.1 e))]
    exact h2
theorem md_put (k : Int) (x : ATy) (h : AHand) : Md (putO k x h) idH h := by
  unfold putO
  refine Md.ite (Md.some fun hb => ?_) Md.none
  split at hb
  · cases hb
  · exact hb
theorem wd_put {l : List AClass} {a b : AHand} (s : Sim l a b) {x y : ATy} (hxy : le1 l x y) (k : Int) : Wd l (putO k x a) (putO k y b) idH anyR := by
  unfold putO
  rw [leL_length s.loc]
  have hw : wide1 x = wide1 y := by
    unfold wide1
    by_cases c : y.kind = 2
    · rw [if_pos c, if_pos ((le1_wide hxy).2 c)]
    · rw [if_neg c, if_neg (fun e => c ((le1_wide hxy).1 e))]
  rw [hw]
  by_cases h1 : b.loc.length < 1099511627776
  · rw [if_pos h1, if_pos h1]
    refine Wd.some fun hb => ?_
    by_cases c : k < 0 ∨ (b.loc.length : Int) - wide1 y < k
    · rw [if_pos c] at hb; cases hb
    · rw [if_neg c, if_neg c]
      exact ⟨trivial, ⟨s.cla, s.clb, leL_setL hxy s.loc _, s.stk, s.good⟩⟩
  · rw [if_neg h1]
    exact Wd.noneA
theorem md_pushR : ∀ (x : List ATy) (h : AHand), Md (pushR x h) idH h
  | [], _ => Md.some fun h => h
  | x :: xs, h => (md_push [x] h).bind fun v => md_pushR xs v
theorem wd_pushR {l : List AClass} : ∀ (x : List ATy) {a b : AHand}, Sim l a b → Wd l (pushR x a) (pushR x b) idH anyR
  | [], _, _, s => Wd.some fun _ => ⟨trivial, s⟩
  | x :: xs, _, _, s => (wd_push s (leL_self l [x])).bind (fun _ _ _ s => wd_pushR xs s) fun v => md_pushR xs v
theorem md_pops (x : Str) (h : AHand) : Md (popsO x h) idH h := by
  unfold popsO
  refine Md.ite ((md_ref h).bind fun v => Md.ite (Md.some fun h => h) ((md_ref v.2).map fun v h => h)) (md_popR _ h)
theorem md_does (x y : Str) (h : AHand) : Md (doesO x y h) idH h := (md_pops x h).bind fun v => md_pushR _ v
section
variable {l : List AClass} (hO : superOf l objName = []) (he : endsOf l = true)
include hO he
theorem wd_pops {a b : AHand} (s : Sim l a b) (x : Str) : Wd l (popsO x a) (popsO x b) idH anyR := by
  unfold popsO
  by_cases c : x.getLast? = some 82
  · rw [if_pos c, if_pos c]
    refine (wd_ref s).bind (fun va vb r s => ?_) fun v => Md.ite (Md.some fun h => h) ((md_ref v.2).map fun v h => h)
    by_cases c2 : x.dropLast = []
    · rw [if_pos c2, if_pos c2]
      exact Wd.some fun _ => ⟨trivial, s⟩
    · rw [if_neg c2, if_neg c2]
      exact (wd_ref s).map (fun va vb r s _ => ⟨trivial, s⟩) fun v h => h
  · rw [if_neg c, if_neg c]
    exact wd_popR hO he _ s
theorem wd_does {a b : AHand} (s : Sim l a b) (x y : Str) : Wd l (doesO x y a) (doesO x y b) idH anyR := (wd_pops hO he s x).bind (fun _ _ _ s => wd_pushR _ s) fun v => md_pushR _ v
end
end Go.Proofs.YthchohjhcjkgjaaGreatDoor.Lift
