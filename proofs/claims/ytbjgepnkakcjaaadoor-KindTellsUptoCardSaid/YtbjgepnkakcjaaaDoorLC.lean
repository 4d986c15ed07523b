/-
  LIFT, C: typed values: how a Lean value is an abstract one; pure contracts on typed values.
-/
import Derived.Test.YtbjgepnkakcjaaaDoorLE
namespace Go.Proofs.YtbjgepnkakcjaaaDoor.Lift
open Go

abbrev Str := List UInt8

/-- how values of a type are abstract values -/
structure Cod (α : Type) where
  enc : α → AV
  dec : AV → Option α
  de : ∀ x, dec (enc x) = some x
  ed : ∀ v x, dec v = some x → v = enc x
  fz : ∀ x, fz (enc x) = true

@[simp] def decStr : AV → Option Str
  | .str s => some s
  | _ => none
@[simp] def encStr (s : Str) : AV := .str s
def cStr : Cod Str := ⟨encStr, decStr, fun _ => rfl, fun v x h => by cases v <;> simp_all, fun _ => rfl⟩
@[simp] def decInt : AV → Option Int
  | .int .i64 n => some n
  | _ => none
@[simp] def encInt (n : Int) : AV := .int .i64 n
def cInt : Cod Int := ⟨encInt, decInt, fun _ => rfl, fun v x h => by
  cases v with
  | int k n => cases k <;> simp_all
  | _ => simp_all, fun _ => rfl⟩
@[simp] def decBool : AV → Option Bool
  | .bool b => some b
  | _ => none
@[simp] def encBool (b : Bool) : AV := .bool b
def cBool : Cod Bool := ⟨encBool, decBool, fun _ => rfl, fun v x h => by cases v <;> simp_all, fun _ => rfl⟩
def decByte : AV → Option UInt8
  | .int .u8 n => if 0 ≤ n ∧ n < 256 then some (UInt8.ofNat n.toNat) else none
  | _ => none
@[simp] def encByte (b : UInt8) : AV := .int .u8 b.toNat
@[simp] theorem decByte_enc (b : UInt8) : decByte (.int .u8 b.toNat) = some b := by
  have := b.toNat_lt
  simp only [decByte]
  rw [if_pos (by omega)]
  simp
@[simp] theorem decByte_0 : decByte (.int .u8 0) = some 0 := rfl
@[simp] theorem decByte_1 : decByte (.int .u8 1) = some 1 := rfl
@[simp] theorem decByte_2 : decByte (.int .u8 2) = some 2 := rfl
@[simp] theorem decByte_3 : decByte (.int .u8 3) = some 3 := rfl
@[simp] theorem decByte_4 : decByte (.int .u8 4) = some 4 := rfl
@[simp] theorem decByte_5 : decByte (.int .u8 5) = some 5 := rfl
@[simp] theorem decByte_6 : decByte (.int .u8 6) = some 6 := rfl
@[simp] theorem decByte_7 : decByte (.int .u8 7) = some 7 := rfl
@[simp] theorem decByte_8 : decByte (.int .u8 8) = some 8 := rfl
@[simp] theorem decByte_9 : decByte (.int .u8 9) = some 9 := rfl
@[simp] theorem decByte_10 : decByte (.int .u8 10) = some 10 := rfl
@[simp] theorem decByte_11 : decByte (.int .u8 11) = some 11 := rfl
@[simp] theorem decByte_12 : decByte (.int .u8 12) = some 12 := rfl
@[simp] theorem decByte_13 : decByte (.int .u8 13) = some 13 := rfl
@[simp] theorem decByte_14 : decByte (.int .u8 14) = some 14 := rfl
@[simp] theorem decByte_15 : decByte (.int .u8 15) = some 15 := rfl
@[simp] theorem decByte_16 : decByte (.int .u8 16) = some 16 := rfl
@[simp] theorem decByte_17 : decByte (.int .u8 17) = some 17 := rfl
@[simp] theorem decByte_18 : decByte (.int .u8 18) = some 18 := rfl
@[simp] theorem decByte_19 : decByte (.int .u8 19) = some 19 := rfl
@[simp] theorem decByte_20 : decByte (.int .u8 20) = some 20 := rfl
@[simp] theorem decByte_21 : decByte (.int .u8 21) = some 21 := rfl
@[simp] theorem decByte_22 : decByte (.int .u8 22) = some 22 := rfl
@[simp] theorem decByte_23 : decByte (.int .u8 23) = some 23 := rfl
@[simp] theorem decByte_24 : decByte (.int .u8 24) = some 24 := rfl
@[simp] theorem decByte_25 : decByte (.int .u8 25) = some 25 := rfl
@[simp] theorem decByte_26 : decByte (.int .u8 26) = some 26 := rfl
@[simp] theorem decByte_27 : decByte (.int .u8 27) = some 27 := rfl
@[simp] theorem decByte_28 : decByte (.int .u8 28) = some 28 := rfl
@[simp] theorem decByte_29 : decByte (.int .u8 29) = some 29 := rfl
@[simp] theorem decByte_30 : decByte (.int .u8 30) = some 30 := rfl
@[simp] theorem decByte_31 : decByte (.int .u8 31) = some 31 := rfl
@[simp] theorem decByte_32 : decByte (.int .u8 32) = some 32 := rfl
@[simp] theorem decByte_33 : decByte (.int .u8 33) = some 33 := rfl
@[simp] theorem decByte_34 : decByte (.int .u8 34) = some 34 := rfl
@[simp] theorem decByte_35 : decByte (.int .u8 35) = some 35 := rfl
@[simp] theorem decByte_36 : decByte (.int .u8 36) = some 36 := rfl
@[simp] theorem decByte_37 : decByte (.int .u8 37) = some 37 := rfl
@[simp] theorem decByte_38 : decByte (.int .u8 38) = some 38 := rfl
@[simp] theorem decByte_39 : decByte (.int .u8 39) = some 39 := rfl
@[simp] theorem decByte_40 : decByte (.int .u8 40) = some 40 := rfl
@[simp] theorem decByte_41 : decByte (.int .u8 41) = some 41 := rfl
@[simp] theorem decByte_42 : decByte (.int .u8 42) = some 42 := rfl
@[simp] theorem decByte_43 : decByte (.int .u8 43) = some 43 := rfl
@[simp] theorem decByte_44 : decByte (.int .u8 44) = some 44 := rfl
@[simp] theorem decByte_45 : decByte (.int .u8 45) = some 45 := rfl
@[simp] theorem decByte_46 : decByte (.int .u8 46) = some 46 := rfl
@[simp] theorem decByte_47 : decByte (.int .u8 47) = some 47 := rfl
@[simp] theorem decByte_48 : decByte (.int .u8 48) = some 48 := rfl
@[simp] theorem decByte_49 : decByte (.int .u8 49) = some 49 := rfl
@[simp] theorem decByte_50 : decByte (.int .u8 50) = some 50 := rfl
@[simp] theorem decByte_51 : decByte (.int .u8 51) = some 51 := rfl
@[simp] theorem decByte_52 : decByte (.int .u8 52) = some 52 := rfl
@[simp] theorem decByte_53 : decByte (.int .u8 53) = some 53 := rfl
@[simp] theorem decByte_54 : decByte (.int .u8 54) = some 54 := rfl
@[simp] theorem decByte_55 : decByte (.int .u8 55) = some 55 := rfl
@[simp] theorem decByte_56 : decByte (.int .u8 56) = some 56 := rfl
@[simp] theorem decByte_57 : decByte (.int .u8 57) = some 57 := rfl
@[simp] theorem decByte_58 : decByte (.int .u8 58) = some 58 := rfl
@[simp] theorem decByte_59 : decByte (.int .u8 59) = some 59 := rfl
@[simp] theorem decByte_60 : decByte (.int .u8 60) = some 60 := rfl
@[simp] theorem decByte_61 : decByte (.int .u8 61) = some 61 := rfl
@[simp] theorem decByte_62 : decByte (.int .u8 62) = some 62 := rfl
@[simp] theorem decByte_63 : decByte (.int .u8 63) = some 63 := rfl
@[simp] theorem decByte_64 : decByte (.int .u8 64) = some 64 := rfl
@[simp] theorem decByte_65 : decByte (.int .u8 65) = some 65 := rfl
@[simp] theorem decByte_66 : decByte (.int .u8 66) = some 66 := rfl
@[simp] theorem decByte_67 : decByte (.int .u8 67) = some 67 := rfl
@[simp] theorem decByte_68 : decByte (.int .u8 68) = some 68 := rfl
@[simp] theorem decByte_69 : decByte (.int .u8 69) = some 69 := rfl
@[simp] theorem decByte_70 : decByte (.int .u8 70) = some 70 := rfl
@[simp] theorem decByte_71 : decByte (.int .u8 71) = some 71 := rfl
@[simp] theorem decByte_72 : decByte (.int .u8 72) = some 72 := rfl
@[simp] theorem decByte_73 : decByte (.int .u8 73) = some 73 := rfl
@[simp] theorem decByte_74 : decByte (.int .u8 74) = some 74 := rfl
@[simp] theorem decByte_75 : decByte (.int .u8 75) = some 75 := rfl
@[simp] theorem decByte_76 : decByte (.int .u8 76) = some 76 := rfl
@[simp] theorem decByte_77 : decByte (.int .u8 77) = some 77 := rfl
@[simp] theorem decByte_78 : decByte (.int .u8 78) = some 78 := rfl
@[simp] theorem decByte_79 : decByte (.int .u8 79) = some 79 := rfl
@[simp] theorem decByte_80 : decByte (.int .u8 80) = some 80 := rfl
@[simp] theorem decByte_81 : decByte (.int .u8 81) = some 81 := rfl
@[simp] theorem decByte_82 : decByte (.int .u8 82) = some 82 := rfl
@[simp] theorem decByte_83 : decByte (.int .u8 83) = some 83 := rfl
@[simp] theorem decByte_84 : decByte (.int .u8 84) = some 84 := rfl
@[simp] theorem decByte_85 : decByte (.int .u8 85) = some 85 := rfl
@[simp] theorem decByte_86 : decByte (.int .u8 86) = some 86 := rfl
@[simp] theorem decByte_87 : decByte (.int .u8 87) = some 87 := rfl
@[simp] theorem decByte_88 : decByte (.int .u8 88) = some 88 := rfl
@[simp] theorem decByte_89 : decByte (.int .u8 89) = some 89 := rfl
@[simp] theorem decByte_90 : decByte (.int .u8 90) = some 90 := rfl
@[simp] theorem decByte_91 : decByte (.int .u8 91) = some 91 := rfl
@[simp] theorem decByte_92 : decByte (.int .u8 92) = some 92 := rfl
@[simp] theorem decByte_93 : decByte (.int .u8 93) = some 93 := rfl
@[simp] theorem decByte_94 : decByte (.int .u8 94) = some 94 := rfl
@[simp] theorem decByte_95 : decByte (.int .u8 95) = some 95 := rfl
@[simp] theorem decByte_96 : decByte (.int .u8 96) = some 96 := rfl
@[simp] theorem decByte_97 : decByte (.int .u8 97) = some 97 := rfl
@[simp] theorem decByte_98 : decByte (.int .u8 98) = some 98 := rfl
@[simp] theorem decByte_99 : decByte (.int .u8 99) = some 99 := rfl
@[simp] theorem decByte_100 : decByte (.int .u8 100) = some 100 := rfl
@[simp] theorem decByte_101 : decByte (.int .u8 101) = some 101 := rfl
@[simp] theorem decByte_102 : decByte (.int .u8 102) = some 102 := rfl
@[simp] theorem decByte_103 : decByte (.int .u8 103) = some 103 := rfl
@[simp] theorem decByte_104 : decByte (.int .u8 104) = some 104 := rfl
@[simp] theorem decByte_105 : decByte (.int .u8 105) = some 105 := rfl
@[simp] theorem decByte_106 : decByte (.int .u8 106) = some 106 := rfl
@[simp] theorem decByte_107 : decByte (.int .u8 107) = some 107 := rfl
@[simp] theorem decByte_108 : decByte (.int .u8 108) = some 108 := rfl
@[simp] theorem decByte_109 : decByte (.int .u8 109) = some 109 := rfl
@[simp] theorem decByte_110 : decByte (.int .u8 110) = some 110 := rfl
@[simp] theorem decByte_111 : decByte (.int .u8 111) = some 111 := rfl
@[simp] theorem decByte_112 : decByte (.int .u8 112) = some 112 := rfl
@[simp] theorem decByte_113 : decByte (.int .u8 113) = some 113 := rfl
@[simp] theorem decByte_114 : decByte (.int .u8 114) = some 114 := rfl
@[simp] theorem decByte_115 : decByte (.int .u8 115) = some 115 := rfl
@[simp] theorem decByte_116 : decByte (.int .u8 116) = some 116 := rfl
@[simp] theorem decByte_117 : decByte (.int .u8 117) = some 117 := rfl
@[simp] theorem decByte_118 : decByte (.int .u8 118) = some 118 := rfl
@[simp] theorem decByte_119 : decByte (.int .u8 119) = some 119 := rfl
@[simp] theorem decByte_120 : decByte (.int .u8 120) = some 120 := rfl
@[simp] theorem decByte_121 : decByte (.int .u8 121) = some 121 := rfl
@[simp] theorem decByte_122 : decByte (.int .u8 122) = some 122 := rfl
@[simp] theorem decByte_123 : decByte (.int .u8 123) = some 123 := rfl
@[simp] theorem decByte_124 : decByte (.int .u8 124) = some 124 := rfl
@[simp] theorem decByte_125 : decByte (.int .u8 125) = some 125 := rfl
@[simp] theorem decByte_126 : decByte (.int .u8 126) = some 126 := rfl
@[simp] theorem decByte_127 : decByte (.int .u8 127) = some 127 := rfl
theorem decByte_ed (v : AV) (x : UInt8) (h : decByte v = some x) : v = encByte x := by
  unfold decByte at h
  split at h
  · split at h
    · rename_i n hn
      cases h
      simp only [encByte, AV.int.injEq, true_and]
      rw [UInt8.toNat_ofNat_of_lt' (by show n.toNat < 256; omega)]
      omega
    · cases h
  · cases h
def cByte : Cod UInt8 := ⟨encByte, decByte, fun b => by simp, decByte_ed, fun _ => rfl⟩

theorem mapO_map {α β : Type} {f : β → Option α} {g : α → β} (h : ∀ x, f (g x) = some x) : ∀ l : List α, mapO f (l.map g) = some l
  | [] => rfl
  | x :: l => by simp [h, mapO_map h l]
theorem mapO_inv {α β : Type} {f : β → Option α} {g : α → β} (h : ∀ v x, f v = some x → v = g x) : ∀ (l : List β) (r : List α), mapO f l = some r → l = r.map g
  | [], r, hr => by cases hr; rfl
  | y :: l, r, hr => by
    simp only [mapO] at hr
    split at hr
    · rename_i a b ha hb
      cases hr
      rw [h _ _ ha, mapO_inv h _ _ hb]
      rfl
    · cases hr
@[simp] theorem mapO_append {α β : Type} (f : α → Option β) : ∀ (l m : List α), mapO f (l ++ m) = match mapO f l, mapO f m with | some a, some b => some (a ++ b) | _, _ => none
  | [], m => by cases h : mapO f m <;> simp [h]
  | x :: l, m => by
    simp only [List.cons_append, mapO, mapO_append f l m]
    cases f x <;> cases mapO f l <;> cases mapO f m <;> simp
@[simp] theorem take_map_length {α β : Type} (f : α → β) (l : List α) : List.take l.length (l.map f) = l.map f := List.take_of_length_le (by simp)
theorem fzL_map {α : Type} {g : α → AV} (h : ∀ x, fz (g x) = true) : ∀ l : List α, fzL (l.map g) = true
  | [] => rfl
  | x :: l => by simp [fzL, h, fzL_map h l]
@[simp] theorem fzL_append : ∀ (l m : List AV), fzL (l ++ m) = (fzL l && fzL m)
  | [], m => by simp [fzL]
  | x :: l, m => by simp [fzL, fzL_append l m, Bool.and_assoc]

mutual
theorem fz_blw {k : Nat} : ∀ {v : AV}, fz v = true → blw k v = true
  | .undef, h => rfl
  | .bool _, h => rfl
  | .int .., h => rfl
  | .str _, h => rfl
  | .nilp, h => rfl
  | .ptr .., h => by cases h
  | .rp x _, h => by simp only [fz] at h; simp only [blw]; exact fz_blw h
  | .snil, h => rfl
  | .sl xs, h => by simp only [fz] at h; simp only [blw]; exact fzL_blw h
  | .sr .., h => by cases h
  | .fn f a b, h => by simp only [fz, Bool.and_eq_true] at h; simp only [blw, Bool.and_eq_true]; exact ⟨fzL_blw h.1, fzL_blw h.2⟩
  | .nilf, h => rfl
  | .nilm, h => rfl
  | .mv es, h => by simp only [fz] at h; simp only [blw]; exact fzE_blw h
  | .mr _, h => by cases h
  | .agg cs, h => by simp only [fz] at h; simp only [blw]; exact fzL_blw h
  | .tup vs, h => by simp only [fz] at h; simp only [blw]; exact fzL_blw h
theorem fzL_blw {k : Nat} : ∀ {l : List AV}, fzL l = true → blwL k l = true
  | [], _ => rfl
  | x :: r, h => by simp only [fzL, Bool.and_eq_true] at h; simp only [blwL, Bool.and_eq_true]; exact ⟨fz_blw h.1, fzL_blw h.2⟩
theorem fzE_blw {k : Nat} : ∀ {l : List (AV × AV)}, fzE l = true → blwE k l = true
  | [], _ => rfl
  | (a, b) :: r, h => by simp only [fzE, Bool.and_eq_true] at h; simp only [blwE, Bool.and_eq_true]; exact ⟨⟨fz_blw h.1.1, fz_blw h.1.2⟩, fzE_blw h.2⟩
end
theorem blwL_map {α : Type} {g : α → AV} (h : ∀ x, fz (g x) = true) (k : Nat) (l : List α) : blwL k (l.map g) = true := fzL_blw (fzL_map h l)
@[simp] theorem blwL_append (k : Nat) : ∀ (l m : List AV), blwL k (l ++ m) = (blwL k l && blwL k m)
  | [], m => by simp [blwL]
  | x :: l, m => by simp [blwL, blwL_append k l m, Bool.and_assoc]
def decL {α : Type} (f : AV → Option α) : AV → Option (List α)
  | .sl l => mapO f l
  | _ => none
def encL {α : Type} (g : α → AV) (l : List α) : AV := .sl (l.map g)
@[simp] theorem decL_sl {α : Type} (f : AV → Option α) (l : List AV) : decL f (.sl l) = mapO f l := rfl
def cL {α : Type} (c : Cod α) : Cod (List α) := ⟨encL c.enc, decL c.dec, fun l => mapO_map c.de l, fun v x h => by
  cases v <;> first | (cases h; done) | exact congrArg AV.sl (mapO_inv c.ed _ _ h)
  , fun l => by simp [encL, Lift.fz, fzL_map c.fz]⟩

section
variable {α β γ δ ε : Type}
/-- pure contracts of one, two, .. arguments -/
def fn0 (er : ε → AV) (g : Option ε) : List AV → Option AV
  | [] => g.map er
  | _ => none
def fn1 (ca : Cod α) (er : ε → AV) (g : α → Option ε) : List AV → Option AV
  | [x] => (ca.dec x).bind fun a => (g a).map er
  | _ => none
def fn2 (ca : Cod α) (cb : Cod β) (er : ε → AV) (g : α → β → Option ε) : List AV → Option AV
  | [x, y] => (ca.dec x).bind fun a => (cb.dec y).bind fun b => (g a b).map er
  | _ => none
def fn3 (ca : Cod α) (cb : Cod β) (cc : Cod γ) (er : ε → AV) (g : α → β → γ → Option ε) : List AV → Option AV
  | [x, y, z] => (ca.dec x).bind fun a => (cb.dec y).bind fun b => (cc.dec z).bind fun c => (g a b c).map er
  | _ => none
def fn4 (ca : Cod α) (cb : Cod β) (cc : Cod γ) (cd : Cod δ) (er : ε → AV) (g : α → β → γ → δ → Option ε) : List AV → Option AV
  | [x, y, z, w] => (ca.dec x).bind fun a => (cb.dec y).bind fun b => (cc.dec z).bind fun c => (cd.dec w).bind fun d => (g a b c d).map er
  | _ => none
variable {ca : Cod α} {cb : Cod β} {cc : Cod γ} {cd : Cod δ} {er : ε → AV}
@[simp] theorem fn0_eq {g : Option ε} : fn0 er g [] = g.map er := rfl
@[simp] theorem fn1_eq {g : α → Option ε} {x : AV} : fn1 ca er g [x] = (ca.dec x).bind fun a => (g a).map er := rfl
@[simp] theorem fn2_eq {g : α → β → Option ε} {x y : AV} : fn2 ca cb er g [x, y] = (ca.dec x).bind fun a => (cb.dec y).bind fun b => (g a b).map er := rfl
@[simp] theorem fn3_eq {g : α → β → γ → Option ε} {x y z : AV} : fn3 ca cb cc er g [x, y, z] = (ca.dec x).bind fun a => (cb.dec y).bind fun b => (cc.dec z).bind fun c => (g a b c).map er := rfl
@[simp] theorem fn4_eq {g : α → β → γ → δ → Option ε} {x y z w : AV} : fn4 ca cb cc cd er g [x, y, z, w] = (ca.dec x).bind fun a => (cb.dec y).bind fun b => (cc.dec z).bind fun c => (cd.dec w).bind fun d => (g a b c d).map er := rfl
theorem fn1_inv {g : α → Option ε} {args : List AV} {r : AV} (h : fn1 ca er g args = some r) : ∃ a e, args = [ca.enc a] ∧ g a = some e ∧ r = er e := by
  unfold fn1 at h
  split at h
  · simp only [Option.bind_eq_some_iff, Option.map_eq_some_iff] at h
    obtain ⟨a, ha, e, he, rfl⟩ := h
    exact ⟨a, e, by rw [ca.ed _ _ ha], he, rfl⟩
  · cases h
theorem fn2_inv {g : α → β → Option ε} {args : List AV} {r : AV} (h : fn2 ca cb er g args = some r) : ∃ a b e, args = [ca.enc a, cb.enc b] ∧ g a b = some e ∧ r = er e := by
  unfold fn2 at h
  split at h
  · simp only [Option.bind_eq_some_iff, Option.map_eq_some_iff] at h
    obtain ⟨a, ha, b, hb, e, he, rfl⟩ := h
    exact ⟨a, b, e, by rw [ca.ed _ _ ha, cb.ed _ _ hb], he, rfl⟩
  · cases h
theorem fn3_inv {g : α → β → γ → Option ε} {args : List AV} {r : AV} (h : fn3 ca cb cc er g args = some r) : ∃ a b c e, args = [ca.enc a, cb.enc b, cc.enc c] ∧ g a b c = some e ∧ r = er e := by
  unfold fn3 at h
  split at h
  · simp only [Option.bind_eq_some_iff, Option.map_eq_some_iff] at h
    obtain ⟨a, ha, b, hb, c, hc, e, he, rfl⟩ := h
    exact ⟨a, b, c, e, by rw [ca.ed _ _ ha, cb.ed _ _ hb, cc.ed _ _ hc], he, rfl⟩
  · cases h
theorem fn4_inv {g : α → β → γ → δ → Option ε} {args : List AV} {r : AV} (h : fn4 ca cb cc cd er g args = some r) : ∃ a b c d e, args = [ca.enc a, cb.enc b, cc.enc c, cd.enc d] ∧ g a b c d = some e ∧ r = er e := by
  unfold fn4 at h
  split at h
  · simp only [Option.bind_eq_some_iff, Option.map_eq_some_iff] at h
    obtain ⟨a, ha, b, hb, c, hc, d, hd, e, he, rfl⟩ := h
    exact ⟨a, b, c, d, e, by rw [ca.ed _ _ ha, cb.ed _ _ hb, cc.ed _ _ hc, cd.ed _ _ hd], he, rfl⟩
  · cases h
theorem fn0_inv {g : Option ε} {args : List AV} {r : AV} (h : fn0 er g args = some r) : ∃ e, args = [] ∧ g = some e ∧ r = er e := by
  unfold fn0 at h
  split at h
  · obtain ⟨e, he, rfl⟩ := Option.map_eq_some_iff.1 h
    exact ⟨e, rfl, he, rfl⟩
  · cases h
end

/-- a pure contract from the walk of its body -/
theorem soundP_of_wk {P : Program} {X : Cfg} (ok : OkX P X) (hm : P.follows .mixedOrders = true) {f : Nat} {fn : Func} (hf : P.funcs[f]? = some fn) (hb : fn.body.isSome = true) (hn : (fn.name == "runtime.NumGoroutine") = false) {g : List AV → Option AV}
    (h : ∀ args r, g args = some r → ∀ G0 : { G : Gh // G.σ = [] }, wk P X G0.1 (fin X fn.results.toList r) (fn.body.get hb) [] (entry fn args [])) : SoundP P X.G f g :=
  soundP_of_ev ok.T hf (c := fn.body.get hb) (by simp) hn fun args r hr G0 => ev_of_wk ok hm (h args r hr G0)

end Go.Proofs.YtbjgepnkakcjaaaDoor.Lift
