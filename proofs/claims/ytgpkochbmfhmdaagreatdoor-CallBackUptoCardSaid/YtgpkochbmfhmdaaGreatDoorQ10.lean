/-
  K8: contracts of kind's Elem and Method.
  V1: words, plainly: numbers of bytes, and what a reader reads.
  V2: word's Reader: how it lies; its methods.
  V3: word's Reader: numbers.
  LIFT, 34: A SLICE THAT IS NIL in a new block may as well be said to be a row without elements: what makes a writer.
  V20: words, written, plainly: a number's bytes; whether it fits; how a writer lies.
  V4: code's forms, and the way numbers are got.
  V8: code's Targets and Falls; slices' Contains, ContainsFunc of numbers.
  V21: word's Writer: its methods.
  V22: word's Writer: all, U, S, Make.
  V23: word's Writer: U, S, Make, All; a clone of bytes.
  V24: class's writer: how it lies; must, two; a writer's bytes out of the store.
  R0: a configuration whose types are a table; kind.Above, for the kernel.
-/
import Derived.Test.YtgpkochbmfhmdaaGreatDoorQ9
namespace Go.Proofs.YtgpkochbmfhmdaaGreatDoor.Lift
open Go
set_option maxRecDepth 100000

/-- the descriptors that a text begins with, and the rest -/
def typesOf (s : Str) : List ATy × Str :=
  if h : descLen s 0 = 0 then ([], s) else (tyOf (s.take (descLen s 0)) :: (typesOf (s.drop (descLen s 0))).1, (typesOf (s.drop (descLen s 0))).2)
termination_by s.length
decreasing_by all_goals
  have h1 : s ≠ [] := by rintro rfl; exact h (by simp [descLen])
  have h2 : 0 < s.length := List.length_pos_iff.2 h1
  simp only [List.length_drop]
  omega
theorem typesOf_none {s : Str} (h : descLen s 0 = 0) : typesOf s = ([], s) := by rw [typesOf]; simp [h]
theorem typesOf_some {s : Str} (h : descLen s 0 ≠ 0) : typesOf s = (tyOf (s.take (descLen s 0)) :: (typesOf (s.drop (descLen s 0))).1, (typesOf (s.drop (descLen s 0))).2) := by
  conv => lhs; rw [typesOf]
  simp [h]

/-- Method: 10.1 -/
def method (s : Str) : List ATy × ATy × Int :=
  if s.head? = some 40 then
    let r := typesOf (s.drop 1)
    if r.2.head? = some 41 then
      if r.2.drop 1 = [86] then (if 32 < wide r.1 then ([], ⟨0, []⟩, 3) else (r.1, ⟨0, []⟩, 0))
      else if (parse (r.2.drop 1)).2 ≠ 0 then ([], ⟨0, []⟩, (parse (r.2.drop 1)).2)
      else if 32 < wide r.1 then ([], ⟨0, []⟩, 3) else (r.1, (parse (r.2.drop 1)).1, 0)
    else ([], ⟨0, []⟩, 100)
  else ([], ⟨0, []⟩, 100)
@[simp] def encMethodR (x : List ATy × ATy × Int) : AV := .tup [.sl (x.1.map encTy), encTy x.2.1, .int .i64 x.2.2]

/-- the list of types and where it lies -/
@[simp] def lstSlot : List ATy → AV
  | [] => .snil
  | _ :: l => .sr 2 l.length 0 (l.length + 1)
@[simp] def lstSto (z : ABlk) : List ATy → Sto
  | [] => [z]
  | x :: l => [z, .row 2 0 0 [encTy x], .row 2 l.length 0 ((x :: l).map encTy)]

theorem p_kindMethod : SoundP Tryz.prog gl 73 (fn1 cStr encMethodR fun s => if s.length < 1099511627776 then some (method s) else none) := by
  refine soundP_of_wk (((((okX_nil.addP p_kindWide).addP p_kindParse).addP p_of).addP p_cut).addP p_CutPrefix) mixed Tryz.func73 rfl rfl fun args r h G0 => ?_
  obtain ⟨s, e, rfl, he, rfl⟩ := fn1_inv h
  simp only [Option.ite_none_right_eq_some, Option.some.injEq] at he
  obtain ⟨hs, rfl⟩ := he
  have okx := ((((okX_nil.addP p_kindWide).addP p_kindParse).addP p_of).addP p_cut).addP p_CutPrefix
  have pre40 : (([40] : Str) <+: s) = (s.head? = some 40) := by
    cases s with
    | nil => simp
    | cons c s => simp [List.cons_prefix_cons, eq_comm]
  by_cases h40 : s.head? = some 40
  · have hc : cutPrefix s [40] = (s.drop 1, true) := by simp [cutPrefix, pre40, h40]
    simp [Tryz.f73, entry, hc]
    refine lp_of okx mixed (fun (x : Str × List ATy) => ⟨64, frL [(3, .ptr 0 0 0 0), (5, .str x.1), (6, .bool true), (7, lstSlot x.2)], lstSto (.row 2 0 0 [encTy ⟨0, []⟩]) x.2⟩)
      (fun x => x.1.length ≤ s.length ∧ x.2.length + x.1.length ≤ s.length ∧ typesOf (s.drop 1) = (x.2 ++ (typesOf x.1).1, (typesOf x.1).2)) (fun x => x.1.length) (s.drop 1, []) ⟨by simp, by simp, by simp⟩ (weak_frL rfl rfl (by simp)) ?_
    rintro ⟨t, l⟩ ⟨hlt, hll, hty⟩
    simp only at hlt hll hty ⊢
    have hts : t.length < 1099511627776 := by omega
    by_cases h0 : descLen t 0 = 0
    · have hcut : cut t = ([], t) := by simp [cut, h0]
      rw [typesOf_none h0] at hty
      simp only [List.append_nil] at hty
      have hr1 : (typesOf (s.drop 1)).1 = l := by rw [hty]
      have hr2 : (typesOf (s.drop 1)).2 = t := by rw [hty]
      have pre41 : (([41] : Str) <+: t) = (t.head? = some 41) := by
        cases t with
        | nil => simp
        | cons c t => simp [List.cons_prefix_cons, eq_comm]
      have hll' : l.length < 1099511627776 := by omega
      by_cases h41 : t.head? = some 41
      · have hc2 : cutPrefix t [41] = (t.drop 1, true) := by simp [cutPrefix, pre41, h41]
        have hdl : (t.drop 1).length < 1099511627776 := by simp; omega
        have hm : method s = if t.drop 1 = [86] then (if 32 < wide l then ([], ⟨0, []⟩, 3) else (l, ⟨0, []⟩, 0))
            else if (parse (t.drop 1)).2 ≠ 0 then ([], ⟨0, []⟩, (parse (t.drop 1)).2)
            else if 32 < wide l then ([], ⟨0, []⟩, 3) else (l, (parse (t.drop 1)).1, 0) := by
          simp only [method, h40, if_true, hr1, hr2, h41]
        generalize t.drop 1 = back at *
        have hw0 : ¬ 32 < wide [] := by simp [wide, longs]
        by_cases h86 : back = [86]
        · subst h86
          by_cases hw : 32 < wide l
          · cases l with
            | nil =>
              exact absurd hw hw0
            | cons x l =>
              obtain ⟨xk, xn⟩ := x
              simp at hll'
              simp [hts, hcut, hc2, hm, hll', hw]
              exact finS_of 9 (by simp)
          · cases l with
            | nil =>
              simp [hts, hcut, hc2, hm, hw]
              refine dk_of (by decide) ?_
              simp
              exact finS_of 9 (by simp)
            | cons x l =>
              obtain ⟨xk, xn⟩ := x
              simp at hll'
              simp [hts, hcut, hc2, hm, hll', hw]
              refine dk_of (by decide) ?_
              simp
              exact finS_of 9 (by simp)
        · cases hp : parse back with
          | mk ty er =>
            rw [hp] at hm
            obtain ⟨tk, tn⟩ := ty
            by_cases he : er = 0
            · subst he
              by_cases hw : 32 < wide l
              · cases l with
                | nil =>
                  exact absurd hw hw0
                | cons x l =>
                  obtain ⟨xk, xn⟩ := x
                  simp at hll'
                  simp [hts, hcut, hc2, hm, hll', hw, h86, hp, hdl]
                  exact finS_of 9 (by simp)
              · cases l with
                | nil =>
                  simp [hts, hcut, hc2, hm, hw, h86, hp, hdl]
                  refine dk_of (by decide) ?_
                  simp
                  refine sd_of (by decide) ?_
                  simp
                  exact finS_of 9 (by simp)
                | cons x l =>
                  obtain ⟨xk, xn⟩ := x
                  simp at hll'
                  simp [hts, hcut, hc2, hm, hll', hw, h86, hp, hdl]
                  refine dk_of (by decide) ?_
                  simp
                  refine sd_of (by decide) ?_
                  simp
                  exact finS_of 9 (by simp)
            · cases l with
              | nil =>
                simp [hts, hcut, hc2, hm, h86, hp, hdl, he]
                exact finS_of 9 (by simp)
              | cons x l =>
                obtain ⟨xk, xn⟩ := x
                simp at hll'
                simp [hts, hcut, hc2, hm, h86, hp, hdl, he]
                exact finS_of 9 (by simp)
      · have hc2 : cutPrefix t [41] = (t, false) := by simp [cutPrefix, pre41, h41]
        have hm : method s = ([], ⟨0, []⟩, 100) := by
          simp only [method, h40, if_true, hr1, hr2, h41, if_false]
        cases l with
        | nil =>
          simp [hts, hcut, hc2, hm]
          exact finS_of 9 (by simp)
        | cons x l =>
          simp [hts, hcut, hc2, hm]
          exact finS_of 9 (by simp)
    · have hcut : cut t = (t.take (descLen t 0), t.drop (descLen t 0)) := by simp [cut, h0]
      have ho := of_ok h0
      have hd := descLen_le t 0
      have hne := ho.1
      have hlen2 : (t.take (descLen t 0)).length < 1099511627776 := by simp; omega
      generalize hq : t.take (descLen t 0) = q at *
      rw [typesOf_some h0, hq] at hty
      cases l with
      | nil =>
        simp [hts, hcut, hne, ho, hlen2]
        refine nextQ_of (t.drop (descLen t 0), [tyOf q]) ⟨by simp; omega, by simp; omega, by simpa using hty⟩ (by simp; omega) (weak_frL rfl rfl (by simp))
      | cons x l =>
        simp at hll
        have hb : (l.length + 1 + 1) * 24 ≤ 140737488355328 := by omega
        simp [hts, hcut, hne, ho, hlen2, hb]
        refine nextQ_less (t.drop (descLen t 0), x :: (l ++ [tyOf q])) ⟨by simp; omega, by simp; omega, by simpa using hty⟩ (by simp; omega) (less_frL fz_gl (st2 := [.row 2 0 0 [encTy (tyOf q)]]) (by simp [G0.2]) rfl (by simp) (by simp) (by simp))
  · have hc : cutPrefix s [40] = (s, false) := by simp [cutPrefix, pre40, h40]
    have hm : method s = ([], ⟨0, []⟩, 100) := by simp [method, h40]
    simp [Tryz.f73, entry, hc]
    refine lp_of okx mixed (fun (_ : Unit) => ⟨64, frL [(3, .ptr 0 0 0 0), (5, .str s), (6, .bool false), (7, .snil)], [.row 2 0 0 [encTy ⟨0, []⟩]]⟩) (fun _ => True) (fun _ => 0) () trivial (weak_frL rfl rfl (by simp)) ?_
    intro _ _
    simp [hm]
    exact finS_of 9 (by simp)
end Go.Proofs.YtgpkochbmfhmdaaGreatDoor.Lift
namespace Go.Proofs.YtgpkochbmfhmdaaGreatDoor.Lift
open Go
set_option maxRecDepth 100000

/-- bytes as a number, the highest first -/
def beNat (l : List UInt8) : Nat := l.foldl (fun x c => x * 256 + c.toNat) 0
theorem beNat_append (l : List UInt8) (c : UInt8) : beNat (l ++ [c]) = beNat l * 256 + c.toNat := by simp [beNat]
theorem foldBe_lt : ∀ (l : List UInt8) (x : Nat), l.foldl (fun x (c : UInt8) => x * 256 + c.toNat) x < (x + 1) * 256 ^ l.length
  | [], x => by simp
  | c :: l, x => by
    have h := foldBe_lt l (x * 256 + c.toNat)
    have hc : c.toNat < 256 := c.toNat_lt
    simp only [List.foldl_cons, List.length_cons]
    refine Nat.lt_of_lt_of_le h ?_
    rw [Nat.pow_succ, Nat.mul_comm (256 ^ l.length) 256, ← Nat.mul_assoc]
    exact Nat.mul_le_mul_right _ (by omega)
theorem beNat_lt (l : List UInt8) : beNat l < 256 ^ l.length := by
  have := foldBe_lt l 0
  simpa [beNat] using this
/-- as many bytes as a number may have -/
def wideK (k : Int) : Bool := decide (k = 1) || (decide (k = 2) || (decide (k = 4) || decide (k = 8)))
theorem wideK_cases {k : Int} (h : wideK k = true) : k = 1 ∨ k = 2 ∨ k = 4 ∨ k = 8 := by
  simp only [wideK, Bool.or_eq_true, decide_eq_true_eq] at h
  exact h
/-- the bytes at a place -/
def bytesAt (b : List UInt8) (i n : Nat) : List UInt8 := (b.drop i).take n
theorem bytesAt_length {b : List UInt8} {i n : Nat} (h : i + n ≤ b.length) : (bytesAt b i n).length = n := by simp [bytesAt]; omega
def wordAt (b : List UInt8) (i n : Nat) : Nat := beNat (bytesAt b i n)
theorem wordAt_lt (b : List UInt8) (i n : Nat) : wordAt b i n < 256 ^ n := by
  refine Nat.lt_of_lt_of_le (beNat_lt _) (Nat.pow_le_pow_right (by decide) ?_)
  simp [bytesAt]
  omega
/-- with a sign -/
def sgnN (n x : Nat) : Int := if x < 2 ^ (8 * n - 1) then x else (x : Int) - 2 ^ (8 * n)
def rdU (b : List UInt8) (i : Nat) (k : Int) : (Int × Int) × Nat :=
  if wideK k = false then ((0, 2), i) else if (b.length : Int) - i < k then ((0, 7), i) else if 9223372036854775808 ≤ wordAt b i k.toNat then ((0, 3), i) else ((wordAt b i k.toNat, 0), i + k.toNat)
def rdS (b : List UInt8) (i : Nat) (k : Int) : (Int × Int) × Nat :=
  if wideK k = false then ((0, 2), i) else if (b.length : Int) - i < k then ((0, 7), i) else ((sgnN k.toNat (wordAt b i k.toNat), 0), i + k.toNat)

theorem wrap_u64 {n : Int} (h1 : 0 ≤ n) (h2 : n < 18446744073709551616) : IntKind.wrap .u64 n = n := by
  simp only [IntKind.wrap, IntKind.bits, IntKind.signed]
  simp
  omega
theorem or_byte (x : Nat) (c : UInt8) : x * 256 ||| c.toNat = x * 256 + c.toNat := by
  have := Nat.shiftLeft_add_eq_or_of_lt (i := 8) (b := c.toNat) c.toNat_lt x
  rw [Nat.shiftLeft_eq] at this
  exact this.symm
/-- a number's next byte -/
theorem or_u64 {x : Nat} (c : UInt8) (hx : x * 256 + 255 < 18446744073709551616) : (BitVec.ofInt 64 ((x : Int) * 256) ||| BitVec.ofInt 64 ((c.toNat : Nat) : Int)).toNat = x * 256 + c.toNat := by
  have hc : c.toNat < 256 := c.toNat_lt
  have e : ((x : Int) * 256) = ((x * 256 : Nat) : Int) := by simp
  rw [e, BitVec.ofInt_natCast, BitVec.ofInt_natCast, BitVec.toNat_or, BitVec.toNat_ofNat, BitVec.toNat_ofNat, Nat.mod_eq_of_lt (by omega), Nat.mod_eq_of_lt (by omega), or_byte]
/-- .. with a sign -/
theorem ofInt_wrap (n : Nat) : BitVec.ofInt 64 (IntKind.wrap .i64 (n : Int)) = BitVec.ofNat 64 n := by
  apply BitVec.eq_of_toNat_eq
  rw [BitVec.toNat_ofInt, BitVec.toNat_ofNat]
  simp only [IntKind.wrap, IntKind.bits, IntKind.signed]
  simp
  split <;> omega
theorem or_i64 {x : Nat} (c : UInt8) (hx : x * 256 + 255 < 18446744073709551616) :
    IntKind.wrap .i64 (((BitVec.ofInt 64 (IntKind.wrap .i64 (IntKind.wrap .i64 (x : Int) * 256)) ||| BitVec.ofInt 64 ((c.toNat : Nat) : Int)).toNat : Nat) : Int) = IntKind.wrap .i64 ((x * 256 + c.toNat : Nat) : Int) := by
  have hc : c.toNat < 256 := c.toNat_lt
  have e : IntKind.wrap .i64 (IntKind.wrap .i64 (x : Int) * 256) = IntKind.wrap .i64 ((x * 256 : Nat) : Int) := by
    simp only [IntKind.wrap, IntKind.bits, IntKind.signed]
    simp
    split <;> split <;> split <;> omega
  rw [e, ofInt_wrap, BitVec.ofInt_natCast, BitVec.toNat_or, BitVec.toNat_ofNat, BitVec.toNat_ofNat, Nat.mod_eq_of_lt (by omega), Nat.mod_eq_of_lt (by omega), or_byte]
theorem round_u64 {x : Nat} (c : UInt8) (hx : x * 256 + 255 < 18446744073709551616) :
    IntKind.wrap .u64 (((IntKind.wrap .u64 ((x : Int) * 2 ^ min 8 (IntKind.bits .u64)) % 2 ^ IntKind.bits .u64).toNat ||| c.toNat % 2 ^ IntKind.bits .u64 : Nat) : Int) = (x : Int) * 256 + c.toNat := by
  have hc : c.toNat < 256 := c.toNat_lt
  have e1 : (2 : Int) ^ min 8 (IntKind.bits .u64) = 256 := rfl
  have e2 : (2 : Int) ^ IntKind.bits .u64 = 18446744073709551616 := rfl
  have e3 : (2 : Nat) ^ IntKind.bits .u64 = 18446744073709551616 := rfl
  have e4 : IntKind.wrap .u64 ((x : Int) * 256) % 18446744073709551616 = (x : Int) * 256 := by
    rw [wrap_u64 (by omega) (by omega)]
    omega
  rw [e1, e2, e3, e4, Nat.mod_eq_of_lt (by omega), show ((x : Int) * 256).toNat = x * 256 by omega, or_byte]
  rw [wrap_u64 (by omega) (by omega)]
  omega
theorem round_i64 {x : Nat} (c : UInt8) (hx : x * 256 + 255 < 18446744073709551616) :
    IntKind.wrap .i64 (((IntKind.wrap .i64 (IntKind.wrap .i64 (x : Int) * 2 ^ min 8 (IntKind.bits .i64)) % 2 ^ IntKind.bits .i64).toNat ||| c.toNat % 2 ^ IntKind.bits .i64 : Nat) : Int) = IntKind.wrap .i64 ((x : Int) * 256 + c.toNat) := by
  have hc : c.toNat < 256 := c.toNat_lt
  have e1 : (2 : Int) ^ min 8 (IntKind.bits .i64) = 256 := rfl
  have e2 : (2 : Int) ^ IntKind.bits .i64 = 18446744073709551616 := rfl
  have e3 : (2 : Nat) ^ IntKind.bits .i64 = 18446744073709551616 := rfl
  have e4 : IntKind.wrap .i64 (IntKind.wrap .i64 (x : Int) * 256) % 18446744073709551616 = (x : Int) * 256 := by
    simp only [IntKind.wrap, IntKind.bits, IntKind.signed]
    simp
    split <;> split <;> omega
  rw [e1, e2, e3, e4, Nat.mod_eq_of_lt (by omega), show ((x : Int) * 256).toNat = x * 256 by omega, or_byte]
  rfl
theorem sgn_of {k : Int} (h : wideK k = true) {x : Nat} (hx : x < 256 ^ k.toNat) :
    (IntKind.wrap .i64 (IntKind.wrap .i64 (x : Int) * 2 ^ (min (64 - 8 * k).toNat 64))).fdiv (2 ^ (min (64 - 8 * k).toNat 64)) = sgnN k.toNat x := by
  rcases wideK_cases h with rfl | rfl | rfl | rfl <;>
  · simp only [IntKind.wrap, IntKind.bits, IntKind.signed, sgnN]
    simp at hx ⊢
    split <;> split <;> split <;> (first | omega | (rw [Int.fdiv_eq_ediv_of_nonneg _ (by decide)]; omega))
end Go.Proofs.YtgpkochbmfhmdaaGreatDoor.Lift
namespace Go.Proofs.YtgpkochbmfhmdaaGreatDoor.Lift
open Go
set_option maxRecDepth 100000

/-- a reader, in its block -/
def rdRow (l : List UInt8) (i : Nat) : ABlk := .row 3 0 0 [.agg [.sl (l.map encByte), .int .i64 i, .bool true]]
def rdOf (st : Sto) (b : Nat) : Option (List UInt8 × Nat) := match st[b]? with
  | some (.row 3 0 0 [.agg [.sl xs, .int .i64 i, .bool true]]) => (mapO decByte xs).bind fun l => if 0 ≤ i ∧ i.toNat ≤ l.length ∧ l.length < 1099511627776 then some (l, i.toNat) else none
  | _ => none
theorem rdOf_eq {st : Sto} {b : Nat} {l : List UInt8} {i : Nat} (h : st[b]? = some (rdRow l i)) (hi : i ≤ l.length) (hl : l.length < 1099511627776) : rdOf st b = some (l, i) := by
  unfold rdOf
  rw [h]
  simp [rdRow, mapO_map (f := decByte) (g := encByte) (fun b => by simp) l, hi, hl]
theorem rdOf_inv {st : Sto} {b : Nat} {x : List UInt8 × Nat} (h : rdOf st b = some x) : st[b]? = some (rdRow x.1 x.2) ∧ x.2 ≤ x.1.length ∧ x.1.length < 1099511627776 := by
  unfold rdOf at h
  split at h
  · rename_i xs i hb
    obtain ⟨l, hl, hx⟩ := Option.bind_eq_some_iff.1 h
    simp only [Option.ite_none_right_eq_some, Option.some.injEq] at hx
    obtain ⟨⟨h0, h1, h2⟩, rfl⟩ := hx
    have := mapO_inv (f := decByte) (g := encByte) decByte_ed xs l hl
    subst this
    refine ⟨?_, h1, h2⟩
    rw [hb, rdRow]
    simp only [Int.toNat_of_nonneg h0]
  · cases h
/-- a method of a reader -/
def sRd (f : List UInt8 → Nat → List AV → Option (AV × Nat)) : Spec := fun args st => match args with
  | .ptr b 0 0 0 :: av => (rdOf st b).bind fun x => (f x.1 x.2 av).map fun r => (r.1, st.set b (rdRow x.1 r.2))
  | _ => none
theorem sRd_eq {f : List UInt8 → Nat → List AV → Option (AV × Nat)} {st : Sto} {b : Nat} {l : List UInt8} {i : Nat} {av : List AV} (h : st[b]? = some (rdRow l i)) (hi : i ≤ l.length) (hl : l.length < 1099511627776) :
    sRd f (.ptr b 0 0 0 :: av) st = (f l i av).map fun r => (r.1, st.set b (rdRow l r.2)) := by
  simp only [sRd, rdOf_eq h hi hl, Option.bind_some]
theorem set_same {st : Sto} {b : Nat} {x : ABlk} (h : st[b]? = some x) : st.set b x = st := by
  apply List.ext_getElem?
  intro j
  rw [List.getElem?_set]
  split
  · rename_i e
    subst e
    obtain ⟨hb, e⟩ := List.getElem?_eq_some_iff.1 h
    rw [if_pos hb, h]
  · rfl
theorem get_set_same {st : Sto} {b : Nat} {x : ABlk} (h : st[b]? = some x) (y : ABlk) : (st.set b y)[b]? = some y := by
  rw [List.getElem?_set, if_pos rfl, if_pos (List.getElem?_eq_some_iff.1 h).1]
theorem rd_of_wk {E : Env} {B : List Nat} (ok : OkX Tryz.prog (XB E B)) {f : Nat} {fn : Func} (hf : Tryz.prog.funcs[f]? = some fn) (hb : fn.body.isSome = true) (hn : (fn.name == "runtime.NumGoroutine") = false) {m : List UInt8 → Nat → List AV → Option (AV × Nat)}
    (h : ∀ (b : Nat) (l : List UInt8) (i : Nat) (av : List AV) (r : AV) (i' : Nat) (st : Sto), m l i av = some (r, i') → i ≤ l.length → l.length < 1099511627776 → st[b]? = some (rdRow l i) →
      ∀ G0 : { G : Gh // G.σ = st }, wk Tryz.prog (XB E B) G0.1 (fun e s => (e = .normal ∨ e = .ret) ∧ resAs (XB E B) s fn.results.toList = some r ∧ s.st = st.set b (rdRow l i')) (fn.body.get hb) [] (entry fn (.ptr b 0 0 0 :: av) st)) : SoundF Tryz.prog gl f (sRd m) :=
  soundF_of_wk ok mixed hf hb hn fun args st r st' hs G0 => by
    unfold sRd at hs
    split at hs
    · rename_i b av
      obtain ⟨⟨l, i⟩, hx, hs2⟩ := Option.bind_eq_some_iff.1 hs
      obtain ⟨⟨r2, i'⟩, hm, he⟩ := Option.map_eq_some_iff.1 hs2
      cases he
      obtain ⟨h1, h2, h3⟩ := rdOf_inv hx
      exact h b l i av _ _ st hm h2 h3 h1 G0
    · cases hs

/-- is -/
def rIs (_ : List UInt8) (i : Nat) (av : List AV) : Option (AV × Nat) := match av with
  | [] => some (.bool true, i)
  | _ => none
theorem f_rdIs : SoundF Tryz.prog gl 176 (sRd rIs) := by
  refine rd_of_wk okX_nil Tryz.func176 rfl rfl fun b l i av r i' st hm h1 h2 h3 G0 => ?_
  unfold rIs at hm
  split at hm
  · cases hm
    have hs := set_same h3
    rw [rdRow] at h3
    simp [Tryz.f176, entry, h3, hs]
  · cases hm
def rAt (_ : List UInt8) (i : Nat) (av : List AV) : Option (AV × Nat) := match av with
  | [] => some (.int .i64 i, i)
  | _ => none
theorem ok_rdIs : OkX Tryz.prog (XE [(176, sRd rIs)]) := okX_nil.add f_rdIs
theorem f_rdAt : SoundF Tryz.prog gl 177 (sRd rAt) := by
  refine rd_of_wk ok_rdIs Tryz.func177 rfl rfl fun b l i av r i' st hm h1 h2 h3 G0 => ?_
  unfold rAt at hm
  split at hm
  · cases hm
    have hs := set_same h3
    have e1 := sRd_eq (f := rIs) (av := []) h3 h1 h2
    rw [rdRow] at h3
    simp [Tryz.f177, entry, e1, rIs, hs, h3]
  · cases hm
def rLeft (l : List UInt8) (i : Nat) (av : List AV) : Option (AV × Nat) := match av with
  | [] => some (.int .i64 ((l.length : Int) - i), i)
  | _ => none
theorem f_rdLeft : SoundF Tryz.prog gl 138 (sRd rLeft) := by
  refine rd_of_wk ok_rdIs Tryz.func138 rfl rfl fun b l i av r i' st hm h1 h2 h3 G0 => ?_
  unfold rLeft at hm
  split at hm
  · cases hm
    have hs := set_same h3
    have e1 := sRd_eq (f := rIs) (av := []) h3 h1 h2
    have hw := wrap_i64 (show (-9223372036854775808 : Int) ≤ (l.length : Int) - i by omega) (by omega)
    rw [rdRow] at h3
    simp [Tryz.f138, entry, e1, rIs, hs]
    refine dk_of (by decide) ?_
    simp [h3, hw]
  · cases hm
def rLook (l : List UInt8) (i : Nat) (av : List AV) : Option (AV × Nat) := match av with
  | [.int .i64 n, .bool may] => some (.int .i64 (if may = false then 2 else if (l.length : Int) - i < n then 7 else 0), i)
  | _ => none
theorem ok_rdLook : OkX Tryz.prog (XE [(138, sRd rLeft), (176, sRd rIs)]) := (okX_nil.add f_rdIs).add f_rdLeft
theorem f_rdLook : SoundF Tryz.prog gl 209 (sRd rLook) := by
  refine rd_of_wk ok_rdLook Tryz.func209 rfl rfl fun b l i av r i' st hm h1 h2 h3 G0 => ?_
  unfold rLook at hm
  split at hm
  · rename_i n may
    cases hm
    have hs := set_same h3
    have e1 := sRd_eq (f := rIs) (av := []) h3 h1 h2
    have e2 := sRd_eq (f := rLeft) (av := []) h3 h1 h2
    cases may with
    | false => simp [Tryz.f209, entry, e1, rIs, hs]
    | true =>
      by_cases h4 : (l.length : Int) - i < n
      · simp [Tryz.f209, entry, e1, e2, rIs, rLeft, hs, h4]
      · simp [Tryz.f209, entry, e1, e2, rIs, rLeft, hs, h4]
  · cases hm
theorem p_wide : SoundP Tryz.prog gl 210 (fn1 cInt encBool fun k => some (wideK k)) := by
  refine soundP_of_wk okX_nil mixed Tryz.func210 rfl rfl fun args r h G0 => ?_
  obtain ⟨k, e, rfl, he, rfl⟩ := fn1_inv h
  cases he
  by_cases h1 : k = 1
  · simp [Tryz.f210, entry, h1, wideK]
    exact finS_fz (by simp)
  by_cases h2 : k = 2
  · simp [Tryz.f210, entry, h2, wideK]
    exact finS_fz (by simp)
  by_cases h3 : k = 4
  · simp [Tryz.f210, entry, h3, wideK]
    exact finS_fz (by simp)
  · simp [Tryz.f210, entry, h1, h2, h3, wideK]
    exact finS_fz (by simp)
end Go.Proofs.YtgpkochbmfhmdaaGreatDoor.Lift
namespace Go.Proofs.YtgpkochbmfhmdaaGreatDoor.Lift
open Go
set_option maxRecDepth 100000

theorem ok_rdNum : OkX Tryz.prog (XE [(209, sRd rLook), (210, liftS 9 (fn1 cInt encBool fun k => some (wideK k)))]) := (okX_nil.addP p_wide).add f_rdLook
def rU (l : List UInt8) (i : Nat) (av : List AV) : Option (AV × Nat) := match av with
  | [.int .i64 k] => some (.tup [.int .i64 (rdU l i k).1.1, .int .i64 (rdU l i k).1.2], (rdU l i k).2)
  | _ => none
theorem bytes_slice {l : List UInt8} {i n : Nat} : List.drop i (List.take (i + n) (l.map encByte)) = (bytesAt l i n).map encByte := by
  rw [← List.map_take, ← List.map_drop, List.drop_take, Nat.add_sub_cancel_left]
  rfl
theorem bytes_all (l : List UInt8) : (∀ x ∈ l.map encByte, x.cells.length = 1) = True := by simp
theorem beNat_succ {l : List UInt8} {j : Nat} (h : j < l.length) : beNat (l.take (j + 1)) = beNat (l.take j) * 256 + l[j].toNat := by
  rw [List.take_succ_eq_append_getElem h, beNat_append]
theorem beNat_take_lt {l : List UInt8} {j : Nat} (h : l.length ≤ 8) (hj : j < l.length) : beNat (l.take j) * 256 + 255 < 18446744073709551616 := by
  have h1 := beNat_lt (l.take j)
  have h2 : (l.take j).length ≤ 7 := by simp; omega
  have h3 := Nat.pow_le_pow_right (n := 256) (by decide) h2
  omega
set_option maxHeartbeats 1000000 in
theorem f_rdU : SoundF Tryz.prog gl 179 (sRd rU) := by
  refine rd_of_wk ok_rdNum Tryz.func179 rfl rfl fun b l i av r i' st hm h1 h2 h3 G0 => ?_
  unfold rU at hm
  split at hm
  · rename_i k
    cases hm
    have hs := set_same h3
    have hg := get_set_same h3
    have e2 := fun n m => sRd_eq (f := rLook) (av := [.int .i64 n, .bool m]) h3 h1 h2
    rw [rdRow] at h3
    cases hk : wideK k with
    | false => simp [Tryz.f179, entry, e2, rLook, rdU, hk, hs]
    | true =>
      by_cases h4 : (l.length : Int) - i < k
      · simp [Tryz.f179, entry, e2, rLook, rdU, hk, hs, h4]
      · have hk2 := wideK_cases hk
        obtain ⟨n, rfl⟩ : ∃ n : Nat, k = n := ⟨k.toNat, by omega⟩
        have hn8 : n ≤ 8 := by omega
        have hin : i + n ≤ l.length := by omega
        have hlen : (bytesAt l i n).length = n := bytesAt_length hin
        have hw1 := wrap_i64 (show (-9223372036854775808 : Int) ≤ (i : Int) + n by omega) (by omega)
        have hp1 : (0 ≤ (i : Int) + n) = True := by simp; omega
        have hp2 : ((i : Int) + n).toNat = i + n := by omega
        have hsl := bytes_slice (l := l) (i := i) (n := n)
        have hx64 := wordAt_lt l i n
        have h64 : (256 : Nat) ^ n ≤ 256 ^ 8 := Nat.pow_le_pow_right (by decide) hn8
        simp [Tryz.f179, entry, e2, rLook, hk, hs, h4]
        refine dk_of (by decide) ?_
        simp [h3, hw1, hp1, hp2, hin, hsl]
        generalize hws : bytesAt l i n = ws at *
        refine lp_of ok_rdNum mixed (fun (j : Nat) => ⟨62, frL [(0, .ptr b 0 0 0), (1, .int .i64 n), (7, .int .u64 (beNat (ws.take j) : Nat)), (35, .sl (ws.map encByte)), (36, .int .i64 ws.length), (37, .int .i64 j)], st⟩) (fun j => j ≤ ws.length) (fun j => ws.length - j) 0 (by simp) (weak_frL rfl rfl (by simp [beNat])) ?_
        intro j hj
        simp
        refine br_dec (fun h5 => ?_) (fun h5 => ?_)
        · have hx : ws[j]? = some ws[j] := by simp [h5]
          have hwj := wrap_i64 (show (-9223372036854775808 : Int) ≤ (j : Int) + 1 by omega) (by omega)
          have hb := beNat_take_lt (by omega) h5
          have hsu := beNat_succ h5
          have hc : (ws[j]).toNat < 256 := (ws[j]).toNat_lt
          have hw3 := wrap_u64 (n := ((ws[j]).toNat : Int)) (by omega) (by omega)
          have ho := round_u64 ws[j] hb
          simp [hx, hwj, hw3, ho]
          refine nextQ_of (j + 1) (by omega) (by omega) (weak_frL rfl rfl (by simp [hsu]))
        · have hj : j = ws.length := by omega
          subst hj
          have hwx : wordAt l i ws.length = beNat ws := by rw [hlen, wordAt, hws]
          rw [hlen] at hwx
          rw [hwx] at hx64
          by_cases h6 : 9223372036854775808 ≤ beNat ws
          · have hw5 : (IntKind.wrap .i64 ((beNat ws : Nat) : Int) < 0) = True := by
              simp only [IntKind.wrap, IntKind.bits, IntKind.signed]
              simp
              split <;> omega
            have hr : rdU l i (n : Int) = ((0, 3), i) := by
              unfold rdU
              rw [if_neg (by rw [hk]; decide), if_neg h4, if_pos (by rw [Int.toNat_natCast, hwx]; exact h6)]
            simp [hw5, hr, hs]
          · have hw5 : IntKind.wrap .i64 ((beNat ws : Nat) : Int) = (beNat ws : Int) := wrap_i64 (by omega) (by omega)
            have hr : rdU l i (n : Int) = ((((beNat ws : Nat) : Int), 0), i + n) := by
              unfold rdU
              rw [if_neg (by rw [hk]; decide), if_neg h4, if_neg (by rw [Int.toNat_natCast, hwx]; exact h6), Int.toNat_natCast, hwx]
            have hn0 : ((beNat ws : Int) < 0) = False := eq_false (by omega)
            simp [hw5, hr, hn0, h3, hw1, rdRow]
  · cases hm
def rS (l : List UInt8) (i : Nat) (av : List AV) : Option (AV × Nat) := match av with
  | [.int .i64 k] => some (.tup [.int .i64 (rdS l i k).1.1, .int .i64 (rdS l i k).1.2], (rdS l i k).2)
  | _ => none
set_option maxHeartbeats 1000000 in
theorem f_rdS : SoundF Tryz.prog gl 213 (sRd rS) := by
  refine rd_of_wk ok_rdNum Tryz.func213 rfl rfl fun b l i av r i' st hm h1 h2 h3 G0 => ?_
  unfold rS at hm
  split at hm
  · rename_i k
    cases hm
    have hs := set_same h3
    have hg := get_set_same h3
    have e2 := fun n m => sRd_eq (f := rLook) (av := [.int .i64 n, .bool m]) h3 h1 h2
    rw [rdRow] at h3
    cases hk : wideK k with
    | false => simp [Tryz.f213, entry, e2, rLook, rdS, hk, hs]
    | true =>
      by_cases h4 : (l.length : Int) - i < k
      · simp [Tryz.f213, entry, e2, rLook, rdS, hk, hs, h4]
      · have hk2 := wideK_cases hk
        obtain ⟨n, rfl⟩ : ∃ n : Nat, k = n := ⟨k.toNat, by omega⟩
        have hn8 : n ≤ 8 := by omega
        have hin : i + n ≤ l.length := by omega
        have hlen : (bytesAt l i n).length = n := bytesAt_length hin
        have hw1 := wrap_i64 (show (-9223372036854775808 : Int) ≤ (i : Int) + n by omega) (by omega)
        have hp1 : (0 ≤ (i : Int) + n) = True := by simp; omega
        have hp2 : ((i : Int) + n).toNat = i + n := by omega
        have hsl := bytes_slice (l := l) (i := i) (n := n)
        have hx64 := wordAt_lt l i n
        have h64 : (256 : Nat) ^ n ≤ 256 ^ 8 := Nat.pow_le_pow_right (by decide) hn8
        simp [Tryz.f213, entry, e2, rLook, hk, hs, h4]
        refine dk_of (by decide) ?_
        simp [h3, hw1, hp1, hp2, hin, hsl]
        generalize hws : bytesAt l i n = ws at *
        refine lp_of ok_rdNum mixed (fun (j : Nat) => ⟨66, frL [(0, .ptr b 0 0 0), (1, .int .i64 n), (7, .int .i64 (IntKind.wrap .i64 (beNat (ws.take j) : Nat))), (36, .sl (ws.map encByte)), (37, .int .i64 ws.length), (38, .int .i64 j)], st⟩) (fun j => j ≤ ws.length) (fun j => ws.length - j) 0 (by simp) (weak_frL rfl rfl (by simp [beNat]; rfl)) ?_
        intro j hj
        simp
        refine br_dec (fun h5 => ?_) (fun h5 => ?_)
        · have hx : ws[j]? = some ws[j] := by simp [h5]
          have hwj := wrap_i64 (show (-9223372036854775808 : Int) ≤ (j : Int) + 1 by omega) (by omega)
          have hb := beNat_take_lt (by omega) h5
          have hsu := beNat_succ h5
          have hc : (ws[j]).toNat < 256 := (ws[j]).toNat_lt
          have hw3 := wrap_i64 (n := ((ws[j]).toNat : Int)) (by omega) (by omega)
          have ho := round_i64 ws[j] hb
          simp [hx, hwj, hw3, ho]
          refine nextQ_of (j + 1) (by omega) (by omega) (weak_frL rfl rfl (by simp [hsu]))
        · have hj : j = ws.length := by omega
          subst hj
          have hwx : wordAt l i ws.length = beNat ws := by rw [hlen, wordAt, hws]
          rw [hlen] at hwx
          rw [hwx] at hx64
          have hr : rdS l i (n : Int) = ((sgnN n (beNat ws), 0), i + n) := by
            unfold rdS
            rw [if_neg (by rw [hk]; decide), if_neg h4, Int.toNat_natCast, hwx]
          have hsg := sgn_of hk (x := beNat ws) (by rw [Int.toNat_natCast]; exact hx64)
          have hw6 : IntKind.wrap .i64 (8 * (n : Int)) = 8 * n := wrap_i64 (by omega) (by omega)
          have hw7 : IntKind.wrap .i64 (64 - 8 * (n : Int)) = 64 - 8 * n := wrap_i64 (by omega) (by omega)
          have hw8 : (0 ≤ 64 - 8 * (n : Int)) = True := eq_true (by omega)
          have hw9 : (8 * (n : Int) ≤ 64) = True := eq_true (by omega)
          rw [Int.toNat_natCast] at hsg
          simp [h3, hw1, hw6, hw7, hw8, hw9, hr, rdRow]
          exact hsg
  · cases hm
end Go.Proofs.YtgpkochbmfhmdaaGreatDoor.Lift
namespace Go.Proofs.YtgpkochbmfhmdaaGreatDoor.Lift
open Go
set_option maxRecDepth 100000

section
variable {G : Gh} {b sz g lo : Nat} {xs ys : List AV}
/-- a block's elements are said anew -/
theorem ext_swap (hb : G.σ[b]? = some (.row sz g lo xs)) : Ext G { G with σ := G.σ.set b (.row sz g lo ys) } where
  os := rfl
  tape := rfl
  output := rfl
  size := Nat.le_refl _
  old := fun _ _ _ _ => rfl
  shape := fun _ c _ _ h => ⟨c, h, rfl⟩
  frozen := fun _ _ h => h
  cell := fun _ _ _ => rfl
  fmap := fun _ _ _ _ h => h
  thaw := fun _ _ h _ => .inl h
  len := by simp
  id := fun j k h => by
    by_cases hj : b = j
    · subst hj
      rw [hb] at h
      cases h
      exact ⟨.row sz g lo ys, sto_set_same hb, Nat.le_refl _, rfl⟩
    · exact ⟨k, by show (G.σ.set b _)[j]? = _; rw [List.getElem?_set, if_neg hj]; exact h, Nat.le_refl _, rfl⟩
  at_ := fun _ _ _ _ _ => rfl
  own := fun blk ⟨j, k, h1, h2, h3⟩ => by
    by_cases hj : b = j
    · subst hj
      have h1' : (G.σ.set b (.row sz g lo ys))[b]? = some k := h1
      rw [sto_set_same hb] at h1'
      cases h1'
      exact .inr ⟨b, _, hb, rfl, h3⟩
    · have h1' : (G.σ.set b (.row sz g lo ys))[j]? = some k := h1
      rw [List.getElem?_set, if_neg hj] at h1'
      exact .inr ⟨j, k, h1', h2, h3⟩
  time := Nat.le_refl _
  zin := fun _ h => .inr h
  zout := fun _ h => h
  foe := rfl

theorem inv_swap (inv : Inv G) (hb : G.σ[b]? = some (.row sz g lo xs)) (hlo : lo ≤ ys.length) (hn : G.ρ b g = none → ys = []) (hrow : ∀ c, RowAt G xs c sz → RowAt { G with σ := G.σ.set b (.row sz g lo ys) } ys c sz) :
    Inv { G with σ := G.σ.set b (.row sz g lo ys) } := by
  have x := ext_swap (ys := ys) hb
  have ne : ∀ {j : Nat} {k : ABlk}, (G.σ.set b (.row sz g lo ys))[j]? = some k → (j = b ∧ k = .row sz g lo ys) ∨ (j ≠ b ∧ G.σ[j]? = some k) := fun {j k} h => by
    by_cases hj : b = j
    · subst hj
      rw [sto_set_same hb] at h
      cases h
      exact .inl ⟨rfl, rfl⟩
    · rw [List.getElem?_set, if_neg hj] at h
      exact .inr ⟨fun e => hj e.symm, h⟩
  have ne2 : ∀ {j : Nat} {k : ABlk}, (G.σ.set b (.row sz g lo ys))[j]? = some k → ∃ k', G.σ[j]? = some k' ∧ k'.gen = k.gen := fun {j k} h => by
    rcases ne h with ⟨rfl, rfl⟩ | ⟨_, h⟩
    · exact ⟨_, hb, rfl⟩
    · exact ⟨k, h, rfl⟩
  have owns : ∀ blk, Owned { G with σ := G.σ.set b (.row sz g lo ys) } blk ↔ Owned G blk := fun blk => by
    refine ⟨fun h => (x.own blk h).elim (fun hlt => ?_) id, fun ⟨j, k, h1, h2, h3⟩ => ?_⟩
    · obtain ⟨j, k, h1, h2, h3⟩ := h
      rcases ne h1 with ⟨rfl, rfl⟩ | ⟨_, h1⟩
      · exact ⟨j, _, hb, rfl, h3⟩
      · exact ⟨j, k, h1, h2, h3⟩
    · by_cases hj : b = j
      · subst hj
        rw [hb] at h1
        cases h1
        exact ⟨b, .row sz g lo ys, sto_set_same hb, rfl, h3⟩
      · exact ⟨j, k, by show (G.σ.set b _)[j]? = _; rw [List.getElem?_set, if_neg hj]; exact h1, h2, h3⟩
  exact
    { rows := fun j sz' g' lo' zs h => by
        rcases ne h with ⟨rfl, e⟩ | ⟨_, h⟩
        · cases e
          obtain ⟨_, r2, _⟩ := inv.rows j sz g lo xs hb
          refine ⟨hlo, fun blk hr => ?_, hn⟩
          obtain ⟨c, e, fz, q1, q2, q3, q4⟩ := r2 blk hr
          exact ⟨c, e, fz, q1, q2, hrow c q3, q4⟩
        · obtain ⟨r1, r2, r3⟩ := inv.rows j sz' g' lo' zs h
          refine ⟨r1, fun blk hr => ?_, r3⟩
          obtain ⟨c, e, fz, q1, q2, q3, q4⟩ := r2 blk hr
          exact ⟨c, e, fz, q1, q2, fun i y hy => ⟨(q3 i y hy).1, fun m z hz => by
            obtain ⟨v, p1, p2⟩ := (q3 i y hy).2 m z hz
            exact ⟨v, p1, p2.ext x⟩⟩, q4⟩
      maps := fun j es h => by
        rcases ne h with ⟨_, e⟩ | ⟨_, h⟩
        · cases e
        · obtain ⟨blk, ents, ck, m1, m2, m3, m4⟩ := inv.maps j es h
          exact ⟨blk, ents, ck, m1, m2, RepE.ext x m3, m4⟩
      inj := fun j j' k k' blk h h' hr hr' => by
        obtain ⟨q, h1, e1⟩ := ne2 h
        obtain ⟨q', h2, e2⟩ := ne2 h'
        exact inv.inj j j' q q' blk h1 h2 (by rw [e1]; exact hr) (by rw [e2]; exact hr')
      lt := inv.lt
      tks := fun j n h => by
        rcases ne h with ⟨_, e⟩ | ⟨_, h⟩
        · cases e
        · exact inv.tks j n h
      held := by
        have e : Owned { G with σ := G.σ.set b (.row sz g lo ys) } = Owned G := funext fun blk => propext (owns blk)
        show G.J G.t G.w (Owned { G with σ := G.σ.set b (.row sz g lo ys) }) G.φ G.z
        rw [e]
        exact inv.held
      stab := inv.stab
      zlt := inv.zlt
      znone := inv.znone
      its := fun j s i h => by
        rcases ne h with ⟨_, e⟩ | ⟨_, h⟩
        · cases e
        · exact inv.its j s i h
      deads := fun j sz' g' blk h hr => by
        rcases ne h with ⟨_, e⟩ | ⟨_, h⟩
        · cases e
        · exact inv.deads j sz' g' blk h hr }
end

/-- a new writer: its bytes are nil -/
@[simp] def sMakeNil : Spec := fun args st => match args with
  | [] => some (.ptr st.length 0 0 0, st ++ [.row 3 0 0 [.agg [.snil, .int .i64 0, .bool true]]])
  | _ => none
/-- a new writer: its bytes are a row without elements -/
@[simp] def sMake : Spec := fun args st => match args with
  | [] => some (.ptr st.length 0 0 0, st ++ [.row 3 0 0 [.agg [.sr (st.length + 1) 0 0 0, .int .i64 0, .bool true]], .row 1 0 0 []])
  | _ => none
theorem make_sr {P : Program} {gl : Nat → Option AV} {f : Nat} (h : SoundF P gl f sMakeNil) : SoundF P gl f sMake where
  calls := fun G args vals r σ' hs inv hJ hg hargs => by
    unfold sMake at hs
    split at hs
    · cases hs
      refine done_imp (h.calls G [] vals _ _ rfl inv hJ hg hargs) fun e w' he => ?_
      cases e with
      | panicked c => exact he.elim
      | outgrown => exact he.elim
      | returned u =>
        obtain ⟨G', rfl, hσ, x, inv', hr⟩ := he
        let G1 := G'.grow G'.w none (.row 1 0 0 [])
        have x1 : Ext G' G1 := ext_grow inv' G'.w none _ rfl rfl rfl (Nat.le_refl _) (fun _ _ => rfl) (fun _ h => by cases h)
        have inv1 : Inv G1 := inv_grow_row inv' G'.w none 1 [] x1 (fun _ _ => rfl) (fun _ h => by cases h) (fun _ => rfl)
        have e1 : G1.σ = G.σ ++ [.row 3 0 0 [.agg [.snil, .int .i64 0, .bool true]], .row 1 0 0 []] := by
          show G'.σ ++ [_] = _
          rw [hσ, List.append_assoc]
          rfl
        have hb : G1.σ[G.σ.length]? = some (.row 3 0 0 [.agg [.snil, .int .i64 0, .bool true]]) := by rw [e1]; simp
        have hρ : G1.ρ G.σ.length 0 ≠ none := fun hn => by
          have := (inv1.rows _ _ _ _ _ hb).2.2 hn
          cases this
        have hl : G'.σ.length = G.σ.length + 1 := by rw [hσ]; simp
        have hn0 : G1.ρ (G.σ.length + 1) 0 = none := by
          show (G'.grow G'.w none (.row 1 0 0 [])).ρ (G.σ.length + 1) 0 = none
          simp [Gh.grow, hl]
        have x2 := ext_swap (ys := [.agg [.sr (G.σ.length + 1) 0 0 0, .int .i64 0, .bool true]]) hb
        have inv2 := inv_swap (ys := [.agg [.sr (G.σ.length + 1) 0 0 0, .int .i64 0, .bool true]]) inv1 hb (Nat.zero_le _) (fun h => absurd h hρ) (fun c hc => by
          intro i y hy
          obtain ⟨p1, p2⟩ := hc 0 _ rfl
          cases i with
          | succ i => cases hy
          | zero =>
            cases hy
            refine ⟨rfl, fun j z hz => ?_⟩
            cases j with
            | zero =>
              cases hz
              obtain ⟨v, q1, q2⟩ := p2 0 _ rfl
              cases q2
              exact ⟨_, q1, .sr0 (sz := 1) ⟨.row 1 0 0 [], by
                show (G1.σ.set G.σ.length _)[G.σ.length + 1]? = _
                rw [List.getElem?_set, if_neg (by omega), e1]
                simp, Nat.le_refl _, rfl⟩ hn0⟩
            | succ j =>
              obtain ⟨v, q1, q2⟩ := p2 (j + 1) z hz
              exact ⟨v, q1, q2.ext x2⟩)
        refine ⟨{ G1 with σ := G1.σ.set G.σ.length (.row 3 0 0 [.agg [.sr (G.σ.length + 1) 0 0 0, .int .i64 0, .bool true]]) }, rfl, ?_, (x.trans x1).trans x2, inv2, (hr.ext x1).ext x2⟩
        show G1.σ.set G.σ.length _ = _
        rw [e1, List.set_append_right _ _ (Nat.le_refl _), Nat.sub_self]
        rfl
    · cases hs
end Go.Proofs.YtgpkochbmfhmdaaGreatDoor.Lift
namespace Go.Proofs.YtgpkochbmfhmdaaGreatDoor.Lift
open Go
set_option maxRecDepth 100000

/-- a byte of a number -/
def byteOf (n : Int) : UInt8 := UInt8.ofNat (n.emod 256).toNat
/-- a number's byte, of so many -/
def beByte (k : Nat) (n : Int) (i : Nat) : UInt8 := byteOf (n.fdiv (2 ^ (8 * (k - 1 - i))))
/-- a number's bytes, the highest first -/
def beB (k : Nat) (n : Int) : List UInt8 := (List.range k).map (beByte k n)
@[simp] theorem beB_length (k : Nat) (n : Int) : (beB k n).length = k := by simp [beB]
theorem wrap_u8_byte (n : Int) : IntKind.wrap .u8 n = ((byteOf n).toNat : Int) := by
  simp only [IntKind.wrap, IntKind.bits, IntKind.signed, byteOf]
  have h1 : 0 ≤ n.emod 256 := Int.emod_nonneg _ (by decide)
  have h2 : n.emod 256 < 256 := Int.emod_lt_of_pos _ (by decide)
  have h3 : (UInt8.ofNat (n.emod 256).toNat).toNat = (n.emod 256).toNat := by
    rw [UInt8.toNat_ofNat']
    exact Nat.mod_eq_of_lt (by omega)
  rw [h3]
  simp
  have e : n % 256 = n.emod 256 := rfl
  omega
/-- does a number go into so many bytes? -/
def fitsT (k n : Int) (sign : Bool) : Bool :=
  if k = 8 then sign || decide (0 ≤ n) else if sign = true then decide (n.fdiv (2 ^ ((8 * k).toNat - 1)) = 0) || decide (n.fdiv (2 ^ ((8 * k).toNat - 1)) = -1) else decide (n.fdiv (2 ^ (8 * k).toNat) = 0)
/-- what a writer wrote, and how often it did -/
structure WO where
  out : List UInt8
  g : Nat
/-- numbers are written -/
def putW (k : Int) (sign : Bool) (l : List Int) (o : WO) : Int × WO :=
  if wideK k = false ∨ (l.any fun n => !fitsT k n sign) = true then (2, o) else (0, ⟨o.out ++ l.flatMap (beB k.toNat), o.g + l.length⟩)
def bytesW (l : List UInt8) (o : WO) : WO := ⟨o.out ++ l, o.g + 1⟩

set_option maxHeartbeats 1000000 in
theorem p_fits : SoundP Tryz.prog gl 241 (fn3 cInt cInt cBool encBool fun k n s => if wideK k = true then some (fitsT k n s) else none) := by
  refine soundP_of_wk okX_nil mixed Tryz.func241 rfl rfl fun args r h G0 => ?_
  obtain ⟨k, n, s, e, rfl, he, rfl⟩ := fn3_inv h
  simp only [Option.ite_none_right_eq_some, Option.some.injEq] at he
  obtain ⟨hk, rfl⟩ := he
  have h8 := wrap_i64 (show (-9223372036854775808 : Int) ≤ 8 * k by have := wideK_cases hk; omega) (by have := wideK_cases hk; omega)
  have h7 := wrap_i64 (show (-9223372036854775808 : Int) ≤ 8 * k - 1 by have := wideK_cases hk; omega) (by have := wideK_cases hk; omega)
  have q8 : (0 ≤ 8 * k) = True := eq_true (by have := wideK_cases hk; omega)
  have q7 : (1 ≤ 8 * k) = True := eq_true (by have := wideK_cases hk; omega)
  unfold fitsT
  by_cases hk8 : k = 8
  · subst hk8
    cases s with
    | true => simp [Tryz.f241, entry]; exact finS_fz (by simp)
    | false => simp [Tryz.f241, entry]; exact finS_fz (by simp)
  · have m8 : min (8 * k).toNat 64 = (8 * k).toNat := by have := wideK_cases hk; omega
    have m7 : min ((8 * k).toNat - 1) 64 = ((8 * k).toNat - 1) := by have := wideK_cases hk; omega
    cases s with
    | true =>
      by_cases hz : n.fdiv (2 ^ ((8 * k).toNat - 1)) = 0
      · simp [Tryz.f241, entry, hk8, h8, h7, q7, IntKind.bits, m7, hz]
        exact finS_fz rfl
      · simp [Tryz.f241, entry, hk8, h8, h7, q7, IntKind.bits, m7, hz]
        exact finS_fz rfl
    | false =>
      simp [Tryz.f241, entry, hk8, h8, q8, IntKind.bits, m8]
      exact finS_fz rfl

/-- a writer, and its bytes -/
def wRow (k : Nat) (o : WO) : ABlk := .row 3 0 0 [.agg [.sr k o.g 0 o.out.length, .int .i64 0, .bool true]]
def bRow (o : WO) : ABlk := .row 1 o.g 0 (o.out.map encByte)
def woOf (st : Sto) (b : Nat) : Option (Nat × WO) := match st[b]? with
  | some (.row 3 0 0 [.agg [.sr k g 0 n, .int .i64 0, .bool true]]) => match st[k]? with
    | some (.row 1 g' 0 xs) => (mapO decByte xs).bind fun l => if g = g' ∧ n = l.length then some (k, ⟨l, g⟩) else none
    | _ => none
  | _ => none
theorem woOf_eq {st : Sto} {b k : Nat} {o : WO} (h : st[b]? = some (wRow k o)) (h2 : st[k]? = some (bRow o)) : woOf st b = some (k, o) := by
  unfold woOf
  rw [h]
  simp [wRow, h2, bRow, mapO_map (f := decByte) (g := encByte) (fun b => by simp) o.out]
theorem woOf_inv {st : Sto} {b : Nat} {x : Nat × WO} (h : woOf st b = some x) : st[b]? = some (wRow x.1 x.2) ∧ st[x.1]? = some (bRow x.2) := by
  unfold woOf at h
  split at h
  · rename_i k g n hb
    split at h
    · rename_i g' xs hk
      obtain ⟨l, hl, hx⟩ := Option.bind_eq_some_iff.1 h
      simp only [Option.ite_none_right_eq_some, Option.some.injEq] at hx
      obtain ⟨⟨rfl, rfl⟩, rfl⟩ := hx
      have := mapO_inv (f := decByte) (g := encByte) decByte_ed xs l hl
      subst this
      exact ⟨hb, hk⟩
    · cases h
  · cases h
/-- a store with a writer -/
def wst (st : Sto) (b k : Nat) (o : WO) : Sto := (st.set b (wRow k o)).set k (bRow o)
structure WB (st : Sto) (b k : Nat) : Prop where
  hb : b < st.length
  hk : k < st.length
  ne : b ≠ k
section
variable {st : Sto} {b k : Nat} {o : WO}
theorem wst_len (st : Sto) (b k : Nat) (o : WO) : (wst st b k o).length = st.length := by simp [wst]
theorem wst_self (h1 : st[b]? = some (wRow k o)) (h2 : st[k]? = some (bRow o)) : wst st b k o = st := by rw [wst, set_same h1, set_same h2]
theorem wb_of (h1 : st[b]? = some (wRow k o)) (h2 : st[k]? = some (bRow o)) : WB st b k where
  hb := (List.getElem?_eq_some_iff.1 h1).1
  hk := (List.getElem?_eq_some_iff.1 h2).1
  ne := fun e => by
    subst e
    rw [h1] at h2
    cases h2
theorem wst_p (o : WO) (q : Sto) (j : Nat) : (wst st b k o ++ q)[st.length + j]? = q[j]? := by
  rw [List.getElem?_append_right (by rw [wst_len]; omega), wst_len]
  congr 1
  omega
theorem wst_p0 (o : WO) (q : Sto) : (wst st b k o ++ q)[st.length]? = q[0]? := wst_p o q 0
theorem wst_take (o : WO) (q : Sto) : List.take st.length (wst st b k o ++ q) = wst st b k o := by
  rw [List.take_append_of_le_length (by rw [wst_len]; omega), List.take_of_length_le (by rw [wst_len]; omega)]
theorem wst_take0 (o : WO) : List.take st.length (wst st b k o) = wst st b k o := List.take_of_length_le (by rw [wst_len]; omega)
variable (H : WB st b k)
include H
theorem wst_b (o : WO) (q : Sto) : (wst st b k o ++ q)[b]? = some (wRow k o) := by
  rw [List.getElem?_append_left (by rw [wst_len]; exact H.hb), wst, List.getElem?_set, if_neg (fun e => H.ne e.symm), List.getElem?_set, if_pos rfl, if_pos H.hb]
theorem wst_k (o : WO) (q : Sto) : (wst st b k o ++ q)[k]? = some (bRow o) := by
  rw [List.getElem?_append_left (by rw [wst_len]; exact H.hk), wst, List.getElem?_set, if_pos rfl, if_pos (by simp; exact H.hk)]
theorem wst_kb (o o' : WO) (q : Sto) : ((wst st b k o ++ q).set k (bRow o')).set b (wRow k o') = wst st b k o' ++ q := by
  rw [List.set_append_left _ _ (by rw [wst_len]; exact H.hk), List.set_append_left _ _ (by rw [List.length_set, wst_len]; exact H.hb)]
  congr 1
  rw [wst, wst, List.set_set, List.set_comm _ _ (fun e => H.ne e.symm), List.set_set]
theorem wst_kget (o : WO) (x : ABlk) (q : Sto) : ((wst st b k o ++ q).set k x)[b]? = some (wRow k o) := by
  rw [List.getElem?_set, if_neg (fun e => H.ne e.symm)]
  exact wst_b H o q
/-- new bytes, as many as there were -/
theorem wst_kset (o o' : WO) (q : Sto) (h1 : o'.g = o.g) (h2 : o'.out.length = o.out.length) : (wst st b k o ++ q).set k (bRow o') = wst st b k o' ++ q := by
  rw [List.set_append_left _ _ (by rw [wst_len]; exact H.hk)]
  congr 1
  rw [wst, wst, List.set_set, wRow, wRow, h1, h2]
theorem woOf_wst (o : WO) (q : Sto) : woOf (wst st b k o ++ q) b = some (k, o) := woOf_eq (wst_b H o q) (wst_k H o q)
theorem wst_wst (o o' : WO) (q : Sto) : wst (wst st b k o ++ q) b k o' = wst st b k o' ++ q := by
  rw [wst, List.set_append_left _ _ (by rw [wst_len]; exact H.hb), List.set_append_left _ _ (by rw [List.length_set, wst_len]; exact H.hk)]
  congr 1
  rw [wst, wst, List.set_comm _ _ H.ne, List.set_set, List.set_comm _ _ (fun e => H.ne e.symm), List.set_set]
theorem wst_shut (hs : st.all (blwB st.length) = true) (o : WO) : (wst st b k o).all (blwB (wst st b k o).length) = true := by
  rw [wst_len]
  refine List.all_eq_true.2 fun x hx => ?_
  rcases List.mem_or_eq_of_mem_set hx with hx | rfl
  · rcases List.mem_or_eq_of_mem_set hx with hx | rfl
    · exact List.all_eq_true.1 hs x hx
    · have := H.hk
      simp [wRow, blwB, blwL, blw]
      omega
  · exact blwL_map (fun b => by simp) _ _
end
/-- a method of a writer -/
def sW (f : WO → List AV → Option (AV × WO)) : Spec := fun args st => match args with
  | .ptr b 0 0 0 :: av => (woOf st b).bind fun x => (f x.2 av).map fun r => (r.1, wst st b x.1 r.2)
  | _ => none
theorem sW_eq {f : WO → List AV → Option (AV × WO)} {st : Sto} {b k : Nat} (H : WB st b k) (o : WO) (av : List AV) (q : Sto) : sW f (.ptr b 0 0 0 :: av) (wst st b k o ++ q) = (f o av).map fun r => (r.1, wst st b k r.2 ++ q) := by
  simp only [sW, woOf_wst H, Option.bind_some, wst_wst H]
/-- a method's contract, from its walk -/
theorem w_of_wk {E : Env} {B : List Nat} (ok : OkX Tryz.prog (XB E B)) {f : Nat} {fn : Func} (hf : Tryz.prog.funcs[f]? = some fn) (hb : fn.body.isSome = true) (hn : (fn.name == "runtime.NumGoroutine") = false) {m : WO → List AV → Option (AV × WO)}
    (h : ∀ (o : WO) (av : List AV) (r : AV) (o' : WO), m o av = some (r, o') → fz r = true ∧ ∀ (st : Sto) (b k : Nat), WB st b k → st.all (blwB st.length) = true →
      ∀ G0 : { G : Gh // G.σ = wst st b k o }, wk Tryz.prog (XB E B) G0.1 (fun e s => (e = .normal ∨ e = .ret) ∧ resAs (XB E B) s fn.results.toList = some r ∧ s.st.take st.length = wst st b k o') (fn.body.get hb) [] (entry fn (.ptr b 0 0 0 :: av) (wst st b k o))) : SoundF Tryz.prog gl f (sW m) :=
  soundD_of_wk ok mixed hf hb hn fun args st r st' hs hc => by
    unfold sW at hs
    split at hs
    · rename_i b av
      obtain ⟨⟨k, o⟩, hx, hs2⟩ := Option.bind_eq_some_iff.1 hs
      obtain ⟨⟨r2, o'⟩, hm, he⟩ := Option.map_eq_some_iff.1 hs2
      cases he
      obtain ⟨h1, h2⟩ := woOf_inv hx
      have H := wb_of h1 h2
      obtain ⟨hr, hw⟩ := h o av _ o' hm
      have e := wst_self h1 h2
      simp only at e
      refine ⟨by rw [wst_len]; exact Nat.le_refl _, wst_shut H hc o', fz_blw hr, fun G0 => ?_⟩
      have := hw st b k H hc
      rw [e] at this
      simp only [wst_len]
      exact this G0
    · cases hs
end Go.Proofs.YtgpkochbmfhmdaaGreatDoor.Lift
namespace Go.Proofs.YtgpkochbmfhmdaaGreatDoor.Lift
open Go
set_option maxRecDepth 100000

/-- is a number in one of the spans? -/
def inSp (op : Int) : List Int → Bool
  | a :: b :: r => (decide (a ≤ op) && decide (op ≤ b)) || inSp op r
  | _ => false
def sIn : Spec := fun args st => match args with
  | [.sl xs, .ptr b 0 0 0] => match st[b]? with
    | some (.row 1 0 0 [.int .i64 op]) => (mapO decInt xs).bind fun l => if l.length % 2 = 0 ∧ l.length < 1099511627776 then some (.bool (inSp op l), st) else none
    | _ => none
  | _ => none
theorem inSp_drop {op : Int} {l : List Int} {k : Nat} (h : k + 1 < l.length) : inSp op (l.drop k) = ((decide (l[k] ≤ op) && decide (op ≤ l[k + 1])) || inSp op (l.drop (k + 2))) := by
  rw [List.drop_eq_getElem_cons (by omega), List.drop_eq_getElem_cons (show k + 1 < l.length from h)]
  rfl
set_option maxHeartbeats 4000000 in
theorem f_formOf1 : SoundF Tryz.prog gl 211 sIn := by
  refine soundF_of_wk okX_nil mixed Tryz.func211 rfl rfl fun args st r st' hs G0 => ?_
  unfold sIn at hs
  split at hs
  · rename_i xs b
    split at hs
    · rename_i op hb
      obtain ⟨l, hl, he⟩ := Option.bind_eq_some_iff.1 hs
      simp only [Option.ite_none_right_eq_some, Option.some.injEq] at he
      obtain ⟨⟨he1, he2⟩, he3⟩ := he
      cases he3
      have := mapO_inv (f := decInt) (g := encInt) cInt.ed xs l hl
      subst this
      clear hs hl
      simp [Tryz.f211, entry]
      refine lp_of okX_nil mixed (fun (k : Nat) => ⟨26, frL [(0, .sl (l.map encInt)), (1, .ptr b 0 0 0), (3, .bool false), (4, .int .i64 ((2 * k : Nat) : Int))], st⟩) (fun k => 2 * k ≤ l.length ∧ inSp op (l.drop (2 * k)) = inSp op l) (fun k => l.length - 2 * k) 0 (by simp) (weak_frL rfl rfl (by simp)) ?_
      intro k ⟨hk, hq⟩
      have e0 : ((((2 * k : Nat) : Int)) < (l.length : Int)) = (2 * k < l.length) := by simp; omega
      simp only [Int.natCast_mul] at *
      have c2 : ((2 : Nat) : Int) = 2 := rfl
      rw [c2] at e0
      simp [e0]
      refine br_dec (fun h3 => ?_) (fun h3 => ?_)
      · have h4 : 2 * k + 1 < l.length := by omega
        have hx : l[2 * k]? = some l[2 * k] := List.getElem?_eq_getElem (by omega)
        have hy : l[2 * k + 1]? = some l[2 * k + 1] := List.getElem?_eq_getElem h4
        rw [inSp_drop h4] at hq
        have hw1 := wrap_i64 (show (-9223372036854775808 : Int) ≤ 2 * (k : Int) + 1 by omega) (by omega)
        have hw2 := wrap_i64 (show (-9223372036854775808 : Int) ≤ 2 * (k : Int) + 2 by omega) (by omega)
        have hn1 : (2 * (k : Int)).toNat = 2 * k := by omega
        have hn2 : (2 * (k : Int) + 1).toNat = 2 * k + 1 := by omega
        have hp1 : (0 ≤ 2 * (k : Int)) = True := eq_true (by omega)
        have hp2 : (0 ≤ 2 * (k : Int) + 1) = True := eq_true (by omega)
        have next : inSp op (l.drop (2 * k + 2)) = inSp op l → (2 * (k + 1) ≤ l.length ∧ inSp op (l.drop (2 * (k + 1))) = inSp op l) := fun h => ⟨by omega, h⟩
        simp
        refine dk_of (by decide) ?_
        by_cases h5 : l[2 * k] ≤ op
        · by_cases h6 : op ≤ l[2 * k + 1]
          · simp only [h5, h6, decide_true, Bool.and_self, Bool.true_or] at hq
            simp [hb, hx, hy, hw1, hn1, hn2, hp1, hp2, h5, h6, ← hq]
          · simp only [h5, h6, decide_true, decide_false, Bool.and_false, Bool.false_or] at hq
            simp [hb, hx, hy, hw1, hw2, hn1, hn2, hp1, hp2, h5, h6]
            exact nextQ_of (k + 1) (next hq) (by omega) (weak_frL rfl rfl (by simp [Int.mul_add]))
        · simp only [h5, decide_false, Bool.false_and, Bool.false_or] at hq
          simp [hb, hx, hw2, hn1, hp1, h5]
          exact nextQ_of (k + 1) (next hq) (by omega) (weak_frL rfl rfl (by simp [Int.mul_add]))
      · have : l.drop (2 * k) = [] := List.drop_eq_nil_of_le (by omega)
        rw [this] at hq
        simp [← hq, inSp]
    · cases hs
  · cases hs
/-- how an instruction's operands stand -/
def formT (op : Int) : Int :=
  if inSp op [0, 10, 26, 33, 42, 47, 50, 51, 59, 66, 75, 80, 83, 84, 87, 90, 92, 92, 95, 97, 100, 101, 104, 105, 108, 109, 112, 113, 116, 117, 120, 131] = true then 1 else
  if inSp op [133, 133, 136, 136, 145, 148, 172, 173, 176, 177, 190, 191, 194, 195] = true then 1 else
  if op = 16 then 2 else
  if op = 17 then 3 else
  if inSp op [18, 18, 21, 22, 25, 25, 54, 55, 58, 58, 188, 188] = true then 4 else
  if inSp op [19, 20, 178, 184, 187, 187, 189, 189, 192, 193] = true then 5 else
  if op = 132 then 6 else
  if inSp op [153, 167, 198, 199] = true then 7 else
  if op = 170 then 8 else
  if op = 171 then 9 else
  0
theorem range_32' : List.range 32 = [0, 1, 2, 3, 4, 5, 6, 7, 8, 9, 10, 11, 12, 13, 14, 15, 16, 17, 18, 19, 20, 21, 22, 23, 24, 25, 26, 27, 28, 29, 30, 31] := by decide
theorem range_14' : List.range 14 = [0, 1, 2, 3, 4, 5, 6, 7, 8, 9, 10, 11, 12, 13] := by decide
theorem range_12' : List.range 12 = [0, 1, 2, 3, 4, 5, 6, 7, 8, 9, 10, 11] := by decide
theorem range_10' : List.range 10 = [0, 1, 2, 3, 4, 5, 6, 7, 8, 9] := by decide
theorem p_formOf : SoundP Tryz.prog gl 180 (fn1 cInt encInt fun op => some (formT op)) := by
  refine soundP_of_wk ((okX_nil.add f_formOf1).b [7, 11, 21, 25, 32]) mixed Tryz.func180 rfl rfl fun args r h G0 => ?_
  obtain ⟨op, e, rfl, he, rfl⟩ := fn1_inv h
  cases he
  by_cases h0 : inSp op [0, 10, 26, 33, 42, 47, 50, 51, 59, 66, 75, 80, 83, 84, 87, 90, 92, 92, 95, 97, 100, 101, 104, 105, 108, 109, 112, 113, 116, 117, 120, 131] = true
  · simp [Tryz.f180, entry, sIn, formT, range_32', range_14', range_12', range_10', h0]
    exact finS_fz rfl
  by_cases h1 : inSp op [133, 133, 136, 136, 145, 148, 172, 173, 176, 177, 190, 191, 194, 195] = true
  · simp [Tryz.f180, entry, sIn, formT, range_32', range_14', range_12', range_10', h0, h1]
    exact finS_fz rfl
  by_cases h2 : op = 16
  · have eh2 := eq_true h2
    simp [Tryz.f180, entry, sIn, formT, range_32', range_14', range_12', range_10', h0, h1, eh2]
    exact finS_fz rfl
  by_cases h3 : op = 17
  · have eh3 := eq_true h3
    simp [Tryz.f180, entry, sIn, formT, range_32', range_14', range_12', range_10', h0, h1, h2, eh3]
    exact finS_fz rfl
  by_cases h4 : inSp op [18, 18, 21, 22, 25, 25, 54, 55, 58, 58, 188, 188] = true
  · simp [Tryz.f180, entry, sIn, formT, range_32', range_14', range_12', range_10', h0, h1, h2, h3, h4]
    exact finS_fz rfl
  by_cases h5 : inSp op [19, 20, 178, 184, 187, 187, 189, 189, 192, 193] = true
  · simp [Tryz.f180, entry, sIn, formT, range_32', range_14', range_12', range_10', h0, h1, h2, h3, h4, h5]
    exact finS_fz rfl
  by_cases h6 : op = 132
  · have eh6 := eq_true h6
    simp [Tryz.f180, entry, sIn, formT, range_32', range_14', range_12', range_10', h0, h1, h2, h3, h4, h5, eh6]
    exact finS_fz rfl
  by_cases h7 : inSp op [153, 167, 198, 199] = true
  · simp [Tryz.f180, entry, sIn, formT, range_32', range_14', range_12', range_10', h0, h1, h2, h3, h4, h5, h6, h7]
    exact finS_fz rfl
  by_cases h8 : op = 170
  · have eh8 := eq_true h8
    simp [Tryz.f180, entry, sIn, formT, range_32', range_14', range_12', range_10', h0, h1, h2, h3, h4, h5, h6, h7, eh8]
    exact finS_fz rfl
  by_cases h9 : op = 171
  · have eh9 := eq_true h9
    simp [Tryz.f180, entry, sIn, formT, range_32', range_14', range_12', range_10', h0, h1, h2, h3, h4, h5, h6, h7, h8, eh9]
    exact finS_fz rfl
  simp [Tryz.f180, entry, sIn, formT, range_32', range_14', range_12', range_10', h0, h1, h2, h3, h4, h5, h6, h7, h8, h9]
  exact finS_fz rfl
theorem and_3 (n : Nat) : ((n % 2 ^ IntKind.bits .i64 &&& 3 % 2 ^ IntKind.bits .i64 : Nat) : Int) = (n : Int) % 4 := by
  have h2 : (2 : Nat) ^ IntKind.bits .i64 = 18446744073709551616 := rfl
  have h := Nat.and_two_pow_sub_one_eq_mod (n % 18446744073709551616) 2
  have h3 : (3 : Nat) % 18446744073709551616 = 2 ^ 2 - 1 := rfl
  rw [h2, h3, h]
  omega
theorem p_pad : SoundP Tryz.prog gl 212 (fn1 cInt encInt fun at_ => if 0 ≤ at_ ∧ at_ < 1099511627776 then some (3 - at_ % 4) else none) := by
  refine soundP_of_wk okX_nil mixed Tryz.func212 rfl rfl fun args r h G0 => ?_
  obtain ⟨a, e, rfl, he, rfl⟩ := fn1_inv h
  simp only [Option.ite_none_right_eq_some, Option.some.injEq] at he
  obtain ⟨⟨h1, h2⟩, rfl⟩ := he
  obtain ⟨n, rfl⟩ : ∃ n : Nat, a = n := ⟨a.toNat, by omega⟩
  have ha := and_3 n
  have hw1 : IntKind.wrap .i64 ((n : Int) % 4) = (n : Int) % 4 := wrap_i64 (by omega) (by omega)
  have hw2 : IntKind.wrap .i64 (3 - (n : Int) % 4) = 3 - (n : Int) % 4 := wrap_i64 (by omega) (by omega)
  simp [Tryz.f212, entry, ha, hw1, hw2]
  exact finS_fz rfl

/-- a reader of instructions, in its block -/
def crRow (b : Nat) (bad : Bool) : ABlk := .row 2 0 0 [.agg [.ptr b 0 0 0, .bool bad]]
def crOf (st : Sto) (c : Nat) : Option (Nat × Bool) := match st[c]? with
  | some (.row 2 0 0 [.agg [.ptr b 0 0 0, .bool bad]]) => some (b, bad)
  | _ => none
theorem crOf_inv {st : Sto} {c : Nat} {x : Nat × Bool} (h : crOf st c = some x) : st[c]? = some (crRow x.1 x.2) := by
  unfold crOf at h
  split at h
  · rename_i hb
    cases h
    exact hb
  · cases h
theorem crOf_eq {st : Sto} {c b : Nat} {bad : Bool} (h : st[c]? = some (crRow b bad)) : crOf st c = some (b, bad) := by
  unfold crOf
  rw [h]
  rfl
end Go.Proofs.YtgpkochbmfhmdaaGreatDoor.Lift
namespace Go.Proofs.YtgpkochbmfhmdaaGreatDoor.Lift
open Go
set_option maxRecDepth 100000

/-- where the first one stands that will do; -1: none will -/
def findInt (p : Int → Bool) (l : List Int) : Int := if l.findIdx p < l.length then (l.findIdx p : Nat) else -1
theorem findInt_any (p : Int → Bool) (l : List Int) : decide (0 ≤ findInt p l) = l.any p := by
  unfold findInt
  by_cases h : l.findIdx p < l.length
  · rw [if_pos h]
    have : l.any p = true := by
      obtain ⟨x, hx, hp⟩ := List.findIdx_lt_length.1 h
      exact List.any_eq_true.2 ⟨x, hx, hp⟩
    rw [this]
    simp
  · rw [if_neg h]
    have : l.any p = false := by
      cases hq : l.any p with
      | false => rfl
      | true =>
        obtain ⟨x, hx, hp⟩ := List.any_eq_true.1 hq
        exact absurd (List.findIdx_lt_length.2 ⟨x, hx, hp⟩) h
    rw [this]
    rfl
theorem findInt_at {p : Int → Bool} {l : List Int} {j : Nat} (h : j < l.length) (hp : p l[j] = true) (hn : ∀ (k : Nat) (hk : k < l.length), k < j → p l[k] = false) : findInt p l = j := by
  have : l.findIdx p = j := (List.findIdx_eq h).2 ⟨hp, fun k hk => by simpa using hn k (by omega) hk⟩
  unfold findInt
  rw [this, if_pos h]
theorem findInt_none {p : Int → Bool} {l : List Int} (hn : ∀ (k : Nat) (hk : k < l.length), p l[k] = false) : findInt p l = -1 := by
  unfold findInt
  rw [if_neg]
  intro h
  obtain ⟨x, hx, hp⟩ := List.findIdx_lt_length.1 h
  obtain ⟨k, hk, rfl⟩ := List.getElem_of_mem hx
  rw [hn k hk] at hp
  cases hp
theorem findInt_congr {p q : Int → Bool} {l : List Int} (h : ∀ x ∈ l, p x = q x) : findInt p l = findInt q l := by
  have : l.findIdx p = l.findIdx q := by
    induction l with
    | nil => rfl
    | cons a l ih =>
      rw [List.findIdx_cons, List.findIdx_cons, h a (by simp), ih fun x hx => h x (by simp [hx])]
  unfold findInt
  rw [this]

theorem p_IndexInt : SoundP Tryz.prog gl 197 (fn2 (cL cInt) cInt encInt fun l x => if l.length < 1099511627776 then some (findInt (fun y => decide (x = y)) l) else none) := by
  refine soundP_of_wk okX_nil mixed Tryz.func197 rfl rfl fun args r h G0 => ?_
  obtain ⟨l, x, e, rfl, he, rfl⟩ := fn2_inv h
  simp only [Option.ite_none_right_eq_some, Option.some.injEq] at he
  obtain ⟨hs, rfl⟩ := he
  simp [Tryz.f197, entry]
  refine lp_of okX_nil mixed (fun (i : Nat) => ⟨19, frL [(0, .sl (l.map encInt)), (1, .int .i64 x), (7, .int .i64 l.length), (8, .int .i64 i)], []⟩) (fun i => i ≤ l.length ∧ ∀ (k : Nat) (hk : k < l.length), k < i → ¬ x = l[k]) (fun i => l.length - i) 0 (by simp) (weak_frL rfl rfl (by simp)) ?_
  intro i ⟨hi, hn⟩
  simp
  refine br_dec (fun h3 => ?_) (fun h3 => ?_)
  · have hx : l[i]? = some l[i] := by simp [h3]
    have hw := wrap_i64 (show (-9223372036854775808 : Int) ≤ (i : Int) + 1 by omega) (by omega)
    by_cases h4 : x = l[i]
    · have hf := findInt_at (p := fun y => decide (x = y)) h3 (decide_eq_true h4) fun k hk hki => decide_eq_false (hn k hk hki)
      simp [hx, ← h4, hf]
      exact finS_fz rfl
    · simp [hx, h4, hw]
      refine nextQ_of (i + 1) ⟨h3, fun k hk hki => ?_⟩ (by omega) (weak_frL rfl rfl (by simp))
      rcases Nat.lt_or_ge k i with h8 | h8
      · exact hn k hk h8
      · have : k = i := by omega
        subst this
        exact h4
  · have hf := findInt_none (p := fun y => decide (x = y)) fun k hk => decide_eq_false (hn k hk (by omega))
    simp [hf]
    exact finS_fz rfl
theorem p_ContainsInt : SoundP Tryz.prog gl 158 (fn2 (cL cInt) cInt encBool fun l x => if l.length < 1099511627776 then some (l.any fun y => decide (x = y)) else none) := by
  refine soundP_of_wk (okX_nil.addP p_IndexInt) mixed Tryz.func158 rfl rfl fun args r h G0 => ?_
  obtain ⟨l, x, e, rfl, he, rfl⟩ := fn2_inv h
  simp only [Option.ite_none_right_eq_some, Option.some.injEq] at he
  obtain ⟨hs, rfl⟩ := he
  rw [← findInt_any]
  simp [Tryz.f158, entry, hs]
  exact finS_fz rfl

/-- does an instruction's next one follow? -/
def fallsT (i : AInstr) : Bool := !(([167, 170, 171, 172, 173, 176, 177, 191] : List Int).any fun y => decide (i.op = y))
theorem p_Falls : SoundP Tryz.prog gl 132 (fn1 cInstr encBool fun i => some (fallsT i)) := by
  refine soundP_of_wk ((okX_nil.addP p_ContainsInt).b [3]) mixed Tryz.func132 rfl rfl fun args r h G0 => ?_
  obtain ⟨i, e, rfl, he, rfl⟩ := fn1_inv h
  cases he
  obtain ⟨at_, op, a, b, cs⟩ := i
  unfold fallsT
  generalize hq : (([167, 170, 171, 172, 173, 176, 177, 191] : List Int).any fun y => decide (op = y)) = q
  simp [Tryz.f132, entry, hq]
  exact finS_fz rfl

open Classical in
/-- slices.IndexFunc of numbers, with a function that only looks (E: what functions do) -/
noncomputable def sIdxF (E : Env) : Spec := fun args st => match args with
  | [.sl xs, .fn (.func k) first cap] => (E.look k).bind fun S => (mapO decInt xs).bind fun l =>
    if h : l.length < 1099511627776 ∧ ∃ p : Int → Bool, ∀ x ∈ l, S (first ++ [.int .i64 x] ++ cap) st = some (.bool (p x), st) then some (.int .i64 (findInt h.2.choose l), st) else none
  | _ => none
theorem sIdxF_eq {E : Env} {k : Nat} {first cap : List AV} {S : Spec} {st : Sto} {l : List Int} (hS : E.look k = some S) (hl : l.length < 1099511627776) (p : Int → Bool) (hp : ∀ x ∈ l, S (first ++ [.int .i64 x] ++ cap) st = some (.bool (p x), st)) :
    sIdxF E [.sl (l.map encInt), .fn (.func k) first cap] st = some (.int .i64 (findInt p l), st) := by
  have hm : mapO decInt (l.map encInt) = some l := mapO_map cInt.de l
  have hex : l.length < 1099511627776 ∧ ∃ p : Int → Bool, ∀ x ∈ l, S (first ++ [.int .i64 x] ++ cap) st = some (.bool (p x), st) := ⟨hl, p, hp⟩
  simp only [sIdxF, hS, hm, Option.bind_some]
  rw [dif_pos hex]
  have : findInt hex.2.choose l = findInt p l := findInt_congr fun x hx => by
    have h1 := hex.2.choose_spec x hx
    rw [hp x hx] at h1
    simp only [Option.some.injEq, Prod.mk.injEq, AV.bool.injEq, and_true] at h1
    exact h1.symm
  rw [this]
theorem f_IndexFuncInt {E : Env} (ok : OkX Tryz.prog (XE E)) : SoundF Tryz.prog gl 183 (sIdxF E) := by
  refine soundF_of_wk ok mixed Tryz.func183 rfl rfl fun args st r st' hs G0 => ?_
  unfold sIdxF at hs
  split at hs
  · rename_i xs f first cap
    obtain ⟨S, hS, hs2⟩ := Option.bind_eq_some_iff.1 hs
    obtain ⟨l, hl, hs3⟩ := Option.bind_eq_some_iff.1 hs2
    split at hs3
    · rename_i hex
      have hp := hex.2.choose_spec
      have hlen := hex.1
      generalize hex.2.choose = p at *
      cases hs3
      have := mapO_inv (f := decInt) (g := encInt) cInt.ed xs l hl
      subst this
      clear hs hs2 hl
      simp [Tryz.f183, entry]
      refine lp_of ok mixed (fun (i : Nat) => ⟨19, frL [(0, .sl (l.map encInt)), (1, .fn (.func f) first cap), (7, .int .i64 l.length), (8, .int .i64 i)], st⟩) (fun i => i ≤ l.length ∧ ∀ (k : Nat) (hk : k < l.length), k < i → p l[k] = false) (fun i => l.length - i) 0 (by simp) (weak_frL rfl rfl (by simp)) ?_
      intro i ⟨hi, hn⟩
      simp
      refine br_dec (fun h3 => ?_) (fun h3 => ?_)
      · have hx : l[i]? = some l[i] := by simp [h3]
        have hw := wrap_i64 (show (-9223372036854775808 : Int) ≤ (i : Int) + 1 by omega) (by omega)
        have hq := hp l[i] (List.getElem_mem _)
        rw [List.append_assoc, List.singleton_append] at hq
        cases h4 : p l[i] with
        | true =>
          rw [h4] at hq
          have hf := findInt_at h3 h4 hn
          simp [hx, hS, hq, hf]
        | false =>
          rw [h4] at hq
          simp [hx, hS, hq, hw]
          refine nextQ_of (i + 1) ⟨h3, fun k hk hki => ?_⟩ (by omega) (weak_frL rfl rfl (by simp))
          rcases Nat.lt_or_ge k i with h8 | h8
          · exact hn k hk h8
          · have : k = i := by omega
            subst this
            exact h4
      · have hf := findInt_none (p := p) fun k hk => hn k hk (by omega)
        simp [hf]
    · cases hs3
  · cases hs
open Classical in
/-- slices.ContainsFunc of numbers, with a function that only looks -/
noncomputable def sConF (E : Env) : Spec := fun args st => match args with
  | [.sl xs, .fn (.func k) first cap] => (sIdxF E [.sl xs, .fn (.func k) first cap] st).bind fun r => match r.1 with
    | .int .i64 n => some (.bool (decide (0 ≤ n)), r.2)
    | _ => none
  | _ => none
theorem sConF_eq {E : Env} {k : Nat} {first cap : List AV} {S : Spec} {st : Sto} {l : List Int} (hS : E.look k = some S) (hl : l.length < 1099511627776) (p : Int → Bool) (hp : ∀ x ∈ l, S (first ++ [.int .i64 x] ++ cap) st = some (.bool (p x), st)) :
    sConF E [.sl (l.map encInt), .fn (.func k) first cap] st = some (.bool (l.any p), st) := by
  simp only [sConF, sIdxF_eq hS hl p hp, Option.bind_some, findInt_any]
theorem f_ContainsFuncInt {E : Env} (ok : OkX Tryz.prog (XE E)) : SoundF Tryz.prog gl 140 (sConF E) := by
  refine soundF_of_wk (okX_nil.add (f_IndexFuncInt ok)) mixed Tryz.func140 rfl rfl fun args st r st' hs G0 => ?_
  unfold sConF at hs
  split at hs
  · rename_i xs k first cap
    obtain ⟨⟨v, st2⟩, h1, h2⟩ := Option.bind_eq_some_iff.1 hs
    simp only at h2
    split at h2
    · cases h2
      simp [Tryz.f140, entry, h1]
    · cases h2
  · cases hs

def toAV (c : ACase) : AV := .int .i64 c.to
@[simp] theorem blwL_toAV (n k : Nat) (cs : List ACase) : blwL n (List.take k (List.map toAV cs)) = true := by rw [← List.map_take]; exact blwL_map (fun _ => rfl) _ _
@[simp] theorem fzL_toAV (cs : List ACase) : fzL (List.map toAV cs) = true := fzL_map (fun _ => rfl) _
/-- where an instruction leads -/
def targetsT (i : AInstr) : List Int := if formT i.op < 7 then [] else i.a :: (if formT i.op = 7 then [] else i.cases.map ACase.to)
set_option maxHeartbeats 1000000 in
theorem p_Targets : SoundP Tryz.prog gl 141 (fn1 cInstr (cL cInt).enc fun i => if i.cases.length < 1099511627776 then some (targetsT i) else none) := by
  have okx := (okX_nil.addP p_formOf).b [15, 29]
  refine soundP_of_wk okx mixed Tryz.func141 rfl rfl fun args r h G0 => ?_
  obtain ⟨i, e, rfl, he, rfl⟩ := fn1_inv h
  simp only [Option.ite_none_right_eq_some, Option.some.injEq] at he
  obtain ⟨hs, rfl⟩ := he
  obtain ⟨at_, op, a, b, cs⟩ := i
  simp only at hs
  unfold targetsT
  simp only
  generalize hf : formT op = f
  by_cases h1 : f < 7
  · have h2 : (7 ≤ f) = False := eq_false (by omega)
    have h3 : (7 < f) = False := eq_false (by omega)
    simp [Tryz.f141, entry, hf, h1, h2, h3]
    exact finS_of 9 (by simp)
  · have h2 : (7 ≤ f) = True := eq_true (by omega)
    by_cases h3 : f = 7
    · subst h3
      simp [Tryz.f141, entry, hf]
      exact finS_of 9 (by simp)
    · have h4 : (7 < f) = True := eq_true (by omega)
      simp [Tryz.f141, entry, hf, h1, h2, h3, h4]
      refine lp_of okx mixed (fun (k : Nat) => ⟨33, frL [(1, .ptr 0 0 0 0), (3, .sr 1 k 0 (k + 1)), (20, .sl (cs.map encCase)), (21, .int .i64 cs.length), (22, .int .i64 k)], [.row 5 0 0 [.agg [.int .i64 at_, .int .i64 op, .int .i64 a, .int .i64 b, .sl (cs.map encCase)]], .row 1 k 0 (.int .i64 a :: (cs.map toAV).take k)]⟩) (fun k => k ≤ cs.length) (fun k => cs.length - k) 0 (by simp) (weak_frL rfl rfl (by simp)) ?_
      intro k hk
      have htl : min k cs.length = k := by omega
      simp
      refine br_dec (fun h5 => ?_) (fun h5 => ?_)
      · have hx : cs[k]? = some cs[k] := by simp [h5]
        have hw := wrap_i64 (show (-9223372036854775808 : Int) ≤ (k : Int) + 1 by omega) (by omega)
        have hb : (k + 1 + 1) * 8 ≤ 140737488355328 := by omega
        have hst : List.take k (List.take k (cs.map toAV)) ++ [AV.int .i64 cs[k].to] = List.take (k + 1) (cs.map toAV) := by
          rw [List.take_take, Nat.min_self, ← List.map_take, ← List.map_take, List.take_succ_eq_append_getElem h5, List.map_append]
          rfl
        simp [hx, hw, hb, htl]
        exact nextQ_less (k + 1) h5 (by omega) (less_take fz_gl G0.2 rfl (by simp [hst, htl]) (by simp) (by simp))
      · have hk2 : k = cs.length := by omega
        subst hk2
        have hto : List.map toAV cs = List.map encInt (List.map ACase.to cs) := by rw [List.map_map]; rfl
        simp
        refine finS_of 9 ?_
        simp
        exact fun c _ => rfl
end Go.Proofs.YtgpkochbmfhmdaaGreatDoor.Lift
namespace Go.Proofs.YtgpkochbmfhmdaaGreatDoor.Lift
open Go
set_option maxRecDepth 100000

/-- is -/
def wIs (o : WO) (av : List AV) : Option (AV × WO) := match av with
  | [] => some (.bool true, o)
  | _ => none
theorem f_wIs : SoundF Tryz.prog gl 208 (sW wIs) := by
  refine w_of_wk okX_nil Tryz.func208 rfl rfl fun o av r o' hm => ?_
  unfold wIs at hm
  split at hm
  · cases hm
    refine ⟨rfl, fun st b k H hsh G0 => ?_⟩
    have e1 := wst_b H o []
    have et := wst_take0 (st := st) (b := b) (k := k) o
    rw [wRow] at e1
    rw [List.append_nil] at e1
    simp [Tryz.f208, entry, e1, et]
  · cases hm
theorem ok_wIs : OkX Tryz.prog (XE [(208, sW wIs)]) := okX_nil.add f_wIs
/-- Len -/
def wLen (o : WO) (av : List AV) : Option (AV × WO) := match av with
  | [] => some (.int .i64 o.out.length, o)
  | _ => none
theorem f_wLen : SoundF Tryz.prog gl 174 (sW wLen) := by
  refine w_of_wk ok_wIs Tryz.func174 rfl rfl fun o av r o' hm => ?_
  unfold wLen at hm
  split at hm
  · cases hm
    refine ⟨rfl, fun st b k H hsh G0 => ?_⟩
    have e1 := wst_b H o []
    have e2 := sW_eq (f := wIs) H o [] []
    have et := wst_take0 (st := st) (b := b) (k := k) o
    rw [wRow] at e1
    simp only [List.append_nil] at e1 e2
    simp [Tryz.f174, entry, e1, e2, et, wIs]
  · cases hm
/-- Bytes -/
def wBytes (o : WO) (av : List AV) : Option (AV × WO) := match av with
  | [.sl xs] => (mapO decByte xs).bind fun l => if o.out.length + l.length ≤ 140737488355328 then some (.int .i64 0, bytesW l o) else none
  | _ => none
theorem wBytes_eq (o : WO) (l : List UInt8) : wBytes o [.sl (l.map encByte)] = if o.out.length + l.length ≤ 140737488355328 then some (.int .i64 0, bytesW l o) else none := by
  simp [wBytes, mapO_map (f := decByte) (g := encByte) (fun b => by simp) l]
theorem all_byte (l : List UInt8) : (l.map encByte).all (fun y => decide (y.cells.length = 1 ∧ y.whole = true)) = true := by
  simp
theorem f_wBytes : SoundF Tryz.prog gl 200 (sW wBytes) := by
  refine w_of_wk ok_wIs Tryz.func200 rfl rfl fun o av r o' hm => ?_
  unfold wBytes at hm
  split at hm
  · rename_i xs
    obtain ⟨l, hl, hm2⟩ := Option.bind_eq_some_iff.1 hm
    simp only [Option.ite_none_right_eq_some, Option.some.injEq] at hm2
    obtain ⟨hb, he⟩ := hm2
    cases he
    have := mapO_inv (f := decByte) (g := encByte) decByte_ed xs l hl
    subst this
    clear hm hl
    refine ⟨rfl, fun st b k H hsh G0 => ?_⟩
    have e1 := wst_b H o []
    have e2 := sW_eq (f := wIs) H o [] []
    have e3 := wst_k H o []
    have e4 := wst_kget H o (bRow (bytesW l o)) []
    have e5 := wst_kb H o (bytesW l o) []
    have et := wst_take0 (st := st) (b := b) (k := k) (bytesW l o)
    have hlen : (bytesW l o).out.length = o.out.length + l.length := by simp [bytesW]
    have htk : o.out.map encByte ++ l.map encByte = (bytesW l o).out.map encByte := by simp [bytesW]
    simp only [wRow, bRow, List.append_nil, hlen, show (bytesW l o).g = o.g + 1 from rfl] at e1 e2 e3 e4 e5
    simp [Tryz.f200, entry, e1, e2, wIs, e3, hb, all_byte, htk, e4, e5, et]
  · cases hm
/-- put: a number in its place, at the end -/
def wPut (o : WO) (av : List AV) : Option (AV × WO) := match av with
  | [.int .i64 at_, .int .i64 k, .int .i64 n] => if wideK k = true ∧ 0 ≤ at_ ∧ at_ + k = o.out.length ∧ o.out.length ≤ 140737488355328 then some (.tup [], ⟨o.out.take at_.toNat ++ beB k.toNat n, o.g⟩) else none
  | _ => none
def putO (o : WO) (a k : Nat) (n : Int) (i : Nat) : WO := ⟨o.out.take a ++ (beB k n).take i ++ o.out.drop (a + i), o.g⟩
theorem putO_len {o : WO} {a k : Nat} {n : Int} {i : Nat} (h : a + k = o.out.length) (hi : i ≤ k) : (putO o a k n i).out.length = o.out.length := by
  simp [putO]
  omega
theorem set_mid {α : Type} {A B D : List α} {i : Nat} {x : α} (hB : B[i]? = some x) (hD : i < D.length) : (A ++ (B.take i ++ D.drop i)).set (A.length + i) x = A ++ (B.take (i + 1) ++ D.drop (i + 1)) := by
  have hi : i < B.length := (List.getElem?_eq_some_iff.1 hB).1
  rw [List.set_append_right _ _ (by omega), Nat.add_sub_cancel_left]
  congr 1
  rw [List.set_append_right _ _ (by simp; omega)]
  have e : i - (B.take i).length = 0 := by simp; omega
  rw [e, List.drop_eq_getElem_cons hD, List.set_cons_zero, List.take_add_one, hB]
  simp
theorem putO_set {o : WO} {a k : Nat} {n : Int} {i : Nat} (h : a + k = o.out.length) (hi : i < k) : ((putO o a k n i).out.map encByte).set (a + i) (encByte (beByte k n i)) = (putO o a k n (i + 1)).out.map encByte := by
  rw [← List.map_set]
  congr 1
  have hl : ((beB k n)[i]?) = some (beByte k n i) := by simp [beB, hi]
  have hlen : (o.out.take a).length = a := by simp; omega
  have := set_mid (A := o.out.take a) (D := o.out.drop a) hl (by simp; omega)
  rw [hlen, List.drop_drop, List.drop_drop] at this
  simpa [putO] using this
set_option maxHeartbeats 1000000 in
theorem f_wPut : SoundF Tryz.prog gl 242 (sW wPut) := by
  refine w_of_wk okX_nil Tryz.func242 rfl rfl fun o av r o' hm => ?_
  unfold wPut at hm
  split at hm
  · rename_i a0 k0 n
    simp only [Option.ite_none_right_eq_some, Option.some.injEq] at hm
    obtain ⟨⟨hk, ha, hak, hlim⟩, he⟩ := hm
    cases he
    obtain ⟨a, rfl⟩ := Int.eq_ofNat_of_zero_le ha
    obtain ⟨m, rfl⟩ := Int.eq_ofNat_of_zero_le (show 0 ≤ k0 by have := wideK_cases hk; omega)
    have hm8 : m ≤ 8 := by have := wideK_cases hk; omega
    have ham : a + m = o.out.length := by omega
    simp only [Int.toNat_natCast] at *
    refine ⟨rfl, fun st b k H hsh G0 => ?_⟩
    have e0 : wst st b k o = wst st b k (putO o a m n 0) := by
      congr 1
      simp [putO]
    have e9 : wst st b k ⟨o.out.take a ++ beB m n, o.g⟩ = wst st b k (putO o a m n m) := by
      congr 1
      rw [putO, List.take_of_length_le (l := beB m n) (by rw [beB_length]; exact Nat.le_refl _), ham, List.drop_length, List.append_nil]
    simp [Tryz.f242, entry]
    refine lp_of okX_nil mixed (fun (i : Nat) => ⟨31, frL [(0, .ptr b 0 0 0), (1, .int .i64 a), (2, .int .i64 m), (3, .int .i64 n), (9, .int .i64 m), (10, .int .i64 i)], wst st b k (putO o a m n i)⟩) (fun i => i ≤ m) (fun i => m - i) 0 (Nat.zero_le _) (weak_frL rfl (by rw [e0]) (by simp)) ?_
    intro i hi
    simp
    refine br_dec (fun h3 => ?_) (fun h3 => ?_)
    · have e1 := wst_b H (putO o a m n i) []
      have e3 := wst_k H (putO o a m n i) []
      have e5 := wst_kset H (putO o a m n i) (putO o a m n (i + 1)) [] rfl ((putO_len ham (by omega)).trans (putO_len ham (by omega)).symm)
      have hlen := putO_len (n := n) ham (show i ≤ m by omega)
      have hset : (List.map encByte (putO o a m n i).out).set (a + i) (AV.int .u8 ((byteOf (n.fdiv (2 ^ (8 * (m - 1 - i))))).toNat : Int)) = List.map encByte (putO o a m n (i + 1)).out := putO_set (n := n) ham h3
      simp only [wRow, bRow, List.append_nil, hlen, show (putO o a m n i).g = o.g from rfl, show (putO o a m n (i + 1)).g = o.g from rfl] at e1 e3 e5
      have hw1 := wrap_i64 (show (-9223372036854775808 : Int) ≤ (a : Int) + i by omega) (by omega)
      have hw2 := wrap_i64 (show (-9223372036854775808 : Int) ≤ (m : Int) - 1 by omega) (by omega)
      have hw3 := wrap_i64 (show (-9223372036854775808 : Int) ≤ (m : Int) - 1 - i by omega) (by omega)
      have hw4 := wrap_i64 (show (-9223372036854775808 : Int) ≤ 8 * ((m : Int) - 1 - i) by omega) (by omega)
      have hw5 := wrap_i64 (show (-9223372036854775808 : Int) ≤ (i : Int) + 1 by omega) (by omega)
      have q1 : (0 ≤ 8 * ((m : Int) - 1 - i)) = True := eq_true (by omega)
      have q2 : min (8 * ((m : Int) - 1 - i)).toNat 64 = 8 * (m - 1 - i) := by omega
      have q3 : (0 ≤ (a : Int) + i ∧ (a : Int) + i < (o.out.length : Int)) = True := eq_true (by omega)
      have q4 : ((a : Int) + i).toNat = a + i := by omega
      have hx : (List.map encByte (putO o a m n i).out)[a + i]? = some (encByte ((putO o a m n i).out[a + i]'(by omega))) := by
        rw [List.getElem?_map, List.getElem?_eq_getElem (by omega)]
        rfl
      have hbyte := wrap_u8_byte (n.fdiv (2 ^ (8 * (m - 1 - i))))
      simp
      refine dk_of (by decide) ?_
      simp [e1, e3, hw1, hw2, hw3, hw4, q1, q2, q3, q4, IntKind.bits, hbyte, hx]
      refine sd_of (by decide) ?_
      simp [hset, e5, hw5]
      exact nextQ_of (i + 1) h3 (by omega) (weak_frL rfl rfl (by simp))
    · have him : i = m := by omega
      subst him
      have et := wst_take0 (st := st) (b := b) (k := k) (putO o a i n i)
      simp [e9, et]
  · cases hm
/-- fits a number? (all's closure) -/
def sAll1 : Spec := fun args st => match args with
  | [.int .i64 n, .ptr a 0 0 0, .ptr c 0 0 0] => match st[a]?, st[c]? with
    | some (.row 1 0 0 [.int .i64 k]), some (.row 1 0 0 [.bool s]) => if wideK k = true then some (.bool (!fitsT k n s), st) else none
    | _, _ => none
  | _ => none
theorem f_all1 : SoundF Tryz.prog gl 240 sAll1 := by
  refine soundF_of_wk (okX_nil.addP p_fits) mixed Tryz.func240 rfl rfl fun args st r st' hs G0 => ?_
  unfold sAll1 at hs
  split at hs
  · rename_i n a c
    split at hs
    · rename_i k s h1 h2
      simp only [Option.ite_none_right_eq_some, Option.some.injEq] at hs
      obtain ⟨hk, he⟩ := hs
      cases he
      simp [Tryz.f240, entry, h1, h2, hk]
    · cases hs
  · cases hs
def E1 : Env := [(240, sAll1)]
theorem ok_E1 : OkX Tryz.prog (XE E1) := okX_nil.add f_all1
/-- all -/
def wAll (o : WO) (av : List AV) : Option (AV × WO) := match av with
  | [.int .i64 k, .bool s, .sl xs] => (mapO decInt xs).bind fun l => if l.length < 1099511627776 ∧ (putW k s l o).2.out.length ≤ 140737488355328 then some (.int .i64 (putW k s l o).1, (putW k s l o).2) else none
  | _ => none
theorem wAll_eq (o : WO) (k : Int) (s : Bool) (l : List Int) : wAll o [.int .i64 k, .bool s, .sl (l.map encInt)] = if l.length < 1099511627776 ∧ (putW k s l o).2.out.length ≤ 140737488355328 then some (.int .i64 (putW k s l o).1, (putW k s l o).2) else none := by
  have hm : mapO decInt (l.map encInt) = some l := mapO_map cInt.de l
  simp only [wAll, hm, Option.bind_some]

end Go.Proofs.YtgpkochbmfhmdaaGreatDoor.Lift
namespace Go.Proofs.YtgpkochbmfhmdaaGreatDoor.Lift
open Go
set_option maxRecDepth 100000

theorem flat_beB (m : Nat) (l : List Int) : (l.flatMap (beB m)).length = l.length * m := by
  induction l with
  | nil => simp
  | cons x l ih => rw [List.flatMap_cons, List.length_append, ih, beB_length, List.length_cons, Nat.add_mul]; omega
/-- behind so many numbers -/
def midW (o : WO) (m : Nat) (l : List Int) (i : Nat) : WO := ⟨o.out ++ (l.take i).flatMap (beB m), o.g + i⟩
def roomW (o : WO) (m : Nat) : WO := ⟨o.out ++ List.replicate m 0, o.g + 1⟩
theorem midW_len (o : WO) (m : Nat) (l : List Int) {i : Nat} (hi : i ≤ l.length) : (midW o m l i).out.length = o.out.length + i * m := by
  simp only [midW, List.length_append, flat_beB, List.length_take]
  rw [Nat.min_eq_left hi]
theorem room_rep (o : WO) (m : Nat) : List.map encByte o.out ++ List.replicate m (AV.int .u8 0) = List.map encByte (roomW o m).out := by
  simp [roomW]
theorem ok_wAll : OkX Tryz.prog (XE [(140, sConF E1), (210, liftS 9 (fn1 cInt encBool fun k => some (wideK k))), (208, sW wIs), (242, sW wPut)]) :=
  (((okX_nil.add f_wPut).add f_wIs).addP p_wide).add (f_ContainsFuncInt ok_E1)
set_option maxHeartbeats 1000000 in
theorem f_wAll : SoundF Tryz.prog gl 199 (sW wAll) := by
  refine w_of_wk ok_wAll Tryz.func199 rfl rfl fun o av r o' hm => ?_
  unfold wAll at hm
  split at hm
  · rename_i k0 s xs
    obtain ⟨l, hl, hm2⟩ := Option.bind_eq_some_iff.1 hm
    simp only [Option.ite_none_right_eq_some, Option.some.injEq] at hm2
    obtain ⟨⟨hll, hlim⟩, he⟩ := hm2
    cases he
    have := mapO_inv (f := decInt) (g := encInt) cInt.ed xs l hl
    subst this
    clear hm hl
    refine ⟨rfl, fun st b k H hsh G0 => ?_⟩
    have q := [ABlk.row 1 0 0 [AV.int .i64 k0], .row 1 0 0 [.bool s]]
    have e2 := fun o q => sW_eq (f := wIs) H o [] q
    have e4 := fun o q j => wst_p (st := st) (b := b) (k := k) o q j
    have e5 := fun o q => wst_p0 (st := st) (b := b) (k := k) o q
    have e8 := wst_len st b k
    have et := fun o q => wst_take (st := st) (b := b) (k := k) o q
    simp only [wIs, Option.map_some] at e2
    by_cases hk : wideK k0 = true
    · have hp : ∀ x ∈ l, sAll1 ([] ++ [.int .i64 x] ++ [.ptr st.length 0 0 0, .ptr (st.length + 1) 0 0 0]) (wst st b k o ++ [.row 1 0 0 [.int .i64 k0], .row 1 0 0 [.bool s]]) = some (.bool ((fun x => !fitsT k0 x s) x), wst st b k o ++ [.row 1 0 0 [.int .i64 k0], .row 1 0 0 [.bool s]]) := fun x hx => by
        simp [sAll1, e4, e5, hk]
      have ec := sConF_eq (E := E1) (k := 240) rfl hll (fun x => !fitsT k0 x s) hp
      cases hq : l.any fun x => !fitsT k0 x s with
      | true =>
        rw [hq] at ec
        have hr : putW k0 s l o = (2, o) := by rw [putW, if_pos (.inr hq)]
        rw [hr]
        simp [Tryz.f199, entry, e2, e4, e5, e8, hk, ec, et]
      | false =>
        rw [hq] at ec
        have hr : putW k0 s l o = (0, ⟨o.out ++ l.flatMap (beB k0.toNat), o.g + l.length⟩) := by rw [putW, if_neg (by simp [hk, hq])]
        rw [hr] at hlim ⊢
        obtain ⟨m, rfl⟩ := Int.eq_ofNat_of_zero_le (show 0 ≤ k0 by have := wideK_cases hk; omega)
        have hm8 : m ≤ 8 := by have := wideK_cases hk; omega
        simp only [Int.toNat_natCast] at *
        simp only [List.length_append, flat_beB] at hlim
        have e0 : wst st b k o = wst st b k (midW o m l 0) := by simp [midW]
        have e9 : wst st b k ⟨o.out ++ l.flatMap (beB m), o.g + l.length⟩ = wst st b k (midW o m l l.length) := by simp [midW]
        simp [Tryz.f199, entry, e2, e4, e5, e8, hk, ec]
        refine lp_of ok_wAll mixed (fun (i : Nat) => ⟨52, frL [(0, .ptr b 0 0 0), (5, .ptr st.length 0 0 0), (22, .sl (l.map encInt)), (23, .int .i64 l.length), (24, .int .i64 i)], wst st b k (midW o m l i) ++ [.row 1 0 0 [.int .i64 m], .row 1 0 0 [.bool s]]⟩) (fun i => i ≤ l.length) (fun i => l.length - i) 0 (Nat.zero_le _) (weak_frL rfl (by rw [e0]) (by simp)) ?_
        intro i hi
        simp
        refine br_dec (fun h3 => ?_) (fun h3 => ?_)
        · have hx : l[i]? = some l[i] := by simp [h3]
          have hlen := midW_len o m l hi
          have hmul : i * m + m ≤ l.length * m := by
            have := Nat.mul_le_mul_right m h3
            rwa [Nat.succ_mul] at this
          have hnew : (⟨(midW o m l i).out ++ beB m l[i], (midW o m l i).g + 1⟩ : WO) = midW o m l (i + 1) := by
            simp only [midW, List.append_assoc, Nat.add_assoc]
            rw [List.take_add_one, hx, List.flatMap_append]
            simp
          generalize hw : midW o m l i = w at *
          have hroomlen : (roomW w m).out.length = w.out.length + m := by simp [roomW]
          have e1 := wst_b H w [.row 1 0 0 [.int .i64 m], .row 1 0 0 [.bool s]]
          have e3 := wst_k H w [.row 1 0 0 [.int .i64 m], .row 1 0 0 [.bool s]]
          have f1 := wst_b H (roomW w m) [.row 1 0 0 [.int .i64 m], .row 1 0 0 [.bool s]]
          have f4 := wst_kget H w (bRow (roomW w m)) [.row 1 0 0 [.int .i64 m], .row 1 0 0 [.bool s]]
          have f5 := wst_kb H w (roomW w m) [.row 1 0 0 [.int .i64 m], .row 1 0 0 [.bool s]]
          have hrep := room_rep w m
          simp only [wRow, bRow, hroomlen, show (roomW w m).g = w.g + 1 from rfl] at e1 e3 f1 f4 f5
          have hw5 := wrap_i64 (show (-9223372036854775808 : Int) ≤ (i : Int) + 1 by omega) (by omega)
          have hw6 := wrap_i64 (show (-9223372036854775808 : Int) ≤ (w.out.length : Int) + m - m by omega) (by omega)
          have hb : w.out.length + m ≤ 140737488355328 := by omega
          have hm47 : m ≤ 140737488355328 := by omega
          have hput : wPut (roomW w m) [.int .i64 w.out.length, .int .i64 m, .int .i64 l[i]] = some (.tup [], midW o m l (i + 1)) := by
            rw [← hnew]
            simp only [wPut]
            rw [if_pos ⟨hk, by omega, by rw [hroomlen]; omega, by omega⟩]
            simp [roomW]
          have ep := sW_eq (f := wPut) H (roomW w m) [.int .i64 w.out.length, .int .i64 m, .int .i64 l[i]] [.row 1 0 0 [.int .i64 m], .row 1 0 0 [.bool s]]
          rw [hput, Option.map_some] at ep
          simp [hx]
          refine dk_of (by decide) ?_
          simp [e1, e3, e4, e5, hb, hm47, hrep, f4, f5]
          refine sd_of (by decide) ?_
          simp [f4, f5]
          refine sd_of (by decide) ?_
          simp
          refine dk_of (by decide) ?_
          simp only [Int.add_sub_cancel] at hw6
          simp [f1, e4, e5, hw6, ep]
          refine sd_of (by decide) ?_
          simp [hw5]
          exact nextQ_of (i + 1) h3 (by omega) (weak_frL rfl rfl (by simp))
        · have hi2 : i = l.length := by omega
          subst hi2
          simp [e9, et]
    · have hr : putW k0 s l o = (2, o) := by rw [putW, if_pos (.inl (by simpa using hk))]
      rw [hr]
      simp [Tryz.f199, entry, e2, e4, e5, e8, hk, et]
  · cases hm
end Go.Proofs.YtgpkochbmfhmdaaGreatDoor.Lift
namespace Go.Proofs.YtgpkochbmfhmdaaGreatDoor.Lift
open Go
set_option maxRecDepth 100000

def wU (o : WO) (av : List AV) : Option (AV × WO) := match av with
  | [.int .i64 k, .sl xs] => wAll o [.int .i64 k, .bool false, .sl xs]
  | _ => none
def wS (o : WO) (av : List AV) : Option (AV × WO) := match av with
  | [.int .i64 k, .sl xs] => wAll o [.int .i64 k, .bool true, .sl xs]
  | _ => none
theorem wAll_fz {o : WO} {av : List AV} {r : AV} {o' : WO} (h : wAll o av = some (r, o')) : fz r = true := by
  unfold wAll at h
  split at h
  · obtain ⟨l, hl, h2⟩ := Option.bind_eq_some_iff.1 h
    simp only [Option.ite_none_right_eq_some, Option.some.injEq] at h2
    obtain ⟨_, he⟩ := h2
    cases he
    rfl
  · cases h
theorem ok_wU : OkX Tryz.prog (XE [(199, sW wAll)]) := okX_nil.add f_wAll
theorem f_wU : SoundF Tryz.prog gl 161 (sW wU) := by
  refine w_of_wk ok_wU Tryz.func161 rfl rfl fun o av r o' hm => ?_
  unfold wU at hm
  split at hm
  · rename_i k xs
    refine ⟨wAll_fz hm, fun st b kk H hsh G0 => ?_⟩
    have e2 := sW_eq (f := wAll) H o [.int .i64 k, .bool false, .sl xs] []
    have et := wst_take0 (st := st) (b := b) (k := kk) o'
    simp only [List.append_nil] at e2
    simp [Tryz.f161, entry, e2, hm, et]
  · cases hm
theorem f_wS : SoundF Tryz.prog gl 201 (sW wS) := by
  refine w_of_wk ok_wU Tryz.func201 rfl rfl fun o av r o' hm => ?_
  unfold wS at hm
  split at hm
  · rename_i k xs
    refine ⟨wAll_fz hm, fun st b kk H hsh G0 => ?_⟩
    have e2 := sW_eq (f := wAll) H o [.int .i64 k, .bool true, .sl xs] []
    have et := wst_take0 (st := st) (b := b) (k := kk) o'
    simp only [List.append_nil] at e2
    simp [Tryz.f201, entry, e2, hm, et]
  · cases hm
theorem f_Make : SoundF Tryz.prog gl 160 sMake := by
  refine make_sr ?_
  refine soundF_of_wk okX_nil mixed Tryz.func160 rfl rfl fun args st r st' hs G0 => ?_
  unfold sMakeNil at hs
  split at hs
  · cases hs
    simp [Tryz.f160, entry]
  · cases hs

/-- a clone of bytes: nil; empty; of bytes in the store -/
def sCl1 : Spec := fun args st => match args with
  | [.snil] => some (.sl [], st)
  | _ => none
def sCl2 : Spec := fun args st => match args with
  | [.sle] => some (.sl [], st)
  | _ => none
def sCl3 : Spec := fun args st => match args with
  | [.sr b g 0 (n + 1)] => match st[b]? with
    | some (.row 1 g' 0 xs) => if g = g' ∧ n + 1 = xs.length ∧ (mapO decByte xs).isSome = true ∧ xs.length ≤ 140737488355328 then some (.sl xs, st) else none
    | _ => none
  | _ => none
def sCl : Spec := fun args st => match args with
  | [.sr b g 0 n] => match st[b]? with
    | some (.row 1 g' 0 xs) => if g = g' ∧ n = xs.length ∧ (mapO decByte xs).isSome = true ∧ xs.length ≤ 140737488355328 then some (.sl xs, st) else none
    | _ => none
  | _ => none
theorem f_cl1 : SoundF Tryz.prog gl 65 sCl1 := by
  refine soundZ_of_wk 9 okX_nil mixed Tryz.func65 rfl rfl fun args st r st' hs hsh => ?_
  unfold sCl1 at hs
  split at hs
  · cases hs
    refine ⟨Nat.le_refl _, hsh, fun G0 => ?_⟩
    simp [Tryz.f65, entry]
  · cases hs
theorem f_cl2 : SoundF Tryz.prog gl 65 sCl2 := by
  refine soundZ_of_wk 9 okX_nil mixed Tryz.func65 rfl rfl fun args st r st' hs hsh => ?_
  unfold sCl2 at hs
  split at hs
  · cases hs
    refine ⟨Nat.le_refl _, hsh, fun G0 => ?_⟩
    simp [Tryz.f65, entry]
  · cases hs
theorem f_cl3 : SoundF Tryz.prog gl 65 sCl3 := by
  refine soundZ_of_wk 9 okX_nil mixed Tryz.func65 rfl rfl fun args st r st' hs hsh => ?_
  unfold sCl3 at hs
  split at hs
  · rename_i b g n
    split at hs
    · rename_i g' xs hb
      simp only [Option.ite_none_right_eq_some, Option.some.injEq] at hs
      obtain ⟨⟨rfl, hn, hd, hlim⟩, he⟩ := hs
      cases he
      obtain ⟨l, hl⟩ := Option.isSome_iff_exists.1 hd
      have := mapO_inv (f := decByte) (g := encByte) decByte_ed xs l hl
      subst this
      refine ⟨Nat.le_refl _, hsh, fun G0 => ?_⟩
      have hb' : ∀ q : Sto, (st ++ q)[b]? = some (.row 1 g 0 (l.map encByte)) := fun q => by
        rw [List.getElem?_append_left (List.getElem?_eq_some_iff.1 hb).1, hb]
      have htk : List.take (n + 1) (l.map encByte) = l.map encByte := List.take_of_length_le (by omega)
      simp only [List.length_map] at hn hlim
      rw [hn.symm] at hlim
      simp [Tryz.f65, entry, hb', hn.symm, hlim, htk]
    · cases hs
  · cases hs
theorem f_Clone : SoundF Tryz.prog gl 65 sCl where
  calls := fun G args vals r σ' hs inv hJ hg hargs => by
    unfold sCl at hs
    split at hs
    · rename_i b g n
      split at hs
      · rename_i g' xs hb
        simp only [Option.ite_none_right_eq_some, Option.some.injEq] at hs
        obtain ⟨⟨rfl, hn, hd, hlim⟩, he⟩ := hs
        cases he
        cases n with
        | succ n =>
          refine f_cl3.calls G [.sr b g 0 (n + 1)] vals _ _ ?_ inv hJ hg hargs
          simp only [sCl3, hb]
          rw [if_pos ⟨trivial, hn, hd, hlim⟩]
        | zero =>
          have hx : xs = [] := List.eq_nil_of_length_eq_zero hn.symm
          subst hx
          cases hargs with
          | cons hv ht =>
            cases ht
            cases hv with
            | sr0 h hr => exact f_cl1.calls G [.snil] _ _ _ rfl inv hJ hg (.cons .snil .nil)
            | sr h hr hl hb' hc => exact f_cl2.calls G [.sle] _ _ _ rfl inv hJ hg (.cons (.sle _ _) .nil)
            | srE h hr ho => exact absurd rfl ho
      · cases hs
    · cases hs
/-- All -/
def wAllB (o : WO) (av : List AV) : Option (AV × WO) := match av with
  | [] => if o.out.length ≤ 140737488355328 then some (.sl (o.out.map encByte), o) else none
  | _ => none
theorem ok_wAllB : OkX Tryz.prog (XE [(65, sCl), (208, sW wIs)]) := (okX_nil.add f_wIs).add f_Clone
theorem f_wAllB : SoundF Tryz.prog gl 175 (sW wAllB) := by
  refine w_of_wk ok_wAllB Tryz.func175 rfl rfl fun o av r o' hm => ?_
  unfold wAllB at hm
  split at hm
  · simp only [Option.ite_none_right_eq_some, Option.some.injEq] at hm
    obtain ⟨hlim, he⟩ := hm
    cases he
    refine ⟨fzL_Byte _, fun st b k H hsh G0 => ?_⟩
    have e1 := wst_b H o []
    have e2 := sW_eq (f := wIs) H o [] []
    have e3 := wst_k H o []
    have et := wst_take0 (st := st) (b := b) (k := k) o
    rw [wRow] at e1
    rw [bRow] at e3
    have ec : sCl [.sr k o.g 0 o.out.length] (wst st b k o) = some (.sl (o.out.map encByte), wst st b k o) := by
      rw [List.append_nil] at e3
      have hm : mapO decByte (o.out.map encByte) = some o.out := mapO_map (fun b => by simp) o.out
      simp only [sCl, e3]
      rw [if_pos ⟨trivial, by simp, by rw [hm]; rfl, by simpa using hlim⟩]
    simp only [List.append_nil] at e1 e2
    simp [Tryz.f175, entry, e1, e2, et, wIs, ec]
  · cases hm
end Go.Proofs.YtgpkochbmfhmdaaGreatDoor.Lift
namespace Go.Proofs.YtgpkochbmfhmdaaGreatDoor.Lift
open Go
set_option maxRecDepth 100000

/-- Bytes, out of the store too -/
def sBytes : Spec := fun args st => match args with
  | [.ptr b 0 0 0, .sl xs] => sW wBytes [.ptr b 0 0 0, .sl xs] st
  | [.ptr b 0 0 0, .sr j g 0 n] => match st[j]? with
    | some (.row 1 g' _ xs) => if g = g' ∧ n = xs.length then sW wBytes [.ptr b 0 0 0, .sl xs] st else none
    | _ => none
  | _ => none
theorem f_wBytesR : SoundF Tryz.prog gl 200 sBytes := by
  refine soundF_of_wk ok_wIs mixed Tryz.func200 rfl rfl fun args st r st' hs G0 => ?_
  unfold sBytes at hs
  split at hs
  · rename_i b xs
    simp only [sW] at hs
    obtain ⟨⟨k, o⟩, hx, hs2⟩ := Option.bind_eq_some_iff.1 hs
    obtain ⟨⟨r2, o'⟩, hm, he⟩ := Option.map_eq_some_iff.1 hs2
    cases he
    obtain ⟨h1, h2⟩ := woOf_inv hx
    have H := wb_of h1 h2
    have e := wst_self h1 h2
    unfold wBytes at hm
    simp only at hm
    obtain ⟨l, hl, hm2⟩ := Option.bind_eq_some_iff.1 hm
    simp only [Option.ite_none_right_eq_some, Option.some.injEq] at hm2
    obtain ⟨hb, he⟩ := hm2
    cases he
    have := mapO_inv (f := decByte) (g := encByte) decByte_ed xs l hl
    subst this
    clear hm hl hs hs2
    have e1 := wst_b H o []
    have e2 := sW_eq (f := wIs) H o [] []
    have e3 := wst_k H o []
    have e4 := wst_kget H o (bRow (bytesW l o)) []
    have e5 := wst_kb H o (bytesW l o) []
    have hlen : (bytesW l o).out.length = o.out.length + l.length := by simp [bytesW]
    have htk : o.out.map encByte ++ l.map encByte = (bytesW l o).out.map encByte := by simp [bytesW]
    simp only [wRow, bRow, List.append_nil, hlen, show (bytesW l o).g = o.g + 1 from rfl] at e e1 e2 e3 e4 e5
    rw [e] at e1 e2 e3 e4 e5
    simp [Tryz.f200, entry, e1, e2, wIs, e3, hb, all_byte, htk, e4, e5, e]
  · rename_i b j g n
    split at hs
    · rename_i g' lo xs hj
      simp only [Option.ite_none_right_eq_some] at hs
      obtain ⟨⟨rfl, rfl⟩, hs⟩ := hs
      simp only [sW] at hs
      obtain ⟨⟨k, o⟩, hx, hs2⟩ := Option.bind_eq_some_iff.1 hs
      obtain ⟨⟨r2, o'⟩, hm, he⟩ := Option.map_eq_some_iff.1 hs2
      cases he
      obtain ⟨h1, h2⟩ := woOf_inv hx
      have H := wb_of h1 h2
      have e := wst_self h1 h2
      unfold wBytes at hm
      simp only at hm
      obtain ⟨l, hl, hm2⟩ := Option.bind_eq_some_iff.1 hm
      simp only [Option.ite_none_right_eq_some, Option.some.injEq] at hm2
      obtain ⟨hb, he⟩ := hm2
      cases he
      have := mapO_inv (f := decByte) (g := encByte) decByte_ed xs l hl
      subst this
      clear hm hl hs hs2
      have e1 := wst_b H o []
      have e2 := sW_eq (f := wIs) H o [] []
      have e3 := wst_k H o []
      have e4 := wst_kget H o (bRow (bytesW l o)) []
      have e5 := wst_kb H o (bytesW l o) []
      have hlen : (bytesW l o).out.length = o.out.length + l.length := by simp [bytesW]
      have htk : o.out.map encByte ++ l.map encByte = (bytesW l o).out.map encByte := by simp [bytesW]
      simp only [wRow, bRow, List.append_nil, hlen, show (bytesW l o).g = o.g + 1 from rfl] at e e1 e2 e3 e4 e5
      rw [e] at e1 e2 e3 e4 e5
      simp [Tryz.f200, entry, e1, e2, wIs, e3, hb, all_byte, htk, e4, e5, e, hj]
    · cases hs
  · cases hs

/-- class's writer: what it wrote; is it bad? -/
structure CW where
  o : WO
  bad : Bool
def cRow (b : Nat) (P : List AEntry) (bad : Bool) : ABlk := .row 3 0 0 [.agg [.ptr b 0 0 0, .sl (P.map encEntry), .bool bad]]
def cwOf (st : Sto) (c : Nat) : Option (Nat × Nat × List AEntry × CW) := match st[c]? with
  | some (.row 3 0 0 [.agg [.ptr b 0 0 0, .sl es, .bool bad]]) => (mapO decEntry es).bind fun P => (woOf st b).map fun x => (b, x.1, P, ⟨x.2, bad⟩)
  | _ => none
theorem cwOf_eq {st : Sto} {b c k : Nat} {P : List AEntry} {s : CW} (h : st[c]? = some (cRow b P s.bad)) (h1 : st[b]? = some (wRow k s.o)) (h2 : st[k]? = some (bRow s.o)) : cwOf st c = some (b, k, P, s) := by
  unfold cwOf
  rw [h]
  simp only [cRow, mapO_Entry, Option.bind_some, woOf_eq h1 h2, Option.map_some]
theorem cwOf_inv {st : Sto} {c : Nat} {x : Nat × Nat × List AEntry × CW} (h : cwOf st c = some x) : st[c]? = some (cRow x.1 x.2.2.1 x.2.2.2.bad) ∧ st[x.1]? = some (wRow x.2.1 x.2.2.2.o) ∧ st[x.2.1]? = some (bRow x.2.2.2.o) := by
  unfold cwOf at h
  split at h
  · rename_i b es bad hc
    obtain ⟨P, hP, h2⟩ := Option.bind_eq_some_iff.1 h
    obtain ⟨⟨k, o⟩, hx, he⟩ := Option.map_eq_some_iff.1 h2
    cases he
    obtain ⟨h3, h4⟩ := woOf_inv hx
    have := mapO_inv (f := decEntry) (g := encEntry) cEntry.ed es P hP
    subst this
    exact ⟨hc, h3, h4⟩
  · cases h
/-- a store with a class's writer -/
def cw (st : Sto) (b c k : Nat) (P : List AEntry) (s : CW) : Sto := wst (st.set c (cRow b P s.bad)) b k s.o
structure CB (st : Sto) (b c k : Nat) : Prop where
  hb : b < st.length
  hc : c < st.length
  hk : k < st.length
  nbk : b ≠ k
  nbc : b ≠ c
  nck : c ≠ k
section
variable {st : Sto} {b c k : Nat} {P : List AEntry} {s : CW}
theorem cw_len (st : Sto) (b c k : Nat) (P : List AEntry) (s : CW) : (cw st b c k P s).length = st.length := by simp [cw, wst_len]
theorem cw_self (h : st[c]? = some (cRow b P s.bad)) (h1 : st[b]? = some (wRow k s.o)) (h2 : st[k]? = some (bRow s.o)) : cw st b c k P s = st := by
  rw [cw, set_same h, wst_self h1 h2]
theorem cb_of (h : st[c]? = some (cRow b P s.bad)) (h1 : st[b]? = some (wRow k s.o)) (h2 : st[k]? = some (bRow s.o)) : CB st b c k where
  hb := (List.getElem?_eq_some_iff.1 h1).1
  hc := (List.getElem?_eq_some_iff.1 h).1
  hk := (List.getElem?_eq_some_iff.1 h2).1
  nbk := (wb_of h1 h2).ne
  nbc := fun e => by
    subst e
    rw [h] at h1
    cases h1
  nck := fun e => by
    subst e
    rw [h] at h2
    cases h2
theorem CB.w (H : CB st b c k) (x : ABlk) : WB (st.set c x) b k := ⟨by simpa using H.hb, by simpa using H.hk, H.nbk⟩
theorem cw_p (s : CW) (q : Sto) (j : Nat) : (cw st b c k P s ++ q)[st.length + j]? = q[j]? := by
  have := wst_p (st := st.set c (cRow b P s.bad)) (b := b) (k := k) s.o q j
  rwa [List.length_set] at this
theorem cw_p0 (s : CW) (q : Sto) : (cw st b c k P s ++ q)[st.length]? = q[0]? := cw_p s q 0
theorem cw_setp (s : CW) (q : Sto) (j : Nat) (x : ABlk) : (cw st b c k P s ++ q).set (st.length + j) x = cw st b c k P s ++ q.set j x := by
  rw [List.set_append_right _ _ (by rw [cw_len]; omega), cw_len]
  congr 2
  omega
theorem cw_setp0 (s : CW) (q : Sto) (x : ABlk) : (cw st b c k P s ++ q).set st.length x = cw st b c k P s ++ q.set 0 x := cw_setp s q 0 x
theorem cw_take (s : CW) (q : Sto) : List.take st.length (cw st b c k P s ++ q) = cw st b c k P s := by
  rw [List.take_append_of_le_length (by rw [cw_len]; omega), List.take_of_length_le (by rw [cw_len]; omega)]
theorem cw_take0 (s : CW) : List.take st.length (cw st b c k P s) = cw st b c k P s := List.take_of_length_le (by rw [cw_len]; omega)
variable (H : CB st b c k)
include H
theorem cw_b (s : CW) (q : Sto) : (cw st b c k P s ++ q)[b]? = some (wRow k s.o) := wst_b (H.w _) s.o q
theorem cw_k (s : CW) (q : Sto) : (cw st b c k P s ++ q)[k]? = some (bRow s.o) := wst_k (H.w _) s.o q
theorem cw_c (s : CW) (q : Sto) : (cw st b c k P s ++ q)[c]? = some (cRow b P s.bad) := by
  rw [List.getElem?_append_left (by rw [cw_len]; exact H.hc), cw, wst, List.getElem?_set, if_neg (fun e => H.nck e.symm), List.getElem?_set, if_neg H.nbc, List.getElem?_set, if_pos rfl, if_pos H.hc]
theorem cw_cset (s : CW) (bad : Bool) (q : Sto) : (cw st b c k P s ++ q).set c (cRow b P bad) = cw st b c k P ⟨s.o, bad⟩ ++ q := by
  rw [List.set_append_left _ _ (by rw [cw_len]; exact H.hc)]
  congr 1
  rw [cw, cw, wst, wst, List.set_comm _ _ (fun e => H.nck e.symm), List.set_comm _ _ H.nbc, List.set_set]
theorem cw_sW {f : WO → List AV → Option (AV × WO)} (s : CW) (av : List AV) (q : Sto) : sW f (.ptr b 0 0 0 :: av) (cw st b c k P s ++ q) = (f s.o av).map fun r => (r.1, cw st b c k P ⟨r.2, s.bad⟩ ++ q) := sW_eq (H.w _) s.o av q
theorem cwOf_cw (s : CW) (q : Sto) : cwOf (cw st b c k P s ++ q) c = some (b, k, P, s) := cwOf_eq (cw_c H s q) (cw_b H s q) (cw_k H s q)
theorem cw_cw (s s' : CW) (q : Sto) : cw (cw st b c k P s ++ q) b c k P s' = cw st b c k P s' ++ q := by
  have e : cw (cw st b c k P s ++ q) b c k P s' = wst ((cw st b c k P s ++ q).set c (cRow b P s'.bad)) b k s'.o := rfl
  rw [e, cw_cset H]
  exact wst_wst (H.w _) s.o s'.o q
theorem cw_shut (hs : st.all (blwB st.length) = true) (s : CW) : (cw st b c k P s).all (blwB (cw st b c k P s).length) = true := by
  have h1 : (st.set c (cRow b P s.bad)).all (blwB (st.set c (cRow b P s.bad)).length) = true := by
    rw [List.length_set]
    refine List.all_eq_true.2 fun x hx => ?_
    rcases List.mem_or_eq_of_mem_set hx with hx | rfl
    · exact List.all_eq_true.1 hs x hx
    · have := H.hb
      have h2 : blwL st.length (P.map encEntry) = true := blwL_map cEntry.fz _ _
      simp [cRow, blwB, blwL, blw, h2]
      omega
  exact wst_shut (H.w _) h1 s.o
end
/-- a method of a class's writer -/
def sC (f : List AEntry → CW → List AV → Option (AV × CW)) : Spec := fun args st => match args with
  | .ptr c 0 0 0 :: av => (cwOf st c).bind fun x => (f x.2.2.1 x.2.2.2 av).map fun r => (r.1, cw st x.1 c x.2.1 x.2.2.1 r.2)
  | _ => none
theorem sC_eq {f : List AEntry → CW → List AV → Option (AV × CW)} {st : Sto} {b c k : Nat} {P : List AEntry} (H : CB st b c k) (s : CW) (av : List AV) (q : Sto) : sC f (.ptr c 0 0 0 :: av) (cw st b c k P s ++ q) = (f P s av).map fun r => (r.1, cw st b c k P r.2 ++ q) := by
  simp only [sC, cwOf_cw H, Option.bind_some, cw_cw H]
theorem c_of_wk {E : Env} {B : List Nat} (ok : OkX Tryz.prog (XB E B)) {f : Nat} {fn : Func} (hf : Tryz.prog.funcs[f]? = some fn) (hb : fn.body.isSome = true) (hn : (fn.name == "runtime.NumGoroutine") = false) {m : List AEntry → CW → List AV → Option (AV × CW)}
    (h : ∀ (P : List AEntry) (s : CW) (av : List AV) (r : AV) (s' : CW), m P s av = some (r, s') → fz r = true ∧ ∀ (st : Sto) (b c k : Nat), CB st b c k → st.all (blwB st.length) = true →
      ∀ G0 : { G : Gh // G.σ = cw st b c k P s }, wk Tryz.prog (XB E B) G0.1 (fun e a => (e = .normal ∨ e = .ret) ∧ resAs (XB E B) a fn.results.toList = some r ∧ a.st.take st.length = cw st b c k P s') (fn.body.get hb) [] (entry fn (.ptr c 0 0 0 :: av) (cw st b c k P s))) : SoundF Tryz.prog gl f (sC m) :=
  soundD_of_wk ok mixed hf hb hn fun args st r st' hs hc => by
    unfold sC at hs
    split at hs
    · rename_i c av
      obtain ⟨⟨b, k, P, s⟩, hx, hs2⟩ := Option.bind_eq_some_iff.1 hs
      obtain ⟨⟨r2, s'⟩, hm, he⟩ := Option.map_eq_some_iff.1 hs2
      cases he
      obtain ⟨h1, h2, h3⟩ := cwOf_inv hx
      have H := cb_of h1 h2 h3
      obtain ⟨hr, hw⟩ := h P s av _ s' hm
      have e := cw_self h1 h2 h3
      simp only at e
      refine ⟨by rw [cw_len]; exact Nat.le_refl _, cw_shut H hc s', fz_blw hr, fun G0 => ?_⟩
      have := hw st b c k H hc
      rw [e] at this
      simp only [cw_len]
      exact this G0
    · cases hs

/-- must -/
def mustW (t : Bool) (s : CW) : CW := ⟨s.o, s.bad || !t⟩
def cMust (_ : List AEntry) (s : CW) (av : List AV) : Option (AV × CW) := match av with
  | [.bool t] => some (.tup [], mustW t s)
  | _ => none
theorem f_cMust : SoundF Tryz.prog gl 167 (sC cMust) := by
  refine c_of_wk okX_nil Tryz.func167 rfl rfl fun P s av r s' hm => ?_
  unfold cMust at hm
  split at hm
  · rename_i t
    cases hm
    refine ⟨rfl, fun st b c k H hsh G0 => ?_⟩
    have e1 := cw_c (P := P) H s []
    have e2 := fun bad => cw_cset (P := P) H s bad []
    have et := fun s => cw_take0 (st := st) (b := b) (c := c) (k := k) (P := P) s
    obtain ⟨o, bad⟩ := s
    simp only [cRow, List.append_nil] at e1 e2
    cases bad with
    | true => simp [Tryz.f167, entry, e1, e2, et, mustW]
    | false => simp [Tryz.f167, entry, e1, e2, et, mustW]
  · cases hm
/-- two: numbers of two bytes -/
def twoW (l : List Int) (s : CW) : CW := ⟨(putW 2 false l s.o).2, decide ((putW 2 false l s.o).1 ≠ 0) || s.bad⟩
def uW (k : Int) (l : List Int) (s : CW) : CW := ⟨(putW k false l s.o).2, s.bad⟩
def okLen (s : CW) : Prop := s.o.out.length ≤ 140737488355328
instance (s : CW) : Decidable (okLen s) := inferInstanceAs (Decidable (_ ≤ _))
def cTwo (_ : List AEntry) (s : CW) (av : List AV) : Option (AV × CW) := match av with
  | [.sl xs] => (mapO decInt xs).bind fun l => if l.length < 1099511627776 ∧ okLen (twoW l s) then some (.tup [], twoW l s) else none
  | _ => none
theorem cTwo_eq (P : List AEntry) (s : CW) (l : List Int) (h : l.length < 1099511627776) (h2 : okLen (twoW l s)) : cTwo P s [.sl (l.map encInt)] = some (.tup [], twoW l s) := by
  have hm : mapO decInt (l.map encInt) = some l := mapO_map cInt.de l
  simp only [cTwo, hm, Option.bind_some]
  rw [if_pos ⟨h, h2⟩]
theorem wU_eq (o : WO) (k : Int) (l : List Int) (h : l.length < 1099511627776) (h2 : (putW k false l o).2.out.length ≤ 140737488355328) : wU o [.int .i64 k, .sl (l.map encInt)] = some (.int .i64 (putW k false l o).1, (putW k false l o).2) := by
  simp only [wU, wAll_eq]
  rw [if_pos ⟨h, h2⟩]
theorem wS_eq (o : WO) (k : Int) (l : List Int) (h : l.length < 1099511627776) (h2 : (putW k true l o).2.out.length ≤ 140737488355328) : wS o [.int .i64 k, .sl (l.map encInt)] = some (.int .i64 (putW k true l o).1, (putW k true l o).2) := by
  simp only [wS, wAll_eq]
  rw [if_pos ⟨h, h2⟩]
theorem ok_cTwo : OkX Tryz.prog (XE [(161, sW wU)]) := okX_nil.add f_wU
theorem f_cTwo : SoundF Tryz.prog gl 162 (sC cTwo) := by
  refine c_of_wk ok_cTwo Tryz.func162 rfl rfl fun P s av r s' hm => ?_
  unfold cTwo at hm
  split at hm
  · rename_i xs
    obtain ⟨l, hl, hm2⟩ := Option.bind_eq_some_iff.1 hm
    simp only [Option.ite_none_right_eq_some, Option.some.injEq] at hm2
    obtain ⟨⟨hll, hlim⟩, he⟩ := hm2
    cases he
    have := mapO_inv (f := decInt) (g := encInt) cInt.ed xs l hl
    subst this
    clear hm hl
    refine ⟨rfl, fun st b c k H hsh G0 => ?_⟩
    have e1 := fun s => cw_c (P := P) H s []
    have e2 := fun s bad => cw_cset (P := P) H s bad []
    have e3 := cw_sW (P := P) (f := wU) H s [.int .i64 2, .sl (l.map encInt)] []
    rw [wU_eq s.o 2 l hll hlim] at e3
    have et := fun s => cw_take0 (st := st) (b := b) (c := c) (k := k) (P := P) s
    obtain ⟨o, bad⟩ := s
    unfold twoW
    simp only [cRow, List.append_nil, Option.map_some] at e1 e2 e3
    generalize putW 2 false l o = w at *
    obtain ⟨e, o'⟩ := w
    by_cases he : e = 0
    · subst he
      simp [Tryz.f162, entry, e1, e2, e3, et]
    · simp [Tryz.f162, entry, e1, e2, e3, et, he]
  · cases hm
end Go.Proofs.YtgpkochbmfhmdaaGreatDoor.Lift
namespace Go.Proofs.YtgpkochbmfhmdaaGreatDoor.Lift
open Go
set_option maxRecDepth 100000

/-- a type, out of the table -/
noncomputable def tyF (t : Nat) : Option TI := match tyList.lookup t with
  | some ti => some ti
  | none => tiOf Tryz.prog t
theorem lookup_mem' {α : Type} {j : Nat} {p : α} : ∀ {l : List (Nat × α)}, l.lookup j = some p → (j, p) ∈ l
  | [], h => by cases h
  | (k, q) :: r, h => by
    rw [List.lookup_cons] at h
    split at h
    · rename_i he
      have : j = k := by simpa using he
      cases h
      subst this
      simp
    · exact List.mem_cons_of_mem _ (lookup_mem' h)
theorem tyF_eq : tyF = tiOf Tryz.prog := by
  funext t
  unfold tyF
  split
  · rename_i ti h
    exact (tyList_ok _ (lookup_mem' h)).symm
  · rfl
noncomputable abbrev XF (E : Env) (B : List Nat) : Cfg := { T := tyF, E := E, G := gl, B := B }
theorem XF_eq (E : Env) (B : List Nat) : XF E B = XB E B := by
  unfold XF
  rw [tyF_eq]

/-- the classes above one, in so many steps at most -/
def aboveF (l : List AClass) : Nat → List Str → Str → List Str
  | 0, _, _ => []
  | n + 1, met, s => if superOf l s = [] ∨ superOf l s ∈ met then [] else superOf l s :: aboveF l n (met ++ [superOf l s]) (superOf l s)
theorem aboveF_eq (l : List AClass) : ∀ (n : Nat) (met : List Str) (s : Str), unmet l met < n → aboveF l n met s = aboveOf l met s
  | 0, _, _, h => by omega
  | n + 1, met, s, h => by
    unfold aboveF
    by_cases h1 : superOf l s = [] ∨ superOf l s ∈ met
    · rw [aboveOf_nil h1, if_pos h1]
    · have hlt := unmet_lt (fun e => h1 (.inl e)) (fun e => h1 (.inr e))
      rw [aboveOf_cons (fun e => h1 (.inl e)) (fun e => h1 (.inr e)), if_neg h1, aboveF_eq l n _ _ (by omega)]
def gAboveF (l : List AClass) (s : Str) : Option (List Str) := if l.length < 1099511627776 then some (aboveF l (l.length + 1) [s] s) else none
theorem p_AboveF : SoundP Tryz.prog gl 70 (fn2 (cL cClass) cStr (cL cStr).enc gAboveF) := by
  have h : gAboveF = fun l s => if l.length < 1099511627776 then some (aboveOf l [s] s) else none := by
    funext l s
    unfold gAboveF
    rw [aboveF_eq l _ _ _ (Nat.lt_succ_of_le (unmet_le l [s]))]
  rw [h]
  exact p_Above
noncomputable def baseF : Env := [(70, liftS 9 (fn2 (cL cClass) cStr (cL cStr).enc gAboveF)), (83, liftS 9 (fn1 cStr encBool fun s => if s.length < 1099511627776 then some (isClass s) else none)), (71, liftS 9 (fn1 cStr encSS fun s => if s.length < 1099511627776 then some (cut s) else none)), (39, liftS 9 (fn1 cStr encTyErr fun s => if s.length < 1099511627776 then some (parse s) else none)),
  (76, liftS 9 (fn1 (cL cTy) encInt fun l => if l.length < 1099511627776 then some (wide l) else none)), (57, liftS 9 (fn1 cStr encBool fun s => some (decide (s.head? = some 91)))), (108, liftS 9 (fn2 cStr cStr encSB fun s p => some (cutPrefix s p))), (148, liftS 9 (fn2 cStr cByte encInt fun s c => some (Lib.indexByte s c))),
  (160, sMake), (161, sW wU), (201, sW wS), (200, sBytes), (174, sW wLen), (175, sW wAllB)]
theorem ok_baseF : OkX Tryz.prog (XE baseF) := (((((((((((((okX_nil.add f_wAllB).add f_wLen).add f_wBytesR).add f_wS).add f_wU).add f_Make).addP p_IndexByteString).addP p_CutPrefix).addP p_array).addP p_kindWide).addP p_kindParse).addP p_cut).addP p_kindClass).addP p_AboveF
/-- one contract or the other -/
def orS (S T : Spec) : Spec := fun args st => match S args st with
  | some r => some r
  | none => T args st
theorem sound_orS {f : Nat} {S T : Spec} (h1 : SoundF Tryz.prog gl f S) (h2 : SoundF Tryz.prog gl f T) : SoundF Tryz.prog gl f (orS S T) where
  calls := fun G args vals r σ' hs inv hJ hg hargs => by
    unfold orS at hs
    split at hs
    · rename_i x hx
      cases hs
      exact h1.calls G args vals _ _ hx inv hJ hg hargs
    · exact h2.calls G args vals r σ' hs inv hJ hg hargs
/-- a clone of a slice without elements, of which it is not known whether it is nil -/
def sCloneR (sz : Nat) : Spec := fun args st => match args with
  | [.sr _ _ _ 0] => some (.sr st.length 1 0 0, st ++ [.row sz 1 0 []])
  | _ => none
theorem clone_sr0 {P : Program} {gl : Nat → Option AV} {J : Foe} {f sz : Nat} (h0 : SoundJ P gl J f sCloneNil) (h1 : SoundJ P gl J f (sCloneE sz)) : SoundJ P gl J f (sCloneR sz) where
  calls := fun G args vals r σ' hs inv hJ hg hargs => by
    unfold sCloneR at hs
    split at hs
    · cases hs
      cases hargs with
      | cons hv ht =>
        have nilcase : ∀ v, v = Value.slice none 0 0 → CallDone P f [v].toArray G.w (Ret G (.sr G.σ.length 1 0 0) (G.σ ++ [.row sz 1 0 []])) := fun v hv => by
          subst hv
          refine done_imp (h0.calls G [.snil] _ _ _ rfl inv hJ hg (.cons .snil .nil)) fun e w' he => ?_
          cases e with
          | panicked c => exact he.elim
          | outgrown => exact he.elim
          | returned u =>
            obtain ⟨G', rfl, hσ, x, inv', hr⟩ := he
            obtain ⟨H, e1, e2, x2, inv2, e3⟩ := grow_none inv' sz
            refine ⟨H, e1, by rw [e2, hσ], x.trans x2, inv2, ?_⟩
            cases hr
            rw [← hσ]
            exact .sr0 (sz := sz) ⟨.row sz 1 0 [], by rw [e2]; simp, Nat.le_refl _, rfl⟩ e3
        have otherwise_ : ∀ v, Rep G .sle v → CallDone P f [v].toArray G.w (Ret G (.sr G.σ.length 1 0 0) (G.σ ++ [.row sz 1 0 []])) := fun v hv =>
          h1.calls G [.sle] _ _ _ rfl inv hJ hg (.cons hv .nil)
        cases ht
        cases hv with
        | sr0 h hr => exact nilcase _ rfl
        | sr h hr hl hb hc => exact otherwise_ _ (.sle _ _)
        | srE h hr ho => exact otherwise_ _ (.sle _ _)
    · cases hs
theorem f_CloneT0 : SoundF Tryz.prog gl 68 (sCloneR 2) := by
  refine clone_sr0 (soundF_of_wk okX_nil mixed Tryz.func68 rfl rfl fun args st r st' h G0 => ?_) (soundF_of_wk okX_nil mixed Tryz.func68 rfl rfl fun args st r st' h G0 => ?_)
  · unfold sCloneNil at h
    split at h
    · cases h
      simp [Tryz.f68, entry]
    · cases h
  · unfold sCloneE at h
    split at h
    · cases h
      simp [Tryz.f68, entry]
    · cases h
/-- a pure contract out of a run, with types out of the table -/
theorem soundP_runF {E : Env} (B : List Nat) (ok : OkX Tryz.prog (XE E)) (m : Nat) {f : Nat} {fn : Func} (hf : Tryz.prog.funcs[f]? = some fn) (hb : fn.body.isSome = true) (hn : (fn.name == "runtime.NumGoroutine") = false) {g : List AV → Option AV}
    (h : ∀ args r, g args = some r → fz r = true ∧ ∃ st', runK (XF E B) m fn (fn.body.get hb) args [] = some (r, st')) : SoundP Tryz.prog gl f g :=
  soundP_run (ok.b B) m hf hb hn fun args r hr => by
    have := h args r hr
    rwa [XF_eq] at this
/-- does a run come to a value? -/
def comesTo (v : AV) : Option (AV × Sto) → Bool
  | some (r, _) => eqA r v
  | none => false
theorem comesTo_some {v : AV} {o : Option (AV × Sto)} (h : comesTo v o = true) : ∃ st', o = some (v, st') := by
  cases o with
  | none => cases h
  | some x => exact ⟨x.2, by rw [← eqA_eq (x := x.1) h]⟩
/-- what is said of some values alone -/
def atV (args : List AV) (v : AV) : List AV → Option AV := fun a => if eqAL a args = true then some v else none
theorem soundP_at {E : Env} (B : List Nat) (ok : OkX Tryz.prog (XE E)) (m : Nat) {f : Nat} {fn : Func} (hf : Tryz.prog.funcs[f]? = some fn) (hb : fn.body.isSome = true) (hn : (fn.name == "runtime.NumGoroutine") = false) {args : List AV} {v : AV} (hz : fz v = true)
    (h : comesTo v (runK (XF E B) m fn (fn.body.get hb) args []) = true) : SoundP Tryz.prog gl f (atV args v) :=
  soundP_runF B ok m hf hb hn fun a r hr => by
    simp only [atV, Option.ite_none_right_eq_some, Option.some.injEq] at hr
    obtain ⟨h1, rfl⟩ := hr
    rw [eqAL_eq h1]
    exact ⟨hz, comesTo_some h⟩
/-- the house's classes -/
def houseC : List AClass := [⟨[], [79, 98, 106, 101, 99, 116], [], [], []⟩, ⟨[], [84, 104, 114, 111, 119, 97, 98, 108, 101], [79, 98, 106, 101, 99, 116], [], []⟩, ⟨[], [65, 114, 105, 116, 104, 109, 101, 116, 105, 99], [84, 104, 114, 111, 119, 97, 98, 108, 101], [], []⟩, ⟨[], [78, 117, 108, 108], [84, 104, 114, 111, 119, 97, 98, 108, 101], [], []⟩, ⟨[], [73, 110, 100, 101, 120], [84, 104, 114, 111, 119, 97, 98, 108, 101], [], []⟩, ⟨[], [78, 101, 103, 97, 116, 105, 118, 101], [84, 104, 114, 111, 119, 97, 98, 108, 101], [], []⟩, ⟨[], [67, 97, 115, 116], [84, 104, 114, 111, 119, 97, 98, 108, 101], [], []⟩, ⟨[], [83, 116, 111, 114, 101], [84, 104, 114, 111, 119, 97, 98, 108, 101], [], []⟩, ⟨[], [77, 111, 110, 105, 116, 111, 114], [84, 104, 114, 111, 119, 97, 98, 108, 101], [], []⟩, ⟨[], [115, 121, 115], [79, 98, 106, 101, 99, 116], [], []⟩]
end Go.Proofs.YtgpkochbmfhmdaaGreatDoor.Lift
