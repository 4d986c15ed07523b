/-
  LIFT, 7: operators; conversions; places; slices of slices and strings; len.
  LIFT, 8: operators; conversions; places; slices of slices and strings; len.
  LIFT, 9: operators; conversions; places; slices of slices and strings; len.
  LIFT, 10: slices of slices and strings; len; append.
  LIFT, 11: append.
  LIFT, 12: append of slices and strings; composite literals; make; conversions; maps.
  LIFT, 13: make; conversions; maps.
-/
import Derived.Test.YthchohjhcjkgjaaGreatDoorQ1
import Derived.Laws.StructEq
import Derived.Laws.Concat
import Derived.Lib.Strings
import Derived.Lib.ConvBytes
import Derived.Laws.BytesString
import Derived.Laws.BytesArg
import Derived.Laws.MakeOwn
namespace Go.Proofs.YthchohjhcjkgjaaGreatDoor.Lift
open Go

theorem eqv1_int {k : IntKind} {x y : AV} {b : Bool} (h : eqv1 (.int k) x y = some b) : ∃ n m, x = .int k n ∧ y = .int k m ∧ b = decide (n = m) := by
  cases x with
  | int j n => cases y with
    | int j' m =>
      rw [eqv1] at h
      by_cases hk : j = k ∧ j' = k
      · rw [if_pos hk] at h
        obtain ⟨rfl, rfl⟩ := hk
        exact ⟨n, m, rfl, rfl, (Option.some.inj h).symm⟩
      · rw [if_neg hk] at h; cases h
    | _ => cases h
  | _ => cases h
theorem eqv1_bool {x y : AV} {b : Bool} (h : eqv1 .bool x y = some b) : ∃ n m, x = .bool n ∧ y = .bool m ∧ b = decide (n = m) := by
  cases x with
  | bool n => cases y with
    | bool m => exact ⟨n, m, rfl, rfl, (Option.some.inj h).symm⟩
    | _ => cases h
  | _ => cases h
theorem eqv1_str {x y : AV} {b : Bool} (h : eqv1 .str x y = some b) : ∃ n m, x = .str n ∧ y = .str m ∧ b = decide (n = m) := by
  cases x with
  | str n => cases y with
    | str m => exact ⟨n, m, rfl, rfl, (Option.some.inj h).symm⟩
    | _ => cases h
  | _ => cases h
theorem ok_decide {α : Type} [BEq α] [LawfulBEq α] [DecidableEq α] (a b : α) (w : World) : (Result.ok (a == b) w : Result Bool) = .ok (decide (a = b)) w := by
  by_cases h : a = b
  · subst h; simp
  · simp [h]
theorem eqvs_cons {k : TD} {ks : List TD} {x y : AV} {a a' : List AV} {b : Bool} (h : eqvs (k :: ks) (x :: a) (y :: a') = some b) : ∃ b1 b2, eqv1 k x y = some b1 ∧ eqvs ks a a' = some b2 ∧ b = (b1 && b2) := by
  rw [eqvs] at h
  split at h
  · cases h
    exact ⟨_, _, ‹_›, ‹_›, rfl⟩
  · cases h
theorem eqvs_len : ∀ {ks : List TD} {a a' : List AV} {b : Bool}, eqvs ks a a' = some b → a.length = ks.length ∧ a'.length = ks.length
  | [], [], [], _, _ => ⟨rfl, rfl⟩
  | k :: ks, x :: a, y :: a', b, h => by
    obtain ⟨_, _, _, h2, _⟩ := eqvs_cons h
    have := eqvs_len h2
    exact ⟨congrArg (· + 1) this.1, congrArg (· + 1) this.2⟩
  | [], _ :: _, _, _, h => by simp [eqvs] at h
  | [], [], _ :: _, _, h => by simp [eqvs] at h
  | _ :: _, [], _, _, h => by simp [eqvs] at h
  | _ :: _, _ :: _, [], _, h => by simp [eqvs] at h
theorem eqvs_split : ∀ {ks ks' : List TD} {a a' r r' : List AV} {b : Bool}, a.length = ks.length → a'.length = ks.length → eqvs (ks ++ ks') (a ++ r) (a' ++ r') = some b →
    ∃ b1 b2, eqvs ks a a' = some b1 ∧ eqvs ks' r r' = some b2 ∧ b = (b1 && b2)
  | [], ks', [], [], r, r', b, _, _, h => ⟨true, b, rfl, h, by simp⟩
  | k :: ks, ks', x :: a, y :: a', r, r', b, hl, hl', h => by
    obtain ⟨b1, b2, h1, h2, rfl⟩ := eqvs_cons h
    obtain ⟨c1, c2, g1, g2, rfl⟩ := eqvs_split (by simpa using hl) (by simpa using hl') h2
    exact ⟨b1 && c1, c2, by rw [eqvs, h1, g1], g2, by rw [Bool.and_assoc]⟩
  | [], _, _ :: _, _, _, _, _, hl, _, _ => by simp at hl
  | [], _, [], _ :: _, _, _, _, _, hl, _ => by simp at hl
  | _ :: _, _, [], _, _, _, _, hl, _, _ => by simp at hl
  | _ :: _, _, _ :: _, [], _, _, _, _, hl, _ => by simp at hl

/-- a value of a type, out of its cells -/
def valOf (P : Program) (t : TypeId) (xs : List Value) : Value := match P.underlying t with
  | some (.struct _) => .agg xs.toArray
  | some (.array _ _) => .agg xs.toArray
  | _ => xs.getD 0 undef

theorem run_part_val {P : Program} (w : World) {t : TypeId} {d : TypeDesc} (hd : P.underlying t = some d) (hi : (P.info? t).isSome = true) (xs : List Value) (off : Nat) (h : off + P.cellsOf t ≤ xs.length) (h1 : isAggD d = false → P.cellsOf t = 1) :
    (Go.part t xs.toArray off).run P w = .ok (valOf P t ((xs.drop off).take (P.cellsOf t))) w := by
  obtain ⟨i, hi⟩ := Option.isSome_iff_exists.1 hi
  have hs : (sizeOf t).run P w = .ok (P.cellsOf t) w := by simp [sizeOf, typeInfo, hi, Program.cellsOf]
  have ha : (isAgg t).run P w = .ok (isAggD d) w := by
    simp only [isAgg, Sem.run_bind, run_underlying hd, Result.andThen_ok]
    cases d <;> rfl
  simp only [Go.part, Sem.run_bind, ha, Result.andThen_ok]
  cases hag : isAggD d with
  | true =>
    simp only [if_true, Sem.run_bind, hs, Result.andThen_ok, Sem.run_pure]
    congr 1
    have : xs.toArray.extract off (off + P.cellsOf t) = ((xs.drop off).take (P.cellsOf t)).toArray := by
      simp [List.take_drop, List.extract]
      try rw [Nat.add_sub_cancel_left]
    unfold valOf
    rw [hd, this]
    cases d <;> simp_all [isAggD]
  | false =>
    have h1' := h1 hag
    have hx : xs.toArray[off]? = some (xs[off]'(by omega)) := by simp
    simp only [Bool.false_eq_true, if_false, hx, Sem.run_pure]
    congr 1
    unfold valOf
    rw [hd, h1']
    have hg : (((xs.drop off).take 1).getD 0 undef) = xs[off]'(by omega) := by
      rw [List.getD_eq_getElem?_getD, List.getElem?_take_of_lt (by omega), List.getElem?_drop, Nat.add_zero, List.getElem?_eq_getElem (by omega)]
      rfl
    cases d <;> simp_all [isAggD]


mutual
theorem run_equalIn_ok {P : Program} {G : Gh} (w : World) : ∀ (d : Nat) (D : Nat) (t : TypeId), d ≤ D → ∀ {ks : List TD}, eqKs P d t = some ks → ∀ (cs cs' : List AV) (xs ys : List Value) (b : Bool), RepL G cs xs → RepL G cs' ys →
    xs.length = P.cellsOf t → ys.length = P.cellsOf t → eqvs ks cs cs' = some b → (Op.equalIn D t (valOf P t xs) (valOf P t ys)).run P w = .ok b w
  | 0, _, _, _, _, h => by simp [eqKs] at h
  | d + 1, 0, _, hd, _, _ => by omega
  | d + 1, D + 1, t, hd, ks, h => fun cs cs' xs ys b hx hy hlx hly he => by
    simp only [eqKs] at h
    split at h
    · have one : P.cellsOf t = 1 → ∃ x y c c', xs = [x] ∧ ys = [y] ∧ cs = [c] ∧ cs' = [c'] ∧ Rep G c x ∧ Rep G c' y := fun h1 => by
        rw [h1] at hlx hly
        cases hx with
        | nil => simp at hlx
        | cons hx tx => cases hy with
          | nil => simp at hly
          | cons hy ty =>
            cases tx with
            | cons _ _ => simp at hlx
            | nil => cases ty with
              | cons _ _ => simp at hly
              | nil => exact ⟨_, _, _, _, rfl, rfl, rfl, rfl, hx, hy⟩
      split at h
      · rename_i k hu
        split at h
        · rename_i h1
          cases h
          obtain ⟨x, y, c, c', rfl, rfl, rfl, rfl, hx, hy⟩ := one h1
          simp only [valOf, hu, List.getD_cons_zero]
          obtain ⟨b1, b2, e1, e2, rfl⟩ := eqvs_cons he
          cases e2
          obtain ⟨n, m, rfl, rfl, rfl⟩ := eqv1_int e1
          cases hx
          cases hy
          rw [run_equalIn_int w D t _ _ _ _ hu, Bool.and_true]
          exact ok_decide _ _ w
        · cases h
      · rename_i hu
        split at h
        · rename_i h1
          cases h
          obtain ⟨x, y, c, c', rfl, rfl, rfl, rfl, hx, hy⟩ := one h1
          simp only [valOf, hu, List.getD_cons_zero]
          obtain ⟨b1, b2, e1, e2, rfl⟩ := eqvs_cons he
          cases e2
          obtain ⟨n, m, rfl, rfl, rfl⟩ := eqv1_bool e1
          cases hx
          cases hy
          rw [run_equalIn_bool' w D t _ _ hu, Bool.and_true]
          exact ok_decide _ _ w
        · cases h
      · rename_i hu
        split at h
        · rename_i h1
          cases h
          obtain ⟨x, y, c, c', rfl, rfl, rfl, rfl, hx, hy⟩ := one h1
          simp only [valOf, hu, List.getD_cons_zero]
          obtain ⟨b1, b2, e1, e2, rfl⟩ := eqvs_cons he
          cases e2
          obtain ⟨n, m, rfl, rfl, rfl⟩ := eqv1_str e1
          cases hx
          cases hy
          rw [run_equalIn_string w D t _ _ hu, Bool.and_true]
          rw [ByteArray.toList_eq, ByteArray.toList_eq]; exact ok_decide _ _ w
        · cases h
      · rename_i fs hu
        split at h
        · rename_i hst
          have hfs : P.fieldsOf t = fs := by simp [Program.fieldsOf, hu]
          simp only [valOf, hu]
          rw [run_equalIn_agg w D t _ _ (by rw [hfs]; exact hu) hst, hfs]
          have := run_eqFields_ok (P := P) (G := G) w d D (by omega) fs.toList 0 (P.cellsOf t) h cs cs' xs ys b hx hy hlx hly (by simpa using he)
          exact this
        · cases h
      · cases h
    · cases h
theorem run_eqFields_ok {P : Program} {G : Gh} (w : World) : ∀ (d : Nat) (D : Nat), d ≤ D → ∀ (fs : List Field) (off n : Nat) {ks : List TD}, eqFs P d fs off n = some ks → ∀ (cs cs' : List AV) (xs ys : List Value) (b : Bool), RepL G cs xs → RepL G cs' ys →
    xs.length = n → ys.length = n → eqvs ks (cs.drop off) (cs'.drop off) = some b → (Op.eqFields D xs.toArray ys.toArray fs).run P w = .ok b w
  | d, D, _, [], off, n, ks, h => fun cs cs' xs ys b hx hy hlx hly he => by
    unfold eqFs at h
    split at h
    · cases h
      subst_vars
      have h1 := hx.length
      have h2 := hy.length
      rw [List.drop_of_length_le (by omega), List.drop_of_length_le (by omega)] at he
      cases he
      simp [Op.eqFields]
    · cases h
  | 0, _, _, _ :: _, _, _, _, h => by simp [eqFs] at h
  | d + 1, D, hD, f :: fs, off, n, ks, h => fun cs cs' xs ys b hx hy hlx hly he => by
    simp only [eqFs] at h
    split at h
    · rename_i hf
      obtain ⟨hname, hoff⟩ := hf
      split at h
      · rename_i a bks ha hb
        cases h
        have hcl : ∃ dd, P.underlying f.type = some dd ∧ (P.info? f.type).isSome = true ∧ (isAggD dd = false → P.cellsOf f.type = 1) := by
          cases d with
          | zero => simp [eqKs] at ha
          | succ d =>
            simp only [eqKs] at ha
            split at ha
            · rename_i hi
              split at ha <;> rename_i hu
              · split at ha
                · rename_i h1; exact ⟨_, hu, hi, fun _ => h1⟩
                · cases ha
              · split at ha
                · rename_i h1; exact ⟨_, hu, hi, fun _ => h1⟩
                · cases ha
              · split at ha
                · rename_i h1; exact ⟨_, hu, hi, fun _ => h1⟩
                · cases ha
              · exact ⟨_, hu, hi, fun h => by simp [isAggD] at h⟩
              · cases ha
            · cases ha
        obtain ⟨dd, hu, hi, h1⟩ := hcl
        have hal := eqKs_len d f.type ha
        have hbl := eqFs_len d fs _ n hb
        have lx := hx.length
        have ly := hy.length
        have hle := eqvs_len he
        simp only [List.length_append, List.length_drop] at hle
        have hsx : cs.drop off = (cs.drop off).take (P.cellsOf f.type) ++ cs.drop (off + P.cellsOf f.type) := by
          rw [← List.drop_drop, List.take_append_drop]
        have hsy : cs'.drop off = (cs'.drop off).take (P.cellsOf f.type) ++ cs'.drop (off + P.cellsOf f.type) := by
          rw [← List.drop_drop, List.take_append_drop]
        rw [hsx, hsy] at he
        obtain ⟨b1, b2, e1, e2, rfl⟩ := eqvs_split (by rw [List.length_take, List.length_drop]; omega) (by rw [List.length_take, List.length_drop]; omega) he
        have sub : ∀ {ds : List AV} {vs : List Value}, RepL G ds vs → ds.length = n → RepL G ((ds.drop off).take (P.cellsOf f.type)) ((vs.drop off).take (P.cellsOf f.type)) := fun {ds vs} hv hn => by
          have := hv.length
          refine RepL.of_get (by simp; omega) fun j y u hy hu => ?_
          have hj : j < P.cellsOf f.type := by
            rcases Nat.lt_or_ge j (P.cellsOf f.type) with h | h
            · exact h
            · rw [List.getElem?_eq_none (by simp; omega)] at hy; cases hy
          rw [List.getElem?_take_of_lt hj, List.getElem?_drop] at hy hu
          obtain ⟨u', h1, h2⟩ := hv.get hy
          rw [hu] at h1; cases h1; exact h2
        have r1 := run_part_val w hu hi xs off (by omega) h1
        have r2 := run_part_val w hu hi ys off (by omega) h1
        have r3 := run_equalIn_ok (P := P) (G := G) w d D f.type (by omega) ha _ _ _ _ _ (sub hx (by omega)) (sub hy (by omega)) (by rw [List.length_take, List.length_drop]; omega) (by rw [List.length_take, List.length_drop]; omega) e1
        have r4 := run_eqFields_ok (P := P) (G := G) w d D (by omega) fs (off + P.cellsOf f.type) n hb _ _ _ _ _ hx hy hlx hly e2
        simp only [Op.eqFields, hname, ne_eq, not_false_eq_true, if_true, Sem.run_bind, hoff, r1, Result.andThen_ok, r2, r3]
        cases b1
        · simp
        · simpa using r4
      · cases h
    · cases h
theorem eqKs_len {P : Program} : ∀ (d : Nat) (t : TypeId) {ks : List TD}, eqKs P d t = some ks → ks.length = P.cellsOf t
  | 0, _, _, h => by simp [eqKs] at h
  | d + 1, t, ks, h => by
    simp only [eqKs] at h
    split at h
    · split at h
      · split at h
        · rename_i h1; cases h; simp [h1]
        · cases h
      · split at h
        · rename_i h1; cases h; simp [h1]
        · cases h
      · split at h
        · rename_i h1; cases h; simp [h1]
        · cases h
      · split at h
        · have := eqFs_len d _ _ _ h
          omega
        · cases h
      · cases h
    · cases h
theorem eqFs_len {P : Program} : ∀ (d : Nat) (fs : List Field) (off n : Nat) {ks : List TD}, eqFs P d fs off n = some ks → off + ks.length = n
  | d, [], off, n, ks, h => by
    unfold eqFs at h
    split at h
    · cases h; simpa
    · cases h
  | 0, _ :: _, _, _, _, h => by simp [eqFs] at h
  | d + 1, f :: fs, off, n, ks, h => by
    simp only [eqFs] at h
    split at h
    · split at h
      · rename_i a b ha hb
        cases h
        have := eqKs_len d f.type ha
        have := eqFs_len d fs _ n hb
        simp; omega
      · cases h
    · cases h
end
end Go.Proofs.YthchohjhcjkgjaaGreatDoor.Lift
namespace Go.Proofs.YthchohjhcjkgjaaGreatDoor.Lift
open Go

theorem ba_len (s : ByteArray) : s.data.toList.length = s.size := by cases s; rfl
theorem ba_append (a b : ByteArray) : (a ++ b).data.toList = a.data.toList ++ b.data.toList := by simp
theorem ba_get (s : ByteArray) (i : Nat) : s[i]? = s.data.toList[i]? := by
  by_cases h : i < s.size
  · have h' : i < s.data.toList.length := by rw [ba_len]; exact h
    rw [List.getElem?_eq_getElem h', getElem?_pos s i h]
    rfl
  · rw [List.getElem?_eq_none (by rw [ba_len]; omega), getElem?_neg s i h]
theorem ba_extract (s : ByteArray) (a b : Nat) : (s.extract a b).data.toList = (s.data.toList.take b).drop a := by
  rw [Lib.extract_data, List.drop_take]

section
variable {P : Program} {G : Gh}

theorem valOf_scal {t : TypeId} {d : TypeDesc} (hu : P.underlying t = some d) (h : isAggD d = false) (v : Value) : valOf P t [v] = v := by
  unfold valOf; rw [hu]; cases d <;> simp_all [isAggD]
theorem valOf_agg {t : TypeId} {d : TypeDesc} (hu : P.underlying t = some d) (h : isAggD d = true) (a : Array Value) : valOf P t a.toList = .agg a := by
  unfold valOf; rw [hu]; cases d <;> simp_all [isAggD]

theorem equalIn_ptr_nil (w : World) {t e : TypeId} (hu : P.underlying t = some (.pointer e)) (d : Nat) (b : Option Addr) : (Op.equalIn (d + 1) t (.pointer none) (.pointer b)).run P w = .ok b.isNone w := by
  simp [Op.equalIn, run_underlying hu]
theorem equalIn_slice_nil (w : World) {t e : TypeId} (hu : P.underlying t = some (.slice e)) (d : Nat) (a : Option Addr) (l c : Nat) : (Op.equalIn (d + 1) t (.slice a l c) (.slice none 0 0)).run P w = .ok a.isNone w := by
  cases a <;> simp [Op.equalIn, run_underlying hu]
theorem equalIn_nil_ptr (w : World) {t e : TypeId} (hu : P.underlying t = some (.pointer e)) (d : Nat) (a : Addr) : (Op.equalIn (d + 1) t (.pointer (some a)) (.pointer none)).run P w = .ok false w := by
  simp [Op.equalIn, run_underlying hu]
theorem equalIn_fn_nn (w : World) {t : TypeId} {a b : Array TypeId} {c : Bool} (hu : P.underlying t = some (.func a b c)) (d : Nat) : (Op.equalIn (d + 1) t .nilFunc .nilFunc).run P w = .ok true w := by
  simp [Op.equalIn, run_underlying hu]
theorem equalIn_fn_nf (w : World) {t : TypeId} {a b : Array TypeId} {c : Bool} (hu : P.underlying t = some (.func a b c)) (d : Nat) (f : Fn) (x y : Array Value) : (Op.equalIn (d + 1) t .nilFunc (.func f x y)).run P w = .ok false w := by
  simp [Op.equalIn, run_underlying hu]
theorem equalIn_fn_fn (w : World) {t : TypeId} {a b : Array TypeId} {c : Bool} (hu : P.underlying t = some (.func a b c)) (d : Nat) (f : Fn) (x y : Array Value) : (Op.equalIn (d + 1) t (.func f x y) .nilFunc).run P w = .ok false w := by
  simp [Op.equalIn, run_underlying hu]

theorem beq_decide {α : Type} [BEq α] [LawfulBEq α] [DecidableEq α] (a b : α) : (a == b) = decide (a = b) := by
  by_cases h : a = b
  · subst h; simp
  · simp [h]
theorem bne_decide {α : Type} [BEq α] [LawfulBEq α] [DecidableEq α] (a b : α) : (a != b) = !decide (a = b) := by
  rw [bne, beq_decide]
theorem run_eql_of {w : World} {t : TypeId} {x y : Value} {b : Bool} (h : (Op.equalIn 10000 t x y).run P w = .ok b w) (h1 : binOp .eql t x y = (do pure (.bool (← Op.equal t x y)))) (h2 : binOp .neq t x y = (do pure (.bool (!(← Op.equal t x y))))) :
    (binOp .eql t x y).run P w = .ok (.bool b) w ∧ (binOp .neq t x y).run P w = .ok (.bool !b) w := by
  rw [h1, h2]
  simp only [Op.equal, Op.maxDepth, Sem.run_bind, h, Result.andThen_ok, Sem.run_pure, and_self]

theorem run_eqv {t : TypeId} {ti : TI} (ht : tiOf P t = some ti) {x y : AV} {vx vy : Value} (hx : Rep G x vx) (hy : Rep G y vy) {b : Bool} (h : eqv ti x y = some b) (ox oy : Operand) (op : BinOp) :
    (eqGuard op t ox oy vx vy).run P G.w = .ok () G.w ∧ (binOp .eql t vx vy).run P G.w = .ok (.bool b) G.w ∧ (binOp .neq t vx vy).run P G.w = .ok (.bool !b) G.w := by
  obtain ⟨i, d, z, F⟩ := tiOf_facts ht
  unfold eqv at h
  split at h
  · rename_i ks hks
    rw [F.eq] at hks
    split at hks
    · rename_i hg
      split at h
      · rename_i hag
        obtain ⟨hxa, hya⟩ := hag
        have hlen := eqvs_len h
        have hkl := eqKs_len 40 t hks
        rw [F.agg] at hxa hya
        have key : ∀ {a : AV} {v : Value}, Rep G a v → a.isAgg = isAggD d → a.cells.length = P.cellsOf t → ∃ l : List Value, RepL G a.cells l ∧ l.length = P.cellsOf t ∧ v = valOf P t l := fun {a v} hr ha hl => by
          cases hd : isAggD d with
          | true =>
            rw [hd] at ha
            cases hr <;> simp at ha
            rename_i cs arr hc
            exact ⟨arr.toList, hc, by rw [← hc.length]; simpa using hl, (valOf_agg F.und hd arr).symm⟩
          | false =>
            rw [hd] at ha
            refine ⟨[v], ?_, by rw [← hl]; cases a <;> simp_all, (valOf_scal F.und hd v).symm⟩
            cases a <;> first
              | (simp at ha; done)
              | exact .cons hr .nil
        obtain ⟨lx, r1, n1, rfl⟩ := key hx hxa (by omega)
        obtain ⟨ly, r2, n2, rfl⟩ := key hy hya (by omega)
        have hq := run_equalIn_ok (P := P) (G := G) G.w 40 10000 t (by omega) hks _ _ _ _ _ r1 r2 n1 n2 h
        cases hd : isAggD d with
        | true =>
          rw [show lx = lx.toArray.toList by simp, show ly = ly.toArray.toList by simp, valOf_agg F.und hd, valOf_agg F.und hd] at hq ⊢
          rw [run_eqGuard_agg G.w op t ox oy _ _ hg, run_eql_struct, run_neq_struct, hq]
          exact ⟨rfl, rfl, rfl⟩
        | false =>
          rw [hd] at hxa hya
          have one : ∀ {a : AV}, a.isAgg = false → a.cells = [a] := fun {a} ha => by cases a <;> first | rfl | (simp at ha; done)
          rw [one hxa, one hya] at h
          cases ks with
          | nil => simp [eqvs] at h
          | cons k ks =>
            obtain ⟨b1, b2, e1, e2, rfl⟩ := eqvs_cons h
            have e3 : ks = [] := by
              have := eqvs_len e2
              cases ks with
              | nil => rfl
              | cons _ _ => simp at this
            subst e3
            cases e2
            simp only [Bool.and_true] at *
            cases k with
            | int k =>
              obtain ⟨n, m, rfl, rfl, rfl⟩ := eqv1_int e1
              generalize valOf P t lx = vx at *
              generalize valOf P t ly = vy at *
              cases hx
              cases hy
              rw [eqGuard_at_int]; exact ⟨rfl, by simp only [binOp, ne_eq, not_true_eq_false, if_false, Op.intCmp, Sem.run_pure, beq_decide], by simp only [binOp, ne_eq, not_true_eq_false, if_false, Op.intCmp, Sem.run_pure, bne_decide]⟩
            | bool =>
              obtain ⟨n, m, rfl, rfl, rfl⟩ := eqv1_bool e1
              generalize valOf P t lx = vx at *
              generalize valOf P t ly = vy at *
              cases hx
              cases hy
              rw [eqGuard_at_bool]; exact ⟨rfl, by simp only [binOp, Op.equal, Op.maxDepth, Sem.run_bind, hq, Result.andThen_ok, Sem.run_pure], by simp only [binOp, Op.equal, Op.maxDepth, Sem.run_bind, hq, Result.andThen_ok, Sem.run_pure]⟩
            | str =>
              obtain ⟨n, m, rfl, rfl, rfl⟩ := eqv1_str e1
              generalize valOf P t lx = vx at *
              generalize valOf P t ly = vy at *
              cases hx
              cases hy
              rw [eqGuard_at_string, binOp_string_eql, binOp_string_neq, ByteArray.toList_eq, ByteArray.toList_eq, beq_decide]; exact ⟨rfl, rfl, rfl⟩
            | _ => cases e1
      · cases h
    · cases hks
  · have hp : ∀ e, ti.d = .ptr e → P.underlying t = some (.pointer e) := fun e he => by
      rw [F.d] at he
      have := F.und
      cases d <;> simp [tdOf] at he
      subst he; exact this
    have hfn : ti.d = .func → ∃ a b c, P.underlying t = some (.func a b c) := fun he => by
      rw [F.d] at he
      have := F.und
      cases d <;> simp [tdOf] at he
      exact ⟨_, _, _, this⟩
    have hsl : ∀ e, ti.d = .slice e → P.underlying t = some (.slice e) := fun e he => by
      rw [F.d] at he
      have := F.und
      cases d <;> simp [tdOf] at he
      subst he; exact this
    split at h
    all_goals first
      | (rename_i hd; cases h; cases hy; cases hx <;> exact ⟨by rw [eqGuard_at_slice]; rfl, run_eql_of (equalIn_slice_nil G.w (hsl _ hd) 9999 _ _ _) rfl rfl⟩)
      | (rename_i hd; cases h; cases hx; cases hy; exact ⟨by rw [eqGuard_at_pointer]; rfl, run_eql_of (by first | exact equalIn_ptr_nil G.w (hp _ hd) 9999 _ | exact equalIn_nil_ptr G.w (hp _ hd) 9999 _) rfl rfl⟩)
      | (rename_i hd; cases h; cases hx; cases hy; obtain ⟨a, b, c, hu⟩ := hfn hd; exact ⟨by first | (rw [eqGuard_at_nilFunc]; rfl) | (rw [eqGuard_at_func]; rfl), run_eql_of (by first | exact equalIn_fn_nn G.w hu 9999 | exact equalIn_fn_nf G.w hu 9999 _ _ _ | exact equalIn_fn_fn G.w hu 9999 _ _ _) rfl rfl⟩)
      | (cases h; done)
end
end Go.Proofs.YthchohjhcjkgjaaGreatDoor.Lift
namespace Go.Proofs.YthchohjhcjkgjaaGreatDoor.Lift
open Go

section
variable {P : Program} {G : Gh}

theorem evBin_int_inv {op : BinOp} {ti : TI} {x y v : AV} (h : evBin op ti x y = some v) (h1 : op ≠ .eql) (h2 : op ≠ .neq) :
    (∃ k a k' b, x = .int k a ∧ y = .int k' b) ∨ (∃ a b, x = .str a ∧ y = .str b ∧ (op = .add ∨ op = .lss)) := by
  cases op <;> first
    | exact absurd rfl h1
    | exact absurd rfl h2
    | (cases x with
       | int k a => cases y with
         | int k' b => exact .inl ⟨_, _, _, _, rfl, rfl⟩
         | _ => cases h
       | str a => cases y with
         | str b => first | exact .inr ⟨_, _, rfl, rfl, .inl rfl⟩ | exact .inr ⟨_, _, rfl, rfl, .inr rfl⟩ | cases h
         | _ => cases h
       | _ => cases h)

theorem run_evBin (op : BinOp) {t : TypeId} {ti : TI} (ht : tiOf P t = some ti) {x y v : AV} {vx vy : Value} (hx : Rep G x vx) (hy : Rep G y vy) (h : evBin op ti x y = some v) (ox oy : Operand) :
    ∃ u, (do eqGuard op t ox oy vx vy; binOp op t vx vy : Sem Value).run P G.w = .ok u G.w ∧ Rep G v u := by
  by_cases e1 : op = .eql
  · subst e1
    simp only [evBin] at h
    cases he : eqv ti x y with
    | none => rw [he] at h; cases h
    | some b =>
      rw [he] at h; cases h
      obtain ⟨h1, h2, _⟩ := run_eqv (P := P) ht hx hy he ox oy .eql
      exact ⟨.bool b, by simp only [Sem.run_bind, h1, Result.andThen_ok, h2], .bool b⟩
  by_cases e2 : op = .neq
  · subst e2
    simp only [evBin] at h
    cases he : eqv ti x y with
    | none => rw [he] at h; cases h
    | some b =>
      rw [he] at h; cases h
      obtain ⟨h1, _, h2⟩ := run_eqv (P := P) ht hx hy he ox oy .neq
      exact ⟨.bool (!b), by simp only [Sem.run_bind, h1, Result.andThen_ok, h2], .bool (!b)⟩
  rcases evBin_int_inv h e1 e2 with ⟨k, a, k', b, rfl, rfl⟩ | ⟨a, b, rfl, rfl, hop⟩
  · cases hx
    cases hy
    simp only [eqGuard_at_int, Sem.run_bind, Sem.run_pure, Result.andThen_ok]
    cases op <;> simp only [evBin] at h <;> first
      | exact absurd rfl e1
      | exact absurd rfl e2
      | (split at h
         · rename_i hk
           cases h
           first
             | (subst hk
                refine ⟨_, ?_, .int _ _⟩
                simp [binOp, Op.intArith, Op.intBits]; done)
             | (subst hk
                refine ⟨_, ?_, .bool _⟩
                simp [binOp, Op.intCmp]; done)
             | (obtain ⟨rfl, hb⟩ := hk
                refine ⟨_, ?_, .int _ _⟩
                simp [binOp, Op.intDiv, hb]; done)
             | (refine ⟨_, ?_, .int _ _⟩
                simp [binOp, Op.shift, show ¬ b < 0 by omega]; done)
         · cases h)
  · generalize ha : a = a' at hx
    generalize hb : b = b' at hy
    cases hx
    cases hy
    subst ha hb
    simp only [eqGuard_at_string, Sem.run_bind, Sem.run_pure, Result.andThen_ok]
    rcases hop with rfl | rfl
    · rename_i sa sb
      simp only [evBin] at h
      split at h
      · rename_i hl
        cases h
        refine ⟨.string (sa ++ sb), ?_, by rw [← ba_append]; exact .str _⟩
        have : ¬ (((sa.size + sb.size : Nat) : Int) > IntKind.i64.max) := by
          rw [ba_len, ba_len] at hl
          rw [IntKind.max_i64]
          omega
        simp only [binOp, Op.stringOp, this, if_false, Sem.run_pure]
      · cases h
    · simp only [evBin] at h
      cases h
      refine ⟨_, ?_, .bool _⟩
      simp only [binOp, Op.stringOp, Sem.run_pure, ByteArray.toList_eq]

theorem run_evUn (op : UnOp) {x v : AV} {vx : Value} (hx : Rep G x vx) (h : evUn op x = some v) : ∃ u, (Op.unary op vx).run P G.w = .ok u G.w ∧ Rep G v u := by
  cases op <;> cases x <;> first
    | (cases h; done)
    | (cases hx
       cases h
       exact ⟨_, rfl, by constructor⟩)

def ptrAdd (x : AV) (n : Nat) : Option AV := match x with
  | .ptr b g i off => some (.ptr b g i (off + n))
  | .rp y off => some (.rp y (off + n))
  | _ => none

/-- a place within a slice, an array, a struct -/
theorem run_fieldAt {t : TypeId} {ti : TI} (ht : tiOf P t = some ti) {fs : List (Nat × Nat)} (hd : ti.d = .struct fs) {f o ft : Nat} (hf : fs[f]? = some (o, ft)) {fti : TI} (hft : tiOf P ft = some fti) (hs : fti.size ≠ 0)
    {x v : AV} {vx : Value} (hx : Rep G x vx) (h : ptrAdd x o = some v) :
    ∃ u, (Instr.fieldAt t vx f).run P G.w = .ok u G.w ∧ Rep G v u := by
  obtain ⟨i, d, z, F⟩ := tiOf_facts ht
  obtain ⟨i2, d2, z2, F2⟩ := tiOf_facts hft
  have hD : ∃ gs : Array Field, d = .struct gs ∧ ∃ fl, gs[f]? = some fl ∧ fl.offset = o ∧ fl.type = ft := by
    rw [F.d] at hd
    cases d <;> simp [tdOf] at hd
    rename_i gs
    refine ⟨gs, rfl, ?_⟩
    rw [← hd, List.getElem?_map, Array.getElem?_toList] at hf
    cases hg : gs[f]? with
    | none => rw [hg] at hf; cases hf
    | some fl => rw [hg] at hf; cases hf; exact ⟨fl, rfl, rfl, rfl⟩
  obtain ⟨gs, rfl, fl, hfl, rfl, rfl⟩ := hD
  have hu := F.run_und G.w
  cases hx <;> cases h
  · rename_i b g i off sz blk hid hr
    refine ⟨.pointer (some ⟨blk, i * sz + (off + fl.offset), none⟩), ?_, .ptr hid hr⟩
    simp only [Instr.fieldAt, Sem.run_bind, hu, Result.andThen_ok, hfl, Instr.sureAddr, Sem.run_pure, fieldPlace, F2.run_size, hs, if_false, Addr.add_lit, Nat.add_assoc]
  · rename_i y off blk oo hc
    refine ⟨.pointer (some ⟨blk, oo + (off + fl.offset), none⟩), ?_, .rp hc⟩
    simp only [Instr.fieldAt, Sem.run_bind, hu, Result.andThen_ok, hfl, Instr.sureAddr, Sem.run_pure, fieldPlace, F2.run_size, hs, if_false, Addr.add_lit, Nat.add_assoc]

theorem run_field {t : TypeId} {ti : TI} (ht : tiOf P t = some ti) {fs : List (Nat × Nat)} (hd : ti.d = .struct fs) {f o ft : Nat} (hf : fs[f]? = some (o, ft)) {fti : TI} (hft : tiOf P ft = some fti)
    {cs : List AV} {v : AV} {vx : Value} (hx : Rep G (.agg cs) vx) (h : part fti (.agg cs) o = some v) : ∃ u, (Instr.field t vx f).run P G.w = .ok u G.w ∧ Rep G v u := by
  obtain ⟨i, d, z, F⟩ := tiOf_facts ht
  have hD : ∃ gs : Array Field, d = .struct gs ∧ ∃ fl, gs[f]? = some fl ∧ fl.offset = o ∧ fl.type = ft := by
    rw [F.d] at hd
    cases d <;> simp [tdOf] at hd
    rename_i gs
    refine ⟨gs, rfl, ?_⟩
    rw [← hd, List.getElem?_map, Array.getElem?_toList] at hf
    cases hg : gs[f]? with
    | none => rw [hg] at hf; cases hf
    | some fl => rw [hg] at hf; cases hf; exact ⟨fl, rfl, rfl, rfl⟩
  obtain ⟨gs, rfl, fl, hfl, rfl, rfl⟩ := hD
  have hu := F.run_und G.w
  cases hx with
  | agg hl =>
    obtain ⟨u, h1, h2⟩ := run_part (P := P) hft hl h
    exact ⟨u, by simp only [Instr.field, Sem.run_bind, hu, Result.andThen_ok, hfl, asAgg, Sem.run_pure, h1], h2⟩

theorem tdOf_slice {d : TypeDesc} {e : Nat} (h : tdOf d = .slice e) : d = .slice e := by cases d <;> simp [tdOf] at h; subst h; rfl
theorem tdOf_array {d : TypeDesc} {n e : Nat} (h : tdOf d = .array n e) : d = .array n e := by
  cases d <;> simp [tdOf] at h; obtain ⟨rfl, rfl⟩ := h; rfl
theorem tdOf_str {d : TypeDesc} (h : tdOf d = .str) : d = .string := by cases d <;> simp [tdOf] at h; rfl
theorem tdOf_int {d : TypeDesc} {k : IntKind} (h : tdOf d = .int k) : d = .int k := by cases d <;> simp [tdOf] at h; subst h; rfl
theorem tdOf_map {d : TypeDesc} {k e : Nat} (h : tdOf d = .map k e) : d = .map k e := by
  cases d <;> simp [tdOf] at h; obtain ⟨rfl, rfl⟩ := h; rfl

/-- a slice's elements are of the size that its type says (asked of the frozen ones at each index) -/
theorem run_indexAt_sl {t e : TypeId} {ti te : TI} (ht : tiOf P t = some ti) (hd : ti.d = .slice e) (he : tiOf P e = some te) {k : IntKind} {i : Int} (h0 : 0 ≤ i) {xs : List AV} {v : AV} (hv : xs[i.toNat]? = some v) (hsz : v.cells.length = te.size)
    {vx : Value} (hx : Rep G (.sl xs) vx) : ∃ u, (Instr.indexAt t vx (.int k i)).run P G.w = .ok u G.w ∧ Rep G (.rp v 0) u := by
  obtain ⟨ii, d, z, F⟩ := tiOf_facts ht
  obtain ⟨i2, d2, z2, F2⟩ := tiOf_facts he
  obtain rfl := tdOf_slice (F.d ▸ hd)
  have hu := F.run_und G.w
  cases hx with
  | sl0 a cap _ => simp at hv
  | sl hl hE =>
    rename_i blk o sz cap
    obtain ⟨h1, h2⟩ := hE.get hv
    have hlt : i.toNat < xs.length := by
      rcases Nat.lt_or_ge i.toNat xs.length with h | h
      · exact h
      · rw [List.getElem?_eq_none h] at hv; cases hv
    refine ⟨.pointer (some ⟨blk, o + i.toNat * sz + 0, none⟩), ?_, .rp h2⟩
    have hin : (0 : Int) ≤ i ∧ i < (xs.length : Int) := ⟨h0, by omega⟩
    simp only [Instr.indexAt, asIntOf, Sem.run_bind, Sem.run_pure, Result.andThen_ok, hu, hin, and_self, if_true, F2.run_size, Addr.add_lit, ← hsz, h1, Nat.add_zero]

theorem run_indexAt_sr {t e : TypeId} {ti te : TI} (ht : tiOf P t = some ti) (hd : ti.d = .slice e) (he : tiOf P e = some te) {k : IntKind} {i : Int} {b g off len : Nat} (h0 : 0 ≤ i) (h1 : i < (len : Int)) (hsz : ∃ kk, G.σ[b]? = some kk ∧ kk.sz = some te.size)
    {vx : Value} (hx : Rep G (.sr b g off len) vx) : ∃ u, (Instr.indexAt t vx (.int k i)).run P G.w = .ok u G.w ∧ Rep G (.ptr b g (off + i.toNat) 0) u := by
  obtain ⟨ii, d, z, F⟩ := tiOf_facts ht
  obtain ⟨i2, d2, z2, F2⟩ := tiOf_facts he
  obtain rfl := tdOf_slice (F.d ▸ hd)
  have hu := F.run_und G.w
  cases hx with
  | sr0 => omega
  | srE => omega
  | sr hid hr hl hb hc =>
    rename_i sz blk cap c e2 fz
    have hs : sz = te.size := by
      obtain ⟨kk, q1, q2⟩ := hsz
      obtain ⟨k2, p1, _, p2⟩ := hid
      rw [q1] at p1; cases p1
      rw [q2] at p2; cases p2; rfl
    subst hs
    refine ⟨.pointer (some ⟨blk, (off + i.toNat) * te.size + 0, none⟩), ?_, .ptr hid hr⟩
    have hin : (0 : Int) ≤ i ∧ i < (len : Int) := ⟨h0, h1⟩
    simp only [Instr.indexAt, asIntOf, Sem.run_bind, Sem.run_pure, Result.andThen_ok, hu, hin, and_self, if_true, F2.run_size, Addr.add_lit, Nat.add_zero, Nat.add_mul]

theorem run_indexAt_arr {t n e : TypeId} {ti te : TI} (ht : tiOf P t = some ti) (hd : ti.d = .array n e) (he : tiOf P e = some te) {k : IntKind} {i : Int} (h0 : 0 ≤ i) (h1 : i < (n : Int)) {x v : AV}
    {vx : Value} (hx : Rep G x vx) (h : ptrAdd x (i.toNat * te.size) = some v) :
    ∃ u, (Instr.indexAt t vx (.int k i)).run P G.w = .ok u G.w ∧ Rep G v u := by
  obtain ⟨ii, d, z, F⟩ := tiOf_facts ht
  obtain ⟨i2, d2, z2, F2⟩ := tiOf_facts he
  obtain rfl := tdOf_array (F.d ▸ hd)
  have hu := F.run_und G.w
  have hin : (0 : Int) ≤ i ∧ i < (n : Int) := ⟨h0, h1⟩
  cases hx <;> cases h
  · rename_i b g j off sz blk hid hr
    refine ⟨.pointer (some ⟨blk, j * sz + (off + i.toNat * te.size), none⟩), ?_, .ptr hid hr⟩
    simp only [Instr.indexAt, asIntOf, Instr.sureAddr, Sem.run_bind, Sem.run_pure, Result.andThen_ok, hu, hin, and_self, if_true, F2.run_size, Addr.add_lit, Nat.add_assoc]
  · rename_i y off blk oo hc
    refine ⟨.pointer (some ⟨blk, oo + (off + i.toNat * te.size), none⟩), ?_, .rp hc⟩
    simp only [Instr.indexAt, asIntOf, Instr.sureAddr, Sem.run_bind, Sem.run_pure, Result.andThen_ok, hu, hin, and_self, if_true, F2.run_size, Addr.add_lit, Nat.add_assoc]

theorem run_index_str {t : TypeId} {ti : TI} (ht : tiOf P t = some ti) (hd : ti.d = .str) {k : IntKind} {i : Int} (h0 : 0 ≤ i) {b : List UInt8} {c : UInt8} (hc : b[i.toNat]? = some c) {vx : Value} (hx : Rep G (.str b) vx) :
    (Instr.index t vx (.int k i)).run P G.w = .ok (.int .u8 c.toNat) G.w := by
  obtain ⟨ii, d, z, F⟩ := tiOf_facts ht
  obtain rfl := tdOf_str (F.d ▸ hd)
  have hu := F.run_und G.w
  generalize hb : b = b' at hx
  cases hx with
  | str s =>
    subst hb
    rw [← ba_get] at hc
    simp only [Instr.index, asIntOf, Sem.run_bind, Sem.run_pure, Result.andThen_ok, hu, h0, if_true, hc]

theorem run_index_arr {t n e : TypeId} {ti te : TI} (ht : tiOf P t = some ti) (hd : ti.d = .array n e) (he : tiOf P e = some te) {k : IntKind} {i : Int} (h0 : 0 ≤ i) (h1 : i < (n : Int)) {cs : List AV} {v : AV} {vx : Value} (hx : Rep G (.agg cs) vx)
    (h : part te (.agg cs) (i.toNat * te.size) = some v) : ∃ u, (Instr.index t vx (.int k i)).run P G.w = .ok u G.w ∧ Rep G v u := by
  obtain ⟨ii, d, z, F⟩ := tiOf_facts ht
  obtain ⟨i2, d2, z2, F2⟩ := tiOf_facts he
  obtain rfl := tdOf_array (F.d ▸ hd)
  have hu := F.run_und G.w
  have hin : (0 : Int) ≤ i ∧ i < (n : Int) := ⟨h0, h1⟩
  cases hx with
  | agg hl =>
    obtain ⟨u, h1, h2⟩ := run_part (P := P) he hl h
    exact ⟨u, by simp only [Instr.index, asIntOf, Sem.run_bind, Sem.run_pure, Result.andThen_ok, hu, hin, and_self, if_true, F2.run_size, h1], h2⟩
end
end Go.Proofs.YthchohjhcjkgjaaGreatDoor.Lift
namespace Go.Proofs.YthchohjhcjkgjaaGreatDoor.Lift
open Go

section
variable {P : Program} {G : Gh}

theorem run_optIdx_lo {x : Option AV} {v : Option Value} (h : match x, v with | none, none => True | some a, some b => Rep G a b | _, _ => False) {l hh : Nat} (hl : optIdx x 0 = some l) (hle : l ≤ hh) (code : BoundsCode) :
    (match v with | some v => Instr.sliceBound v hh code | none => pure 0 : Sem Nat).run P G.w = .ok l G.w := by
  cases x with
  | none => cases v with
    | none => cases hl; rfl
    | some b => exact h.elim
  | some a => cases v with
    | none => exact h.elim
    | some b =>
      simp only at h
      cases a <;> simp only [optIdx] at hl <;> try (cases hl; done)
      cases h
      split at hl
      · rename_i k n h0
        cases hl
        have : (0 : Int) ≤ n ∧ n ≤ (hh : Int) := ⟨h0, by omega⟩
        simp only [Instr.sliceBound, asIntOf, Sem.run_bind, Sem.run_pure, Result.andThen_ok, this, and_self, if_true]
      · cases hl
theorem run_optIdx_hi {x : Option AV} {v : Option Value} (h : match x, v with | none, none => True | some a, some b => Rep G a b | _, _ => False) {d l hh : Nat} (hl : optIdx x d = some l) (hle : l ≤ hh) (code : BoundsCode) :
    (match v with | some v => Instr.sliceBound v hh code | none => pure d : Sem Nat).run P G.w = .ok l G.w := by
  cases x with
  | none => cases v with
    | none => cases hl; rfl
    | some b => exact h.elim
  | some a => cases v with
    | none => exact h.elim
    | some b =>
      simp only at h
      cases a <;> simp only [optIdx] at hl <;> try (cases hl; done)
      cases h
      split at hl
      · rename_i k n h0
        cases hl
        have : (0 : Int) ≤ n ∧ n ≤ (hh : Int) := ⟨h0, by omega⟩
        simp only [Instr.sliceBound, asIntOf, Sem.run_bind, Sem.run_pure, Result.andThen_ok, this, and_self, if_true]
      · cases hl

def RepO (G : Gh) (x : Option AV) (v : Option Value) : Prop := match x, v with | none, none => True | some a, some b => Rep G a b | _, _ => False

theorem run_sliceBounds {lo hi : Option AV} {vlo vhi : Option Value} (h1 : RepO G lo vlo) (h2 : RepO G hi vhi) (isS : Bool) {len cap l h : Nat} (hl : optIdx lo 0 = some l) (hh : optIdx hi len = some h) (hle : l ≤ h) (hc : h ≤ cap) :
    (Instr.sliceBounds isS len cap vlo vhi none).run P G.w = .ok (l, h, cap) G.w := by
  have e1 := run_optIdx_hi (P := P) h2 hh hc (if isS then .sliceAcap else .sliceAlen)
  have e2 := run_optIdx_lo (P := P) h1 hl hle .sliceB
  unfold Instr.sliceBounds
  cases vhi with
  | none =>
    cases vlo with
    | none => simp only [Sem.run_bind, Sem.run_pure, Result.andThen_ok] at e1 e2 ⊢; cases e1; cases e2; rfl
    | some b => simp only [Sem.run_bind, Sem.run_pure, Result.andThen_ok, Option.isSome_none, Bool.false_eq_true, if_false] at e1 e2 ⊢; cases e1; rw [e2]; rfl
  | some a =>
    cases vlo with
    | none => simp only [Sem.run_bind, Sem.run_pure, Result.andThen_ok] at e1 e2 ⊢; rw [e1]; cases e2; rfl
    | some b => simp only [Sem.run_bind, Sem.run_pure, Result.andThen_ok, Option.isSome_none, Bool.false_eq_true, if_false] at e1 e2 ⊢; rw [e1]; simp only [Result.andThen_ok]; rw [e2]; rfl

theorem drop_elems {xs : List AV} {blk o sz : Nat} (hE : RepElems G xs blk o sz) (l h : Nat) (hh : h ≤ xs.length) : RepElems G ((xs.take h).drop l) blk (o + l * sz) sz :=
  RepElems.of_get fun i x hx => by
    rw [List.getElem?_drop] at hx
    have hlt : l + i < h := by
      rcases Nat.lt_or_ge (l + i) h with q | q
      · exact q
      · rw [List.getElem?_eq_none (by simp; omega)] at hx; cases hx
    rw [List.getElem?_take_of_lt hlt] at hx
    have := hE.get hx
    rwa [show o + l * sz + i * sz = o + (l + i) * sz by rw [Nat.add_mul]; omega]

theorem run_sliceAt_str {t : TypeId} {ti : TI} (ht : tiOf P t = some ti) (hd : ti.d = .str) {b : List UInt8} {v : Value} (hx : Rep G (.str b) v) {lo hi : Option AV} {vlo vhi : Option Value} (h1 : RepO G lo vlo) (h2 : RepO G hi vhi)
    {l h : Nat} (hl : optIdx lo 0 = some l) (hh : optIdx hi b.length = some h) (hle : l ≤ h) (hc : h ≤ b.length) :
    ∃ u, (Instr.sliceAt t v vlo vhi none).run P G.w = .ok u G.w ∧ Rep G (.str ((b.take h).drop l)) u := by
  obtain ⟨ii, d, z, F⟩ := tiOf_facts ht
  obtain rfl := tdOf_str (F.d ▸ hd)
  have hu := F.run_und G.w
  generalize hb : b = b' at hx
  cases hx with
  | str s =>
    subst hb
    have hs := run_sliceBounds (P := P) h1 h2 false (len := s.size) (cap := s.size) hl (by rwa [ba_len] at hh) hle (by rwa [ba_len] at hc)
    refine ⟨.string (s.extract l h), ?_, by rw [← ba_extract]; exact .str _⟩
    simp only [Instr.sliceAt, Sem.run_bind, hu, Result.andThen_ok, Instr.slice, Option.isSome_none, Bool.false_eq_true, if_false, Sem.run_pure, hs]

theorem run_sliceAt_sl {t e : TypeId} {ti te : TI} (ht : tiOf P t = some ti) (hd : ti.d = .slice e) (he : tiOf P e = some te) {xs : List AV} {v : Value} (hx : Rep G (.sl xs) v) {lo hi : Option AV} {vlo vhi : Option Value} (h1 : RepO G lo vlo) (h2 : RepO G hi vhi)
    {l h : Nat} (hl : optIdx lo 0 = some l) (hh : optIdx hi xs.length = some h) (hle : l ≤ h) (hc : h ≤ xs.length) (hs : l = 0 ∨ xs.all (fun x => decide (x.cells.length = te.size)) = true) :
    ∃ u, (Instr.sliceAt t v vlo vhi none).run P G.w = .ok u G.w ∧ Rep G (.sl ((xs.take h).drop l)) u := by
  obtain ⟨ii, d, z, F⟩ := tiOf_facts ht
  obtain ⟨i2, d2, z2, F2⟩ := tiOf_facts he
  obtain rfl := tdOf_slice (F.d ▸ hd)
  have hu := F.run_und G.w
  generalize hxs : xs = xs' at hx
  cases hx with
  | sl0 a cap hn =>
    subst hxs
    simp only [List.length_nil, Nat.le_zero] at hc
    subst hc
    obtain rfl : l = 0 := by omega
    have hs := run_sliceBounds (P := P) h1 h2 true (len := 0) (cap := cap) hl hh hle (Nat.zero_le _)
    refine ⟨.slice (if cap = 0 then a else a.map (·.add (0 * te.size))) (0 - 0) (cap - 0), ?_, .sl0 _ _ fun e => by
      split at e
      · omega
      · have := hn (Option.map_eq_none_iff.1 e); omega⟩
    simp only [Instr.sliceAt, Sem.run_bind, hu, Result.andThen_ok, Instr.slice, hs, F2.run_size, Sem.run_pure]
  | sl hle2 hE =>
    subst hxs
    rename_i blk o sz cap
    have hs2 := run_sliceBounds (P := P) h1 h2 true (len := xs.length) (cap := cap) hl hh hle (by omega)
    have hlen : ((xs.take h).drop l).length = h - l := by rw [List.length_drop, List.length_take]; omega
    refine ⟨.slice (if cap = l then some ⟨blk, o, none⟩ else (some (⟨blk, o, none⟩ : Addr)).map (·.add (l * te.size))) (h - l) (cap - l), ?_, ?_⟩
    · simp only [Instr.sliceAt, Sem.run_bind, hu, Result.andThen_ok, Instr.slice, hs2, F2.run_size, Sem.run_pure]
    · by_cases hz : h - l = 0
      · have : (xs.take h).drop l = [] := by apply List.eq_nil_of_length_eq_zero; omega
        rw [this, hz]
        exact .sl0 _ _ fun e => by
          split at e <;> cases e
      · rw [if_neg (by omega), Option.map_some, Addr.add_lit]
        have hsz : l * te.size = l * sz := by
          rcases hs with h0 | h0
          · subst h0; simp
          · have hx0 : ∃ x, xs[l]? = some x := ⟨_, List.getElem?_eq_getElem (by omega)⟩
            obtain ⟨x, hx⟩ := hx0
            have h3 := (List.all_eq_true.1 h0 x (List.mem_of_getElem? hx))
            simp only [decide_eq_true_eq] at h3
            rw [← h3, (hE.get hx).1]
        rw [hsz, ← hlen]
        exact .sl (by omega) (drop_elems hE l h hc)

theorem run_sliceAt_sr {t e : TypeId} {ti te : TI} (ht : tiOf P t = some ti) (hd : ti.d = .slice e) (he : tiOf P e = some te) {b g off len : Nat} {v : Value} (hx : Rep G (.sr b g off len) v) {lo hi : Option AV} {vlo vhi : Option Value} (h1 : RepO G lo vlo) (h2 : RepO G hi vhi)
    {l h : Nat} (hl : optIdx lo 0 = some l) (hh : optIdx hi len = some h) (hle : l ≤ h) (hc : h ≤ len) {kk : ABlk} (hk : G.σ[b]? = some kk) (hks : kk.sz = some te.size) :
    ∃ u, (Instr.sliceAt t v vlo vhi none).run P G.w = .ok u G.w ∧ Rep G (.sr b g (off + l) (h - l)) u := by
  obtain ⟨ii, d, z, F⟩ := tiOf_facts ht
  obtain ⟨i2, d2, z2, F2⟩ := tiOf_facts he
  obtain rfl := tdOf_slice (F.d ▸ hd)
  have hu := F.run_und G.w
  cases hx with
  | sr0 hid hr =>
    obtain rfl : h = 0 := by omega
    obtain rfl : l = 0 := by omega
    have hs := run_sliceBounds (P := P) h1 h2 true (len := 0) (cap := 0) hl hh hle (Nat.zero_le _)
    refine ⟨.slice none 0 0, ?_, .sr0 hid hr⟩
    simp only [Instr.sliceAt, Sem.run_bind, hu, Result.andThen_ok, Instr.slice, hs, F2.run_size, Sem.run_pure, if_true, Nat.sub_self]
  | sr hid hr hle2 hb hcc =>
    rename_i sz blk cap c e2 fz
    have hsz : sz = te.size := by
      obtain ⟨k2, p1, _, p2⟩ := hid
      rw [hk] at p1; cases p1
      rw [hks] at p2; cases p2; rfl
    subst hsz
    have hs2 := run_sliceBounds (P := P) h1 h2 true (len := len) (cap := cap) hl hh hle (by omega)
    refine ⟨.slice (if cap = l then some ⟨blk, off * te.size, none⟩ else (some (⟨blk, off * te.size, none⟩ : Addr)).map (·.add (l * te.size))) (h - l) (cap - l), ?_, ?_⟩
    · simp only [Instr.sliceAt, Sem.run_bind, hu, Result.andThen_ok, Instr.slice, hs2, F2.run_size, Sem.run_pure]
    · by_cases hcl : cap = l
      · rw [if_pos hcl]
        have h0 : h - l = 0 := by omega
        rw [h0]
        by_cases ho : off + l = 0
        · rw [ho]
          obtain rfl : off = 0 := by omega
          exact .sr hid hr (Nat.zero_le _) hb (by rw [← hcl, Nat.sub_self]; simp)
        · exact .srE hid hr ho
      · rw [if_neg hcl, Option.map_some, Addr.add_lit, ← Nat.add_mul]
        exact .sr hid hr (by omega) hb (Nat.le_trans (Nat.mul_le_mul_right _ (by omega)) hcc)
  | srE hid hr ho =>
    rename_i sz blk o cap
    obtain rfl : h = 0 := by omega
    obtain rfl : l = 0 := by omega
    have hs := run_sliceBounds (P := P) h1 h2 true (len := 0) (cap := cap) hl hh hle (Nat.zero_le _)
    refine ⟨.slice (if cap = 0 then some ⟨blk, o, none⟩ else (some (⟨blk, o, none⟩ : Addr)).map (·.add (0 * te.size))) (0 - 0) (cap - 0), ?_, ?_⟩
    · simp only [Instr.sliceAt, Sem.run_bind, hu, Result.andThen_ok, Instr.slice, hs, F2.run_size, Sem.run_pure]
    · have : (if cap = 0 then some ⟨blk, o, none⟩ else (some (⟨blk, o, none⟩ : Addr)).map (·.add (0 * te.size))) = some ⟨blk, o, none⟩ := by split <;> simp [Addr.add]
      rw [this]
      exact .srE hid hr ho

def LenInv (d : TD) : AV → Prop
  | .str _ => d = .str
  | .sl _ => ∃ e, d = .slice e
  | .snil => ∃ e, d = .slice e
  | .sle => ∃ e, d = .slice e
  | .sr .. => ∃ e, d = .slice e
  | _ => ∃ k e, d = .map k e
theorem lenTD_inv {d : TD} {x : AV} (h : lenTD d x = true) : LenInv d x := by
  cases d <;> cases x <;> first
    | (cases h; done)
    | rfl
    | exact ⟨_, rfl⟩
    | exact ⟨_, _, rfl⟩
theorem run_len {x : AV} {n : Nat} {v : Value} (inv : Inv G) (hx : Rep G x v) (h : lenOf G.σ x = some n) {t : TypeId} {ti : TI} (ht : tiOf P t = some ti) (hk : lenTD ti.d x = true)
    (ty : TypeId) : (Builtin.len_ #[t] ty #[v]).run P G.w = .ok (.int .i64 n) G.w := by
  obtain ⟨ii, d, z, F⟩ := tiOf_facts ht
  have hu := F.run_und G.w
  have repE_len : ∀ {es : List (AV × AV)} {ents : List MapEntry}, RepE G es ents → es.length = ents.length := by
    intro es
    induction es with
    | nil => intro ents h; cases h; rfl
    | cons a es ih => intro ents h; cases h with | cons _ _ _ t => simp [ih t]
  have hf := lenTD_inv hk
  cases hx <;> simp only [lenOf] at h <;> try (cases h; done)
  all_goals simp only [LenInv] at hf
  · cases h
    rw [F.d] at hf
    obtain rfl := tdOf_str hf
    simp [Builtin.len_, hu, goInt, ba_len]
  · cases h
    obtain ⟨e, he⟩ := hf
    obtain rfl := tdOf_slice (F.d ▸ he)
    simp [Builtin.len_, hu, goInt]
  · cases h
    obtain ⟨e, he⟩ := hf
    obtain rfl := tdOf_slice (F.d ▸ he)
    simp [Builtin.len_, hu, goInt]
  · cases h
    obtain ⟨e, he⟩ := hf
    obtain rfl := tdOf_slice (F.d ▸ he)
    simp [Builtin.len_, hu, goInt]
  · cases h
    obtain ⟨e, he⟩ := hf
    obtain rfl := tdOf_slice (F.d ▸ he)
    simp [Builtin.len_, hu, goInt]
  · cases h
    obtain ⟨e, he⟩ := hf
    obtain rfl := tdOf_slice (F.d ▸ he)
    simp [Builtin.len_, hu, goInt]
  · cases h
    obtain ⟨e, he⟩ := hf
    obtain rfl := tdOf_slice (F.d ▸ he)
    simp [Builtin.len_, hu, goInt]
  · cases h
    obtain ⟨e, he⟩ := hf
    obtain rfl := tdOf_slice (F.d ▸ he)
    simp [Builtin.len_, hu, goInt]
  · cases h
    obtain ⟨k, e, he⟩ := hf
    obtain rfl := tdOf_map (F.d ▸ he)
    simp [Builtin.len_, hu, goInt]
  · rename_i es blk ents ck hb hff hE
    cases h
    obtain ⟨k, e, he⟩ := hf
    obtain rfl := tdOf_map (F.d ▸ he)
    have := repE_len hE
    simp [Builtin.len_, hu, goInt, getObj, Sem.run, hb]
    have h2 : ents.size = es.length := by simpa using this.symm
    omega
  · cases h
    obtain ⟨k, e, he⟩ := hf
    obtain rfl := tdOf_map (F.d ▸ he)
    simp [Builtin.len_, hu, goInt]
  · rename_i b blk hid hr
    split at h
    · rename_i es hes
      cases h
      obtain ⟨blk', ents, ck, q1, q2, q3, q4⟩ := inv.maps b es hes
      rw [hr] at q1
      cases q1
      obtain ⟨k, e, he⟩ := hf
      obtain rfl := tdOf_map (F.d ▸ he)
      have := repE_len q3
      simp [Builtin.len_, hu, goInt, getObj, Sem.run, q2]
      have h2 : ents.size = es.length := by simpa using this.symm
      omega
    · cases h
end
end Go.Proofs.YthchohjhcjkgjaaGreatDoor.Lift
namespace Go.Proofs.YthchohjhcjkgjaaGreatDoor.Lift
open Go

section
variable {P : Program} {G : Gh}

/-- cells that are known, loaded -/
theorem run_loadRep {blk base : Nat} {cs : List AV} (hc : ∀ j y, cs[j]? = some y → ∃ u, G.w.cell? ⟨blk, base + j, none⟩ = some u ∧ Rep G y u) :
    ∃ l : List Value, (∀ w' : World, w'.heap = G.w.heap → (loadCells ⟨blk, base, none⟩ cs.length).run P w' = .ok l.toArray w') ∧ RepL G cs l := by
  have hex : ∀ j, ∃ u, ∀ y, cs[j]? = some y → G.w.cell? ⟨blk, base + j, none⟩ = some u ∧ Rep G y u := fun j => by
    cases hj : cs[j]? with
    | none => exact ⟨undef, fun y hy => by cases hy⟩
    | some y =>
      obtain ⟨u, h⟩ := hc j y hj
      exact ⟨u, fun y' hy' => by cases hy'; exact h⟩
  obtain ⟨f, hf⟩ := Classical.axiomOfChoice hex
  refine ⟨(List.range cs.length).map f, ?_, ?_⟩
  · intro w' hw'
    exact run_loadCells w' ⟨blk, base, none⟩ cs.length f fun j hj => by
      rw [Addr.add_lit, World.cell?_of_block (w := G.w) (w' := w') (by rw [hw'])]
      exact (hf j _ (List.getElem?_eq_getElem hj)).1
  · refine RepL.of_get (by simp) fun j y u hy hu => ?_
    have hj : j < cs.length := by
      rcases Nat.lt_or_ge j cs.length with h | h
      · exact h
      · rw [List.getElem?_eq_none h] at hy; cases hy
    rw [List.getElem?_map, List.getElem?_range hj] at hu
    cases hu
    exact (hf j y hy).2

theorem flat_len {sz : Nat} : ∀ {xs : List AV}, (∀ x ∈ xs, x.cells.length = sz) → (xs.flatMap AV.cells).length = xs.length * sz
  | [], _ => by simp
  | x :: xs, h => by
    rw [List.flatMap_cons, List.length_append, flat_len fun y hy => h y (List.mem_cons_of_mem _ hy), h x List.mem_cons_self, List.length_cons, Nat.add_mul]
    omega
theorem flat_get {sz : Nat} : ∀ {xs : List AV}, (∀ x ∈ xs, x.cells.length = sz) → ∀ {j : Nat} {y : AV}, (xs.flatMap AV.cells)[j]? = some y → ∃ i k x, xs[i]? = some x ∧ x.cells[k]? = some y ∧ j = i * sz + k ∧ k < sz
  | [], _, j, y, hy => by simp at hy
  | x :: xs, h, j, y, hy => by
    have hx := h x List.mem_cons_self
    rw [List.flatMap_cons] at hy
    rcases Nat.lt_or_ge j sz with hj | hj
    · rw [List.getElem?_append_left (by omega)] at hy
      exact ⟨0, j, x, rfl, hy, by simp, hj⟩
    · rw [List.getElem?_append_right (by omega), hx] at hy
      obtain ⟨i, k, x', h1, h2, h3, h4⟩ := flat_get (fun y hy => h y (List.mem_cons_of_mem _ hy)) hy
      exact ⟨i + 1, k, x', h1, h2, by rw [Nat.add_mul]; omega, h4⟩

theorem all_size {ys : List AV} {esz : Nat} (h : ys.all (fun y => decide (y.cells.length = esz ∧ y.whole = true)) = true) : ∀ y ∈ ys, y.cells.length = esz := fun y hy => by
  have := List.all_eq_true.1 h y hy
  simp only [decide_eq_true_eq] at this
  exact this.1
theorem all_scal {ys : List AV} {esz : Nat} (h : ys.all (fun y => decide (y.cells.length = esz ∧ y.whole = true)) = true) : (ys.flatMap AV.cells).all AV.scal = true := by
  rw [List.all_eq_true]
  intro c hc
  obtain ⟨y, hy, hcy⟩ := List.mem_flatMap.1 hc
  have := List.all_eq_true.1 h y hy
  simp only [decide_eq_true_eq] at this
  exact List.all_eq_true.1 this.2 c hcy

/-- the elements of a slice, as its cells are read -/
theorem run_firstCells (inv : Inv G) {y : AV} {v : Value} (hy : Rep G y v) {ys : List AV} (h : elemsOf G.σ y = some ys) {esz : Nat} (hs : ∀ x ∈ ys, x.cells.length = esz) :
    ∃ l : List Value, (∀ w' : World, w'.heap = G.w.heap → (Builtin.firstCells esz ys.length v).run P w' = .ok l.toArray w') ∧ RepL G (ys.flatMap AV.cells) l := by
  have hfl := flat_len hs
  cases hy <;> simp only [elemsOf] at h <;> try (cases h; done)
  · cases h
    exact ⟨[], fun _ _ => by simp [Builtin.firstCells], .nil⟩
  · cases h
    rename_i a cap _
    cases a with
    | none => exact ⟨[], fun _ _ => by simp [Builtin.firstCells], .nil⟩
    | some a => exact ⟨[], fun _ _ => by simp [Builtin.firstCells, loadCells, loadCellsFrom], .nil⟩
  · cases h
    exact ⟨[], fun _ _ => by simp [Builtin.firstCells, loadCells, loadCellsFrom], .nil⟩
  · cases h
    rename_i blk o sz cap hl hE
    have := run_loadRep (P := P) (G := G) (blk := blk) (base := o) (cs := ys.flatMap AV.cells) fun j y hj => by
      obtain ⟨i, k, x, h1, h2, rfl, h4⟩ := flat_get hs hj
      obtain ⟨q1, q2⟩ := hE.get h1
      have hsz : sz = esz := by rw [← q1]; exact hs x (List.mem_of_getElem? h1)
      subst hsz
      obtain ⟨u, _, h5, h6⟩ := q2.get h2
      exact ⟨u, by rw [← h5, Nat.add_assoc], h6⟩
    rw [hfl] at this
    simpa [Builtin.firstCells] using this
  · rename_i b g sz hid hr
    split at h
    · rename_i s g' lo xs hb
      split at h
      · rename_i hc
        cases h
        obtain ⟨rfl, _⟩ := hc
        obtain ⟨_, _, r3⟩ := inv.rows b s g lo xs hb
        have := r3 hr
        subst this
        exact ⟨[], fun _ _ => by simp [Builtin.firstCells], by simpa using RepL.nil⟩
      · cases h
    · cases h
  · rename_i b g off len sz blk cap c e fz hid hr hl hbk hcc
    split at h
    · rename_i s g' lo xs hb
      split at h
      · rename_i hc
        cases h
        obtain ⟨rfl, hle⟩ := hc
        obtain ⟨_, r2, _⟩ := inv.rows b s g lo xs hb
        obtain ⟨c', e', fz', q1, q2, q3, q4⟩ := r2 blk hr
        rw [hbk] at q1
        cases q1
        have hss : s = sz := by
          obtain ⟨k2, p1, _, p2⟩ := hid
          rw [hb] at p1; cases p1; simpa using p2
        subst hss
        have hlen : ((xs.drop off).take len).length = len := by rw [List.length_take, List.length_drop]; omega
        have := run_loadRep (P := P) (G := G) (blk := blk) (base := off * s) (cs := ((xs.drop off).take len).flatMap AV.cells) fun j y hj => by
          obtain ⟨i, k, x, h1, h2, rfl, h4⟩ := flat_get hs hj
          have hi : i < len := by
            rcases Nat.lt_or_ge i len with h | h
            · exact h
            · rw [List.getElem?_eq_none (by omega)] at h1; cases h1
          have h1' := h1
          rw [List.getElem?_take_of_lt hi, List.getElem?_drop] at h1
          obtain ⟨p1, p2⟩ := q3 (off + i) x h1
          have hsz : s = esz := by rw [← p1]; exact hs x (List.mem_of_getElem? h1')
          subst hsz
          obtain ⟨u, h5, h6⟩ := p2 k y h2
          refine ⟨u, ?_, h6⟩
          rw [show off * s + (i * s + k) = (off + i) * s + k by rw [Nat.add_mul]; omega]
          simp [World.cell?, hbk, h5]
        rw [hfl, hlen] at this
        rw [hlen]
        by_cases hsz : len = 0
        · subst hsz
          simpa [Builtin.firstCells] using this
        · simpa [Builtin.firstCells] using this
      · cases h
    · cases h
  · rename_i b g off sz blk o cap hid hr ho
    split at h
    · split at h
      · cases h
        exact ⟨[], fun _ _ => by simp [Builtin.firstCells, loadCells, loadCellsFrom], by simpa using RepL.nil⟩
      · cases h
    · cases h

theorem run_lenOf_slice {y : AV} {v : Value} (hy : Rep G y v) {ys : List AV} (h : elemsOf G.σ y = some ys) : (Builtin.lenOf v).run P G.w = .ok ys.length G.w := by
  cases hy <;> simp only [elemsOf] at h <;> try (cases h; done)
  · cases h; rfl
  · cases h; rfl
  · cases h; rfl
  · cases h; rfl
  all_goals
    split at h
    · split at h
      · rename_i hc
        cases h
        simp only [Builtin.lenOf, Sem.run_pure]
        exact congrArg (fun k => Result.ok k G.w) (by rw [List.length_take, List.length_drop]; omega)
      · cases h
    · cases h

theorem size_zeroCells' (z : Array Value) (n : Nat) : (Builtin.zeroCells z n).size = n * z.size := by simp [Builtin.zeroCells]

section
variable {t t2 e : TypeId} {d2 : TypeDesc} {te : TI} {i : TypeInfo} {de : TypeDesc} {z : Value} (Fe : TFacts P e te i de z) (hu : P.underlying t = some (.slice e)) (hu2 : P.underlying t2 = some d2) (hd2 : ∀ k, d2 ≠ .int k)
    (w : World) (base : Option Addr) (sLen sCap m : Nat) (vy : Value) (hlen : (Builtin.lenOf vy).run P w = .ok m w) (ty : TypeId) {l : List Value}
    (hl : ∀ w' : World, w'.heap = w.heap → (Builtin.firstCells te.size m vy).run P w' = .ok l.toArray w')
include Fe hu hu2 hd2 hlen hl

theorem append_room {w2 : World} (hroom : sLen + m ≤ sCap) (hst : ∀ a, base = some a → (storeCells (a.add (sLen * te.size)) l).run P w = .ok () w2) (hn : base = none → w2 = w) :
    (Builtin.append_ #[t, t2] ty #[.slice base sLen sCap, vy]).run P w = .ok (.slice base (sLen + m) sCap) w2 := by
  simp only [Builtin.append_, List.getElem?_toArray, List.getElem?_cons_zero, List.getElem?_cons_succ, Sem.run_bind, run_underlying hu, run_underlying hu2, Result.andThen_ok, Sem.run_pure, Fe.run_size, Bool.false_eq_true, if_false, hlen, Sem.run_ite, Bool.not_false, if_true]
  rw [if_pos hroom, hl w rfl]
  simp only [Result.andThen_ok]
  cases base with
  | none => rw [hn rfl]; rfl
  | some a =>
    simp only [Sem.run_bind, hst a rfl, Result.andThen_ok, Sem.run_pure]

theorem append_grow {old : List Value} (hroom : ¬ sLen + m ≤ sCap) (hb0 : 0 < te.bytes) (hb : (sLen + m) * te.bytes ≤ 140737488355328) (ho : ∀ w' : World, w'.heap = w.heap → (Builtin.firstCells te.size sLen (.slice base sLen sCap)).run P w' = .ok old.toArray w') :
    ∃ cap, sLen + m ≤ cap ∧ (Builtin.append_ #[t, t2] ty #[.slice base sLen sCap, vy]).run P w = .ok (.slice (some ⟨w.heap.size, 0, none⟩) (sLen + m) cap)
      (w.drew.alloc (.cells (old.toArray ++ l.toArray ++ Builtin.zeroCells z.cells (cap - (sLen + m))) e)) := by
  have hib : i.bytes = te.bytes := Fe.bytes.symm
  have h48 := growslice_fits (need := sLen + m) (old := sCap) (bytes := te.bytes) (by omega) hb
  have hnext : ¬ (Builtin.nextslicecap (sLen + m) sCap * i.bytes > 2 ^ 48) := by rw [hib]; omega
  have hbz : ¬ (((sLen + m : Nat) : Int) > IntKind.i64.max ∧ i.bytes = 0) := by rw [hib]; omega
  refine ⟨sLen + m + w.tape w.drawn (.appendCap (sLen + m) sCap e) % (2 ^ 63 - (sLen + m)), by omega, ?_⟩
  simp only [Builtin.append_, List.getElem?_toArray, List.getElem?_cons_zero, List.getElem?_cons_succ, Sem.run_bind, run_underlying hu, run_underlying hu2, Result.andThen_ok, Sem.run_pure, Fe.run_size, Bool.false_eq_true, if_false, hlen, Fe.run_info, run_askRoom, run_choose, Question.forced, Question.cut, Fe.run_zero, Sem.run_ite, Bool.not_false, if_true, false_or, newRow, run_newObj]
  rw [if_neg hroom, if_neg hbz, if_neg hnext, ho { w with drawn := w.drawn + 1 } rfl]
  simp only [Result.andThen_ok]
  rw [hl { w with drawn := w.drawn + 1 } rfl]
  rfl
end

/-- the elements in front, those that come, and zeros: a row in a new block -/
theorem rowAt_grown {xs ys : List AV} {old l : List Value} {sz : Nat} (hx : ∀ x ∈ xs, x.cells.length = sz) (hy : ∀ y ∈ ys, y.cells.length = sz) (ho : RepL G (xs.flatMap AV.cells) old) (hl : RepL G (ys.flatMap AV.cells) l) (zs : Array Value) :
    RowAt G (xs ++ ys) (old.toArray ++ l.toArray ++ zs) sz := by
  have := rowAt_flat (G := G) (xs := xs ++ ys) (l := old ++ l) (sz := sz) (fun x h => by rcases List.mem_append.1 h with h | h; exact hx x h; exact hy x h) (by rw [List.flatMap_append]; exact ho.append hl) zs.toList
  have e : (old.toArray ++ l.toArray ++ zs) = (old ++ l ++ zs.toList).toArray := by simp
  rw [e]; exact this

theorem rep_cells_scal {xs : List AV} {vs : List Value} (h : RepL G xs vs) (hs : xs.all AV.scal = true) : ∀ v ∈ vs, v.oneCell' = true := h.oneCells hs

/-- APPEND: what the operation does; 'hsrc': how what comes is read -/
theorem does_append (inv : Inv G) {t t2 e : TypeId} {ti ti2 te : TI} (ht : tiOf P t = some ti) (hd : ti.d = .slice e) (he : tiOf P e = some te) (ht2 : tiOf P t2 = some ti2) (hd2 : ∀ k, ti2.d ≠ .int k)
    {x : AV} {ys : List AV} {vx vy : Value} (hx : Rep G x vx) (hlen : (Builtin.lenOf vy).run P G.w = .ok ys.length G.w)
    (hsrc : (∀ y ∈ ys, y.cells.length = te.size) → ∃ l : List Value, (∀ w' : World, w'.heap = G.w.heap → (Builtin.firstCells te.size ys.length vy).run P w' = .ok l.toArray w') ∧ RepL G (ys.flatMap AV.cells) l)
    {v : AV} {st : Sto} (h : appendTo te.size te.bytes G.σ x ys = some (v, st)) (ty : TypeId) : Does P G (Builtin.append_ #[t, t2] ty #[vx, vy]) v st := by
  obtain ⟨it, dt, zt, F⟩ := tiOf_facts ht
  obtain ⟨i, de, z, Fe⟩ := tiOf_facts he
  obtain ⟨i2, d2, z2, F2⟩ := tiOf_facts ht2
  obtain rfl := tdOf_slice (F.d ▸ hd)
  have hd2' : ∀ k, d2 ≠ .int k := fun k hk => hd2 k (by rw [F2.d, hk]; rfl)
  cases hx <;> simp only [appendTo] at h <;> try (cases h; done)
  · -- nil
    split at h
    · rename_i hc
      obtain ⟨hb0, hb, hall⟩ := hc
      cases h
      obtain ⟨l, hl, hrl⟩ := hsrc (all_size hall)
      by_cases hy : ys = []
      · subst hy
        have hr := append_room (P := P) Fe F.und F2.und hd2' G.w none 0 0 0 vy hlen ty hl (w2 := G.w) (Nat.le_refl _) (fun a ha => by cases ha) (fun _ => rfl)
        have x := ext_grow (G := G) inv G.w none (.row te.size 0 0 []) rfl rfl rfl (Nat.le_refl _) (fun _ _ => rfl) (fun j hj => by cases hj)
        have iv := inv_grow_row inv G.w none te.size [] x (fun _ _ => rfl) (fun j hj => by cases hj) (fun _ => rfl)
        exact ⟨_, G.grow G.w none (.row te.size 0 0 []), hr, rfl, x, iv, .sr0 (hasId_new G G.w none te.size 0 []) (by simp [Gh.grow])⟩
      · have hm : 0 < ys.length := List.length_pos_iff.2 hy
        obtain ⟨cap, hcap, hr⟩ := append_grow (P := P) Fe F.und F2.und hd2' G.w none 0 0 ys.length vy hlen ty hl (old := []) (by omega) hb0 (by simpa using hb) (fun w' _ => by simp [Builtin.firstCells])
        simp only [Nat.zero_add] at hcap hr
        have hrow := rowAt_grown (G := G) (xs := []) (ys := ys) (old := []) (l := l) (sz := te.size) (fun _ h => by cases h) (all_size hall) .nil hrl (Builtin.zeroCells z.cells (cap - ys.length))
        have hcs : cap * te.size ≤ (([] : List Value).toArray ++ l.toArray ++ Builtin.zeroCells z.cells (cap - ys.length)).size := by
          have h1 := hrl.length
          rw [flat_len (all_size hall)] at h1
          simp only [Array.size_append, List.size_toArray, List.length_nil, size_zeroCells', Fe.zsize, ← Fe.size, ← h1]
          rw [Nat.zero_add, ← Nat.add_mul]
          exact Nat.mul_le_mul_right _ (by omega)
        obtain ⟨G', g1, g2, g3, g4, g5⟩ := new_slice (G := G) inv _ ⟨G.w.drew, rfl, rfl, rfl, rfl, rfl⟩ (unfrozen0 _) (by simpa using hrow) hcap hcs
        exact ⟨_, G', by rw [g1]; exact hr, g2, g3, g4, g5⟩
    · cases h
  · -- a row without memory
    rename_i b g sz hid hr0
    split at h
    · rename_i s g' lo xs hb
      split at h
      · rename_i hc
        obtain ⟨hb0, rfl, _, hlo, hle, rfl, hbd, hall⟩ := hc
        cases h
        obtain ⟨l, hl, hrl⟩ := hsrc (all_size hall)
        obtain ⟨_, _, r3⟩ := inv.rows b te.size g lo xs hb
        have hxs := r3 hr0
        subst hxs
        obtain rfl : lo = 0 := by omega
        by_cases hy : ys = []
        · subst hy
          have hr := append_room (P := P) Fe F.und F2.und hd2' G.w none 0 0 0 vy hlen ty hl (w2 := G.w) (Nat.le_refl _) (fun a ha => by cases ha) (fun _ => rfl)
          have x := ext_move (G := G) (ys := ([] : List AV).take 0 ++ []) inv (w := G.w) none hb rfl rfl rfl (Nat.le_refl _) (fun _ _ => rfl) (fun j hj => by cases hj)
          have iv := inv_move inv none hb x (fun _ _ => rfl) (fun j hj => by cases hj) (fun _ => rfl) (Nat.zero_le _)
          exact ⟨_, G.turn G.w b (.row te.size (g + 1) 0 (([] : List AV).take 0 ++ [])) none, hr, rfl, x, iv, .sr0 ⟨_, sto_set_same hb, Nat.le_refl _, rfl⟩ (if_pos ⟨rfl, rfl⟩)⟩
        · have hm : 0 < ys.length := List.length_pos_iff.2 hy
          obtain ⟨cap, hcap, hr⟩ := append_grow (P := P) Fe F.und F2.und hd2' G.w none 0 0 ys.length vy hlen ty hl (old := []) (by omega) hb0 hbd (fun w' _ => by simp [Builtin.firstCells])
          have hrow := rowAt_grown (G := G) (xs := []) (ys := ys) (old := []) (l := l) (sz := te.size) (fun _ h => by cases h) (all_size hall) .nil hrl (Builtin.zeroCells z.cells (cap - (0 + ys.length)))
          have hcs : cap * te.size ≤ (([] : List Value).toArray ++ l.toArray ++ Builtin.zeroCells z.cells (cap - (0 + ys.length))).size := by
            have h1 := hrl.length
            rw [flat_len (all_size hall)] at h1
            simp only [Array.size_append, List.size_toArray, List.length_nil, size_zeroCells', Fe.zsize, ← Fe.size, ← h1]
            rw [Nat.zero_add, ← Nat.add_mul]
            exact Nat.mul_le_mul_right _ (by omega)
          have x := ext_move (G := G) (ys := ([] : List AV).take 0 ++ ys) inv (w := G.w.drew.alloc (.cells (([] : List Value).toArray ++ l.toArray ++ Builtin.zeroCells z.cells (cap - (0 + ys.length))) e)) (some G.w.heap.size) hb rfl rfl rfl (by rw [World.size_alloc]; exact Nat.le_succ _)
            (fun j hj => heap_alloc_lt _ _ hj) (fun j hj => by cases hj; exact Nat.le_refl _)
          have iv := inv_move inv (some G.w.heap.size) hb x (fun j hj => heap_alloc_lt _ _ hj) (fun j hj => by cases hj; exact ⟨Nat.le_refl _, _, e, (0, 0), heap_alloc_new _ _, unfrozen0 _, by simpa using hrow⟩) (fun h => by cases h) (Nat.zero_le _)
          refine ⟨_, _, hr, rfl, x, iv, ?_⟩
          have := Rep.sr (G := G.turn (G.w.drew.alloc (.cells (([] : List Value).toArray ++ l.toArray ++ Builtin.zeroCells z.cells (cap - (0 + ys.length))) e)) b (.row te.size (g + 1) 0 (([] : List AV).take 0 ++ ys)) (some G.w.heap.size)) (off := 0) (len := 0 + ys.length) (cap := cap) (b := b) (g := g + 1)
            ⟨_, sto_set_same hb, Nat.le_refl _, rfl⟩ (blk := G.w.heap.size) (if_pos ⟨rfl, rfl⟩) hcap (heap_alloc_new _ _) (by simpa using hcs)
          simpa using this
      · cases h
    · cases h
  · -- a row in memory
    rename_i b g off len sz blk cap c e0 fz hid hr0 hlc hbk hcc
    split at h
    · rename_i s g' lo xs hb
      split at h
      · rename_i hc
        obtain ⟨hb0, rfl, rfl, hlo, hle, rfl, hbd, hall⟩ := hc
        cases h
        have hsz : sz = te.size := by
          obtain ⟨k2, p1, _, p2⟩ := hid
          rw [hb] at p1; cases p1; simpa using p2.symm
        subst hsz
        obtain ⟨l, hl, hrl⟩ := hsrc (all_size hall)
        obtain ⟨r1, r2, _⟩ := inv.rows b te.size g lo xs hb
        obtain ⟨c', e', fz', q1, q2, q3, q4⟩ := r2 blk hr0
        rw [hbk] at q1
        cases q1
        have hxsz : ∀ x ∈ xs.take len, x.cells.length = te.size := fun x hx => by
          obtain ⟨k, hk⟩ := List.getElem?_of_mem (List.mem_of_mem_take hx)
          exact (q3 k x hk).1
        have hll := hrl.length
        rw [flat_len (all_size hall)] at hll
        have htl : (xs.take len).length = len := by rw [List.length_take]; omega
        by_cases hroom : len + ys.length ≤ cap
        · -- in place
          have hfit : len * te.size + l.length ≤ c.size := by
            rw [← hll, ← Nat.add_mul]
            exact Nat.le_trans (Nat.mul_le_mul_right _ (by omega)) hcc
          have hst := run_storeCells (P := P) l G.w c (len * te.size) 0 hbk q2 (by omega) (hrl.oneCells (all_scal hall))
          rw [Nat.add_zero] at hst
          have hr := append_room (P := P) Fe F.und F2.und hd2' G.w (some ⟨blk, 0 * te.size, none⟩) len cap ys.length vy hlen ty hl hroom (fun a ha => by
            cases ha
            rw [Addr.add_lit, Nat.zero_mul, Nat.zero_add]
            exact hst) (fun h => by cases h)
          have hcs : ∀ j, (putCells c (len * te.size) l)[j]? = if len * te.size ≤ j ∧ j < len * te.size + l.length then l[j - len * te.size]? else c[j]? := fun j => putCells_get _ _ _ _ hfit
          have hrow : RowAt G (xs.take len ++ ys) (putCells c (len * te.size) l) te.size := by
            intro k y hy
            rcases Nat.lt_or_ge k len with hk | hk
            · rw [List.getElem?_append_left (by omega), List.getElem?_take_of_lt hk] at hy
              obtain ⟨p1, p2⟩ := q3 k y hy
              refine ⟨p1, fun j u hu => ?_⟩
              have hj : j < te.size := by
                rcases Nat.lt_or_ge j te.size with h | h
                · exact h
                · rw [List.getElem?_eq_none (by omega)] at hu; cases hu
              have : (k + 1) * te.size ≤ len * te.size := Nat.mul_le_mul_right _ hk
              rw [Nat.add_mul] at this
              rw [hcs, if_neg (by omega)]
              exact p2 j u hu
            · rw [List.getElem?_append_right (by omega), htl] at hy
              have hys := all_size hall y (List.mem_of_getElem? hy)
              refine ⟨hys, fun j u hu => ?_⟩
              have hj : j < te.size := by
                rcases Nat.lt_or_ge j te.size with h | h
                · exact h
                · rw [List.getElem?_eq_none (by omega)] at hu; cases hu
              have hkl : k - len < ys.length := by
                rcases Nat.lt_or_ge (k - len) ys.length with h | h
                · exact h
                · rw [List.getElem?_eq_none h] at hy; cases hy
              have e1 : k * te.size = len * te.size + (k - len) * te.size := by rw [← Nat.add_mul]; congr 1; omega
              have e2 : (k - len + 1) * te.size ≤ ys.length * te.size := Nat.mul_le_mul_right _ hkl
              rw [Nat.add_mul] at e2
              rw [hcs, if_pos (by omega), show k * te.size + j - len * te.size = (k - len) * te.size + j by omega]
              have h2 := (rowAt_flat (G := G) (all_size hall) hrl []) (k - len) y hy
              obtain ⟨u', h3, h4⟩ := h2.2 j u hu
              exact ⟨u', by simpa using h3, h4⟩
          have hloe : lo * te.size ≤ len * te.size := Nat.mul_le_mul_right _ hlo
          have x := ext_put (G := G) (ys := xs.take len ++ ys) inv hb hr0 hbk rfl (putCells_size l c (len * te.size)) (fun o ho => by rw [hcs, if_neg (by omega)]) (g2 := g + 1) (Nat.le_succ g)
          have iv := inv_put (G := G) inv hb hr0 hbk rfl (putCells_size l c (len * te.size)) x hrow (by rw [List.length_append, htl]; omega)
          refine ⟨_, _, hr, rfl, x, iv, ?_⟩
          have hlt := (Array.getElem?_eq_some_iff.1 hbk).1
          exact Rep.sr (off := 0) (len := len + ys.length) (cap := cap) ⟨_, sto_set_same hb, Nat.le_refl _, rfl⟩ (blk := blk) (if_pos ⟨rfl, rfl⟩) hroom (by show (G.w.heap.setIfInBounds blk _)[blk]? = _; rw [Array.getElem?_setIfInBounds_self, if_pos hlt]) (by rw [putCells_size]; exact hcc)
        · -- a new block
          have hold : ∃ old : List Value, (∀ w' : World, w'.heap = G.w.heap → (Builtin.firstCells te.size len (.slice (some ⟨blk, 0 * te.size, none⟩) len cap)).run P w' = .ok old.toArray w') ∧ RepL G ((xs.take len).flatMap AV.cells) old := by
            have hc2 : ∀ j y, ((xs.take len).flatMap AV.cells)[j]? = some y → ∃ u, c[j]? = some u ∧ Rep G y u := fun j y hj => by
              obtain ⟨i, k, x, h1, h2, rfl, h4⟩ := flat_get hxsz hj
              have hi : i < len := by
                rcases Nat.lt_or_ge i len with h | h
                · exact h
                · rw [List.getElem?_eq_none (by omega)] at h1; cases h1
              rw [List.getElem?_take_of_lt hi] at h1
              exact (q3 i x h1).2 k y h2
            obtain ⟨old, h0⟩ : ∃ old : List Value, old.length = len * te.size ∧ ∀ j, j < len * te.size → ∃ y u, ((xs.take len).flatMap AV.cells)[j]? = some y ∧ c[j]? = some u ∧ old[j]? = some u ∧ Rep G y u := by
              have hex : ∀ j : Nat, ∃ u, ∀ y, ((xs.take len).flatMap AV.cells)[j]? = some y → c[j]? = some u ∧ Rep G y u := fun j => by
                cases hj : ((xs.take len).flatMap AV.cells)[j]? with
                | none => exact ⟨undef, fun y hy => by cases hy⟩
                | some y =>
                  obtain ⟨u, h⟩ := hc2 j y hj
                  exact ⟨u, fun y' hy' => by cases hy'; exact h⟩
              obtain ⟨f, hf⟩ := Classical.axiomOfChoice hex
              refine ⟨(List.range (len * te.size)).map f, by simp, fun j hj => ?_⟩
              have hfl := flat_len hxsz
              rw [htl] at hfl
              obtain ⟨h1, h2⟩ := hf j _ (List.getElem?_eq_getElem (by omega))
              exact ⟨_, _, List.getElem?_eq_getElem (by omega), h1, by rw [List.getElem?_map, List.getElem?_range hj]; rfl, h2⟩
            refine ⟨old, fun w' hw' => ?_, ?_⟩
            · have := run_loadCells_list (P := P) w' ⟨blk, 0, none⟩ old fun j v hj => by
                have hj2 : j < len * te.size := by
                  rcases Nat.lt_or_ge j (len * te.size) with h | h
                  · exact h
                  · rw [List.getElem?_eq_none (by omega)] at hj; cases hj
                obtain ⟨y, u, _, h2, h3, _⟩ := h0.2 j hj2
                rw [hj] at h3; cases h3
                rw [Addr.add_lit, Nat.zero_add]
                simp [World.cell?, hw', hbk, h2]
              rw [h0.1] at this
              simpa [Builtin.firstCells] using this
            · have hfl := flat_len hxsz
              rw [htl] at hfl
              refine RepL.of_get (by omega) fun j y u hy hu => ?_
              obtain ⟨y', u', h1, _, h3, h4⟩ := h0.2 j (by
                rcases Nat.lt_or_ge j (len * te.size) with h | h
                · exact h
                · rw [List.getElem?_eq_none (by omega)] at hu; cases hu)
              rw [hy] at h1; cases h1
              rw [hu] at h3; cases h3
              exact h4
          obtain ⟨old, ho, hro⟩ := hold
          obtain ⟨ncap, hcap, hr⟩ := append_grow (P := P) Fe F.und F2.und hd2' G.w (some ⟨blk, 0 * te.size, none⟩) len cap ys.length vy hlen ty hl (old := old) hroom hb0 hbd ho
          have hrow := rowAt_grown (G := G) (xs := xs.take len) (ys := ys) (old := old) (l := l) (sz := te.size) hxsz (all_size hall) hro hrl (Builtin.zeroCells z.cells (ncap - (len + ys.length)))
          have hcs : ncap * te.size ≤ (old.toArray ++ l.toArray ++ Builtin.zeroCells z.cells (ncap - (len + ys.length))).size := by
            have h1 := hro.length
            rw [flat_len hxsz, htl] at h1
            simp only [Array.size_append, List.size_toArray, size_zeroCells', Fe.zsize, ← Fe.size, ← hll, ← h1]
            rw [← Nat.add_mul, ← Nat.add_mul]
            exact Nat.mul_le_mul_right _ (by omega)
          have x := ext_move (G := G) (ys := xs.take len ++ ys) inv (w := G.w.drew.alloc (.cells (old.toArray ++ l.toArray ++ Builtin.zeroCells z.cells (ncap - (len + ys.length))) e)) (some G.w.heap.size) hb rfl rfl rfl (by rw [World.size_alloc]; exact Nat.le_succ _)
            (fun j hj => heap_alloc_lt _ _ hj) (fun j hj => by cases hj; exact Nat.le_refl _)
          have iv := inv_move inv (some G.w.heap.size) hb x (fun j hj => heap_alloc_lt _ _ hj) (fun j hj => by cases hj; exact ⟨Nat.le_refl _, _, e, (0, 0), heap_alloc_new _ _, unfrozen0 _, hrow⟩) (fun h => by cases h) (by rw [List.length_append, htl]; omega)
          refine ⟨_, _, hr, rfl, x, iv, ?_⟩
          have := Rep.sr (G := G.turn (G.w.drew.alloc (.cells (old.toArray ++ l.toArray ++ Builtin.zeroCells z.cells (ncap - (len + ys.length))) e)) b (.row te.size (g + 1) lo (xs.take len ++ ys)) (some G.w.heap.size)) (off := 0) (len := len + ys.length) (cap := ncap) (b := b) (g := g + 1)
            ⟨_, sto_set_same hb, Nat.le_refl _, rfl⟩ (blk := G.w.heap.size) (if_pos ⟨rfl, rfl⟩) hcap (heap_alloc_new _ _) (by simpa using hcs)
          simpa using this
      · cases h
    · cases h
  · rename_i ho
    split at h
    · split at h
      · rename_i hc
        exact absurd hc.2.2.1 ho
      · cases h
    · cases h
end
end Go.Proofs.YthchohjhcjkgjaaGreatDoor.Lift
namespace Go.Proofs.YthchohjhcjkgjaaGreatDoor.Lift
open Go

section
variable {P : Program} {G : Gh}

theorem does_append_slice (inv : Inv G) {t t2 e e2 : TypeId} {ti ti2 te : TI} (ht : tiOf P t = some ti) (hd : ti.d = .slice e) (he : tiOf P e = some te) (ht2 : tiOf P t2 = some ti2) (hd2 : ti2.d = .slice e2)
    {x y : AV} {ys : List AV} {vx vy : Value} (hx : Rep G x vx) (hy : Rep G y vy) (hys : elemsOf G.σ y = some ys) {v : AV} {st : Sto} (h : appendTo te.size te.bytes G.σ x ys = some (v, st)) (ty : TypeId) :
    Does P G (Builtin.append_ #[t, t2] ty #[vx, vy]) v st :=
  does_append inv ht hd he ht2 (fun k hk => by rw [hd2] at hk; cases hk) hx (run_lenOf_slice hy hys) (fun hs => run_firstCells (P := P) inv hy hys hs) h ty

theorem bytes_cells (s : List UInt8) : (s.map fun b => AV.int .u8 b.toNat).flatMap AV.cells = s.map fun b => AV.int .u8 b.toNat := by
  induction s with
  | nil => rfl
  | cons b s ih => rw [List.map_cons, List.flatMap_cons, ih]; rfl
theorem bytes_rep (s : List UInt8) : RepL G (s.map fun b => AV.int .u8 b.toNat) (s.map fun b => Value.int .u8 b.toNat) := by
  induction s with
  | nil => exact .nil
  | cons b s ih => exact .cons (.int _ _) ih

theorem does_append_str (inv : Inv G) {t t2 e : TypeId} {ti ti2 te : TI} (ht : tiOf P t = some ti) (hd : ti.d = .slice e) (he : tiOf P e = some te) (ht2 : tiOf P t2 = some ti2) (hd2 : ti2.d = .str)
    {x : AV} {s : List UInt8} {vx vy : Value} (hx : Rep G x vx) (hy : Rep G (.str s) vy) {v : AV} {st : Sto} (h : appendTo te.size te.bytes G.σ x (s.map fun b => .int .u8 b.toNat) = some (v, st)) (ty : TypeId) :
    Does P G (Builtin.append_ #[t, t2] ty #[vx, vy]) v st := by
  generalize hb : s = s' at hy
  cases hy with
  | str b =>
    subst hb
    refine does_append inv ht hd he ht2 (fun k hk => by rw [hd2] at hk; cases hk) hx (by rw [List.length_map, ba_len]; rfl) (fun hs => ?_) h ty
    refine ⟨b.data.toList.map fun b => Value.int .u8 b.toNat, fun w' _ => ?_, by rw [bytes_cells]; exact bytes_rep _⟩
    simp only [Builtin.firstCells, Sem.run_pure, List.length_map, ba_len]
    congr 1
    apply Array.ext'
    simp [Lib.extract_data, ba_len]

theorem rep_list_map {xs : List Operand} {f : Operand → AV} {g : Operand → Value} (h : ∀ x, Rep G (f x) (g x)) : RepL G (xs.map f) (xs.map g) := by
  induction xs with
  | nil => exact .nil
  | cons a xs ih => exact .cons (h a) ih

/-- the parts of a literal are laid over cells, in memory as here -/
theorem fill_rep {place : Nat → Option (Nat × Nat)} {place' : Nat → Option (Nat × Nat)} (hp : ∀ i o s, place i = some (o, s) → place' i = some (o, s)) : ∀ {ps : List (Nat × AV)} {vs : List (Nat × Value)} {cells out : List AV} {cs : Array Value},
    (∀ (i : Nat) (p : Nat × AV), ps[i]? = some p → ∃ v, vs[i]? = some (p.1, v) ∧ Rep G p.2 v ∧ p.2 ≠ .undef) → ps.length = vs.length → RepL G cells cs.toList → fillParts place cells ps = some out → ∃ cs', Instr.fill place' cs vs = some cs' ∧ RepL G out cs'.toList
  | [], [], cells, out, cs, _, _, hc, h => by cases h; exact ⟨cs, rfl, hc⟩
  | (i, x) :: ps, (j, v) :: vs, cells, out, cs, hv, hl, hc, h => by
    obtain ⟨v', h1, h2, h3⟩ := hv 0 (i, x) rfl
    simp only [List.getElem?_cons_zero, Option.some.injEq, Prod.mk.injEq] at h1
    obtain ⟨rfl, rfl⟩ := h1
    simp only [fillParts] at h
    split at h
    · rename_i off size hpl
      split at h
      · rename_i hs
        have hvc := h2.cells h3
        have hsz : v.cells.size = x.cells.length := by have := hvc.length; simpa using this.symm
        have hcl : cells.length = cs.size := by have := hc.length; simpa using this
        have key : RepL G (splice cells off x.cells) (v.cells.zipIdx.foldl (fun cs (c, j) => cs.setIfInBounds (off + j) c) cs).toList := by
          have hput : v.cells.zipIdx.foldl (fun cs (c, j) => cs.setIfInBounds (off + j) c) cs = putCells cs off v.cells.toList := by
            rw [← Array.foldl_toList, Array.toList_zipIdx]
            have gen : ∀ (l : List Value) (k : Nat) (cs : Array Value), (l.zipIdx k).foldl (fun cs (p : Value × Nat) => cs.setIfInBounds (off + p.2) p.1) cs = putCells cs (off + k) l := by
              intro l
              induction l with
              | nil => intro k cs; rfl
              | cons a l ih => intro k cs; rw [List.zipIdx_cons, List.foldl_cons, ih, putCells, Nat.add_assoc]
            exact gen v.cells.toList 0 cs
          rw [hput]
          refine RepL.of_get ?_ fun k y u hy hu => ?_
          · show (splice cells off x.cells).length = (putCells cs off v.cells.toList).size
            rw [putCells_size]
            simp only [splice, List.length_append, List.length_take, List.length_drop]
            omega
          · rw [splice_get _ _ _ _ (by omega)] at hy
            rw [Array.getElem?_toList, putCells_get _ _ _ _ (by simp; omega)] at hu
            have hvl : v.cells.toList.length = x.cells.length := by simpa using hsz
            by_cases hk : off ≤ k ∧ k < off + x.cells.length
            · rw [if_pos hk] at hy
              rw [if_pos (by omega)] at hu
              obtain ⟨u', q1, q2⟩ := hvc.get hy
              rw [hu] at q1; cases q1; exact q2
            · rw [if_neg hk] at hy
              rw [if_neg (by omega)] at hu
              obtain ⟨u', q1, q2⟩ := hc.get hy
              rw [Array.getElem?_toList, hu] at q1; cases q1; exact q2
        obtain ⟨cs', r1, r2⟩ := fill_rep hp (fun k p hk => hv (k + 1) p hk) (by simpa using hl) key h
        refine ⟨cs', ?_, r2⟩
        simp only [Instr.fill, hp _ _ _ hpl]
        rw [if_neg (by simp; omega)]
        exact r1
      · cases h
    · cases h
  | [], _ :: _, _, _, _, _, hl, _, _ => by simp at hl
  | _ :: _, [], _, _, _, _, hl, _, _ => by simp at hl

theorem tdOf_struct {d : TypeDesc} {fs : List (Nat × Nat)} (h : tdOf d = .struct fs) : ∃ gs : Array Field, d = .struct gs ∧ fs = gs.toList.map fun f => (f.offset, f.type) := by
  cases d <;> simp [tdOf] at h
  exact ⟨_, rfl, h.symm⟩

theorem run_build' (inv : Inv G) {t : TypeId} {ti : TI} (ht : tiOf P t = some ti) {fs : List (Nat × Nat)} (hd : ti.d = .struct fs) (hall : fs.all (fun f => (tiOf P f.2).isSome) = true) {ps : List (Nat × AV)} {vs : Array (Nat × Value)} {cs : List AV}
    (hv : ∀ (i : Nat) (p : Nat × AV), ps[i]? = some p → ∃ v, vs.toList[i]? = some (p.1, v) ∧ Rep G p.2 v ∧ p.2 ≠ .undef) (hl : ps.length = vs.toList.length)
    (h : fillParts (fun i => match fs[i]? with | some (off, ft) => (match tiOf P ft with | some fti => some (off, fti.size) | none => none) | none => none) ti.zero ps = some cs) :
    Does P G (Instr.build t vs) (.agg cs) G.σ := by
  obtain ⟨i, d, z, F⟩ := tiOf_facts ht
  obtain ⟨gs, rfl, rfl⟩ := tdOf_struct (F.d ▸ hd)
  have hplaces : ∀ (l : List Field), (l.map fun f => (f.offset, f.type)).all (fun f => (tiOf P f.2).isSome) = true → l.mapM (fun f => (P.info? f.type).map fun i => (f.offset, i.size)) = some (l.map fun f => (f.offset, P.cellsOf f.type)) := by
    intro l
    induction l with
    | nil => intro _; rfl
    | cons f l ih =>
      intro h
      simp only [List.map_cons, List.all_cons, Bool.and_eq_true] at h
      obtain ⟨fti, hft⟩ := Option.isSome_iff_exists.1 h.1
      obtain ⟨i2, _, _, F2⟩ := tiOf_facts hft
      rw [List.mapM_cons, F2.info, ih h.2]
      simp [Program.cellsOf, F2.info]
  have hp := hplaces gs.toList hall
  have hz : RepL G ti.zero z.cells.toList := F.rep_zero G
  obtain ⟨cs', h1, h2⟩ := fill_rep (G := G) (place' := fun x => ((gs.toList.map fun f => (f.offset, P.cellsOf f.type)).toArray)[x]?) (fun k o s hk => by
    simp only [List.getElem?_map] at hk
    cases hg : gs.toList[k]? with
    | none => rw [hg] at hk; cases hk
    | some fl =>
      rw [hg] at hk
      simp only [Option.map_some] at hk
      split at hk
      · rename_i fti hft
        cases hk
        obtain ⟨i2, _, _, F2⟩ := tiOf_facts hft
        simp [hg, Program.cellsOf, F2.info, F2.size]
      · cases hk) hv hl hz h
  refine does_pure inv (r := .agg cs') (run_build G.w t vs cs' ?_) (.agg h2)
  unfold Program.built
  simp only [F.info, F.und, F.zero, hp]
  exact h1

theorem run_build_arr (inv : Inv G) {t n e : TypeId} {ti te : TI} (ht : tiOf P t = some ti) (hd : ti.d = .array n e) (he : tiOf P e = some te) {ps : List (Nat × AV)} {vs : Array (Nat × Value)} {cs : List AV}
    (hv : ∀ (i : Nat) (p : Nat × AV), ps[i]? = some p → ∃ v, vs.toList[i]? = some (p.1, v) ∧ Rep G p.2 v ∧ p.2 ≠ .undef) (hl : ps.length = vs.toList.length)
    (h : fillParts (fun i => some (i * te.size, te.size)) ti.zero ps = some cs) :
    Does P G (Instr.build t vs) (.agg cs) G.σ := by
  obtain ⟨i, d, z, F⟩ := tiOf_facts ht
  obtain ⟨i2, _, _, F2⟩ := tiOf_facts he
  have hda := tdOf_array (F.d ▸ hd)
  subst hda
  have hz : RepL G ti.zero z.cells.toList := F.rep_zero G
  obtain ⟨cs', h1, h2⟩ := fill_rep (G := G) (place' := fun i => some (i * i2.size, i2.size)) (fun k o s hk => by
    simp only [Option.some.injEq, Prod.mk.injEq] at hk
    obtain ⟨rfl, rfl⟩ := hk
    rw [F2.size]) hv hl hz h
  refine does_pure inv (r := .agg cs') (run_build G.w t vs cs' ?_) (.agg h2)
  unfold Program.built
  simp only [F.info, F.und, F.zero, F2.info]
  exact h1

theorem run_buildSlice' (inv : Inv G) {t e : TypeId} {ti te : TI} (ht : tiOf P t = some ti) (hd : ti.d = .slice e) (he : tiOf P e = some te) {len : Nat} {xs : List AV} {vs : Array (Nat × Value)}
    (hv : ∀ (i : Nat) (x : AV), xs[i]? = some x → ∃ v, vs.toList[i]? = some (i, v) ∧ Rep G x v) (hl : xs.length = vs.toList.length) (hlen : xs.length = len) (hall : xs.all (fun v => decide (v.cells.length = te.size ∧ v.whole = true)) = true) (hb : len * te.size ≤ 16777216)
    {v : AV} {st : Sto} (K : ∀ (w : World) (c : Array Value) (ty : TypeId), (∃ w1 : World, w1.heap = G.w.heap ∧ w1.os = G.w.os ∧ w1.tape = G.w.tape ∧ w1.output = G.w.output ∧ w = w1.alloc (.cells c ty)) → RowAt G xs c te.size → len * te.size ≤ c.size →
      ∃ G', G'.w = w ∧ G'.σ = st ∧ Ext G G' ∧ Inv G' ∧ Rep G' v (.slice (some ⟨G.w.heap.size, 0, none⟩) len len)) : Does P G (Instr.buildSlice t len vs) v st := by
  obtain ⟨i, d, z, F⟩ := tiOf_facts ht
  obtain ⟨i2, d2, z2, F2⟩ := tiOf_facts he
  obtain rfl := tdOf_slice (F.d ▸ hd)
  -- the cells, laid one after the other
  have hsz := all_size hall
  have hundef : ∀ x ∈ xs, x ≠ .undef := fun x hx => by
    have := List.all_eq_true.1 hall x hx
    simp only [decide_eq_true_eq] at this
    exact whole_ne_undef this.2
  obtain ⟨us, hus, hrus⟩ : ∃ us : List Value, vs.toList = us.zipIdx.map (fun p => (p.2, p.1)) ∧ RepL G xs us := by
    refine ⟨vs.toList.map (·.2), ?_, ?_⟩
    · apply List.ext_getElem?
      intro k
      rw [List.getElem?_map, List.getElem?_zipIdx, List.getElem?_map]
      cases hk : vs.toList[k]? with
      | none => rfl
      | some p =>
        have hkl : k < xs.length := by
          rw [hl]
          rcases Nat.lt_or_ge k vs.toList.length with h | h
          · exact h
          · rw [List.getElem?_eq_none h] at hk; cases hk
        obtain ⟨v, h1, _⟩ := hv k _ (List.getElem?_eq_getElem hkl)
        rw [hk] at h1; cases h1
        simp
    · exact RepL.of_get (by simp [hl]) fun k x u hx hu => by
        obtain ⟨v, h1, h2⟩ := hv k x hx
        rw [List.getElem?_map, h1] at hu
        cases hu; exact h2
  have hflat := repL_flat hrus hundef
  have hfill : ∀ (us : List Value) (xs : List AV) (k : Nat) (pre : List Value) (cs : Array Value), RepL G xs us → (∀ x ∈ xs, x.cells.length = te.size) → (∀ x ∈ xs, x ≠ .undef) → cs.size = (k + us.length) * te.size → cs.toList.take (k * te.size) = pre →
      Instr.fill (fun i => some (i * te.size, te.size)) cs ((us.zipIdx k).map fun p => (p.2, p.1)) = some ((pre ++ us.flatMap fun v => v.cells.toList).toArray) := by
    intro us
    induction us with
    | nil =>
      intro xs k pre cs hr _ _ hc ht
      simp only [List.zipIdx_nil, List.map_nil, Instr.fill, List.flatMap_nil, List.append_nil]
      congr 1
      apply Array.ext'
      simp only [← ht]
      rw [List.take_of_length_le]
      simp at hc ⊢; omega
    | cons u us ih =>
      intro xs k pre cs hr hs hn hc ht
      cases hr with
      | cons hu hr =>
        rename_i x xs
        have hx := hs x List.mem_cons_self
        have hcl := (hu.cells (hn x List.mem_cons_self)).length
        have hus : u.cells.size = te.size := by simp at hcl; simp at hx; omega
        simp only [List.zipIdx_cons, List.map_cons, Instr.fill]
        simp only [List.length_cons, Nat.add_mul] at hc
        rw [if_neg (by simp [hus, hc] <;> omega)]
        have hput : u.cells.zipIdx.foldl (fun cs (c, j) => cs.setIfInBounds (k * te.size + j) c) cs = putCells cs (k * te.size) u.cells.toList := by
          rw [← Array.foldl_toList, Array.toList_zipIdx]
          have gen : ∀ (l : List Value) (j : Nat) (cs : Array Value), (l.zipIdx j).foldl (fun cs (p : Value × Nat) => cs.setIfInBounds (k * te.size + p.2) p.1) cs = putCells cs (k * te.size + j) l := by
            intro l
            induction l with
            | nil => intro j cs; rfl
            | cons a l ih => intro j cs; rw [List.zipIdx_cons, List.foldl_cons, ih, putCells, Nat.add_assoc]
          exact gen u.cells.toList 0 cs
        rw [hput]
        have := ih xs (k + 1) (pre ++ u.cells.toList) (putCells cs (k * te.size) u.cells.toList) hr (fun y hy => hs y (List.mem_cons_of_mem _ hy)) (fun y hy => hn y (List.mem_cons_of_mem _ hy)) (by rw [putCells_size, hc]; simp only [Nat.add_mul]; omega) ?_
        · rw [this, List.flatMap_cons, List.append_assoc]
        · have hpl : pre.length = k * te.size := by rw [← ht, List.length_take]; simp; omega
          have hul : u.cells.toList.length = te.size := by simpa using hus
          apply List.ext_getElem?
          intro j
          rw [Nat.add_mul, Nat.one_mul]
          by_cases hj : j < k * te.size + te.size
          · rw [List.getElem?_take_of_lt hj, Array.getElem?_toList, putCells_get _ _ _ _ (by rw [hul, hc]; omega)]
            by_cases hj2 : j < k * te.size
            · rw [if_neg (by omega), List.getElem?_append_left (by omega), ← ht, List.getElem?_take_of_lt hj2, Array.getElem?_toList]
            · rw [if_pos (by omega), List.getElem?_append_right (by omega), hpl]
          · rw [List.getElem?_eq_none (by simp; omega), List.getElem?_eq_none (by rw [List.length_append]; omega)]
  have hzc : ((Array.range (len * te.size)).map fun k => (if len * te.size = 0 then #[] else z2.cells)[k % (if len * te.size = 0 then #[] else z2.cells).size]!).size = (0 + us.length) * te.size := by
    rw [Nat.zero_add, ← hrus.length, hlen]
    simp
  have hf := hfill us xs 0 [] _ hrus hsz hundef hzc (by simp)
  have hrow := rowAt_flat (G := G) hsz hflat []
  have hcsz : len * te.size ≤ (us.flatMap fun v => v.cells.toList).toArray.size := by
    have := hflat.length
    rw [flat_len hsz, hlen] at this
    simp only [List.size_toArray]
    omega
  obtain ⟨G', g1, g2, g3, g4, g5⟩ := K (G.w.alloc (.cells (us.flatMap fun v => v.cells.toList).toArray e)) _ _ ⟨G.w, rfl, rfl, rfl, rfl, rfl⟩ (by simpa using hrow) hcsz
  refine ⟨.slice (some ⟨G.w.heap.size, 0, none⟩) len len, G', ?_, g2, g3, g4, g5⟩
  rw [← hus] at hf
  simp only [List.nil_append] at hf
  have hb' : ¬ (len * te.size > 2 ^ 24) := by omega
  by_cases h0 : len * te.size = 0
  · simp only [h0, if_true] at hf
    simp only [Instr.buildSlice, Sem.run_bind, F.run_und, Result.andThen_ok, F2.run_size, Sem.run_ite, h0, if_true, Sem.run_pure, hb', if_false, hf, newRow, run_newObj]
    rw [if_neg (by omega)]
    rw [g1]; rfl
  · simp only [h0, if_false] at hf
    simp only [Instr.buildSlice, Sem.run_bind, F.run_und, Result.andThen_ok, F2.run_size, Sem.run_ite, h0, if_false, Sem.run_pure, hb', F2.run_zero, hf, newRow, run_newObj]
    rw [g1]; rfl
theorem run_buildSlice (inv : Inv G) {t e : TypeId} {ti te : TI} (ht : tiOf P t = some ti) (hd : ti.d = .slice e) (he : tiOf P e = some te) {len : Nat} {xs : List AV} {vs : Array (Nat × Value)}
    (hv : ∀ (i : Nat) (x : AV), xs[i]? = some x → ∃ v, vs.toList[i]? = some (i, v) ∧ Rep G x v) (hl : xs.length = vs.toList.length) (hlen : xs.length = len) (hall : xs.all (fun v => decide (v.cells.length = te.size ∧ v.whole = true)) = true) (hb : len * te.size ≤ 16777216) :
    Does P G (Instr.buildSlice t len vs) (.sr G.σ.length 0 0 len) (G.σ ++ [.row te.size 0 0 xs]) :=
  run_buildSlice' inv ht hd he hv hl hlen hall hb fun w c ty hw hrow hc => by
    obtain ⟨G', g1, g2, g3, g4, g5⟩ := new_slice (G := G) (cap := len) inv w hw (unfrozen0 _) hrow (Nat.le_of_eq hlen) hc
    exact ⟨G', g1, g2, g3, g4, by rw [hlen] at g5; exact g5⟩
theorem run_buildSlice_fz (inv : Inv G) {t e : TypeId} {ti te : TI} (ht : tiOf P t = some ti) (hd : ti.d = .slice e) (he : tiOf P e = some te) {len : Nat} {xs : List AV} {vs : Array (Nat × Value)}
    (hv : ∀ (i : Nat) (x : AV), xs[i]? = some x → ∃ v, vs.toList[i]? = some (i, v) ∧ Rep G x v) (hl : xs.length = vs.toList.length) (hlen : xs.length = len) (hall : xs.all (fun v => decide (v.cells.length = te.size ∧ v.whole = true)) = true) (hb : len * te.size ≤ 16777216) :
    Does P G (Instr.buildSlice t len vs) (.sl xs) G.σ :=
  run_buildSlice' inv ht hd he hv hl hlen hall hb fun w c ty hw hrow hc => by
    obtain ⟨G', g1, g2, g3, g4, g5⟩ := new_slice_fz (G := G) (cap := len) inv w hw hrow (Nat.le_of_eq hlen)
    exact ⟨G', g1, g2, g3, g4, by rw [hlen] at g5; exact g5⟩
theorem run_buildSlice_at (inv : Inv G) {t e : TypeId} {ti te : TI} (ht : tiOf P t = some ti) (hd : ti.d = .slice e) (he : tiOf P e = some te) {len k : Nat} {xs : List AV} {vs : Array (Nat × Value)} (hk : G.σ[k]? = some (.row te.size 0 0 []))
    (hv : ∀ (i : Nat) (x : AV), xs[i]? = some x → ∃ v, vs.toList[i]? = some (i, v) ∧ Rep G x v) (hl : xs.length = vs.toList.length) (hlen : xs.length = len) (hall : xs.all (fun v => decide (v.cells.length = te.size ∧ v.whole = true)) = true) (hb : len * te.size ≤ 16777216) :
    Does P G (Instr.buildSlice t len vs) (.sr k 1 0 len) (G.σ.set k (.row te.size 1 0 xs)) :=
  run_buildSlice' inv ht hd he hv hl hlen hall hb fun w c ty hw hrow hc => by
    obtain ⟨G', g1, g2, g3, g4, g5⟩ := new_slice_at (G := G) (cap := len) inv w hk hw (unfrozen0 _) hrow (Nat.le_of_eq hlen) hc
    exact ⟨G', g1, g2, g3, g4, by rw [hlen] at g5; exact g5⟩
end
end Go.Proofs.YthchohjhcjkgjaaGreatDoor.Lift
namespace Go.Proofs.YthchohjhcjkgjaaGreatDoor.Lift
open Go

section
variable {P : Program} {G : Gh}

theorem TFacts.mkv_cells {t : TypeId} {ti : TI} {i : TypeInfo} {d : TypeDesc} {z : Value} (F : TFacts P t ti i d z) : (mkv ti.agg ti.zero).cells = ti.zero := by
  rw [F.zero_mkv]
  split
  · rfl
  · rename_i ha
    have hzz := F.zagg
    rw [← F.agg] at hzz
    have ha' : isAggV z = false := by rw [hzz]; simpa using ha
    have hv : ti.zero = [ofConst z] := by rw [F.zs]; cases z <;> simp_all [isAggV, Value.cells]
    have hok := F.okz
    have hz : okc z = true := by cases z <;> simp_all [isAggV, Value.cells]
    have hs := ofConst_scal z hz
    rw [hv]
    generalize ofConst z = q at hs
    cases q <;> first | rfl | (simp at hs; done)

theorem run_makeSlice' (inv : Inv G) {t e : TypeId} {ti te : TI} (ht : tiOf P t = some ti) (hd : ti.d = .slice e) (he : tiOf P e = some te) {kl kc : IntKind} {n m : Int} (h0 : 0 ≤ n) (h1 : n ≤ m) (hb : m * te.bytes ≤ 140737488355328) (h63 : m ≤ 140737488355328) :
    Does P G (Instr.makeSlice t (.int kl n) (.int kc m)) (.sr G.σ.length 0 0 n.toNat) (G.σ ++ [.row te.size 0 0 (List.replicate n.toNat (mkv te.agg te.zero))]) := by
  obtain ⟨i, d, z, F⟩ := tiOf_facts ht
  obtain ⟨i2, d2, z2, F2⟩ := tiOf_facts he
  obtain rfl := tdOf_slice (F.d ▸ hd)
  have hr := run_make (P := P) G.w t e i2 z2 F.und F2.info F2.zero kl kc n m h0 h1 (by rw [← F2.bytes, Int.mul_comm]; omega) (by omega)
  have hzl : te.zero.length = z2.cells.size := by rw [F2.zero_len, F2.size, F2.zsize]
  have hrow : RowAt G (List.replicate n.toNat (mkv te.agg te.zero)) (madeCells z2.cells (m.toNat * i2.size)) te.size := by
    intro k x hx
    rw [List.getElem?_replicate] at hx
    split at hx
    · rename_i hk
      cases hx
      refine ⟨by rw [F2.mkv_cells]; exact F2.zero_len, fun j y hy => ?_⟩
      rw [F2.mkv_cells] at hy
      obtain ⟨u, q1, q2⟩ := (F2.rep_zero G).get hy
      have hj : j < te.size := by
        rw [← F2.zero_len]
        rcases Nat.lt_or_ge j te.zero.length with h | h
        · exact h
        · rw [List.getElem?_eq_none h] at hy; cases hy
      refine ⟨u, ?_, q2⟩
      have hkm : k * te.size + j < m.toNat * i2.size := by
        rw [← F2.size]
        have : (k + 1) * te.size ≤ m.toNat * te.size := Nat.mul_le_mul_right _ (by omega)
        rw [Nat.add_mul] at this
        omega
      have hmod : (k * te.size + j) % z2.cells.size = j := by
        rw [← hzl, F2.zero_len, Nat.add_comm, Nat.add_mul_mod_self_right, Nat.mod_eq_of_lt hj]
      simp only [madeCells, Array.getElem?_map, Array.getElem?_range, hkm, if_true, Option.map_some, hmod]
      rw [Array.getElem?_toList] at q1
      have hj2 : j < z2.cells.size := by rw [← hzl, F2.zero_len]; exact hj
      rw [Array.getElem?_eq_getElem hj2] at q1
      rw [getElem!_pos z2.cells j hj2]
      exact q1
    · cases hx
  obtain ⟨G', g1, g2, g3, g4, g5⟩ := new_slice (G := G) inv (G.w.alloc (.cells (madeCells z2.cells (m.toNat * i2.size)) e)) ⟨G.w, rfl, rfl, rfl, rfl, rfl⟩ (unfrozen0 _) (xs := List.replicate n.toNat (mkv te.agg te.zero)) (sz := te.size) (cap := m.toNat) hrow (by simp; omega)
    (by rw [size_madeCells, F2.size]; exact Nat.le_refl _)
  rw [List.length_replicate] at g5
  exact ⟨_, G', by rw [g1]; exact hr, g2, g3, g4, g5⟩

theorem run_makeSlice_at (inv : Inv G) {k0 : Nat} {t e : TypeId} {ti te : TI} (ht : tiOf P t = some ti) (hd : ti.d = .slice e) (he : tiOf P e = some te) {kl kc : IntKind} {n m : Int} (h0 : 0 ≤ n) (h1 : n ≤ m) (hb : m * te.bytes ≤ 140737488355328) (h63 : m ≤ 140737488355328) (hk : G.σ[k0]? = some (.row te.size 0 0 [])) :
    Does P G (Instr.makeSlice t (.int kl n) (.int kc m)) (.sr k0 1 0 n.toNat) (G.σ.set k0 (.row te.size 1 0 (List.replicate n.toNat (mkv te.agg te.zero)))) := by
  obtain ⟨i, d, z, F⟩ := tiOf_facts ht
  obtain ⟨i2, d2, z2, F2⟩ := tiOf_facts he
  obtain rfl := tdOf_slice (F.d ▸ hd)
  have hr := run_make (P := P) G.w t e i2 z2 F.und F2.info F2.zero kl kc n m h0 h1 (by rw [← F2.bytes, Int.mul_comm]; omega) (by omega)
  have hzl : te.zero.length = z2.cells.size := by rw [F2.zero_len, F2.size, F2.zsize]
  have hrow : RowAt G (List.replicate n.toNat (mkv te.agg te.zero)) (madeCells z2.cells (m.toNat * i2.size)) te.size := by
    intro k x hx
    rw [List.getElem?_replicate] at hx
    split at hx
    · rename_i hk
      cases hx
      refine ⟨by rw [F2.mkv_cells]; exact F2.zero_len, fun j y hy => ?_⟩
      rw [F2.mkv_cells] at hy
      obtain ⟨u, q1, q2⟩ := (F2.rep_zero G).get hy
      have hj : j < te.size := by
        rw [← F2.zero_len]
        rcases Nat.lt_or_ge j te.zero.length with h | h
        · exact h
        · rw [List.getElem?_eq_none h] at hy; cases hy
      refine ⟨u, ?_, q2⟩
      have hkm : k * te.size + j < m.toNat * i2.size := by
        rw [← F2.size]
        have : (k + 1) * te.size ≤ m.toNat * te.size := Nat.mul_le_mul_right _ (by omega)
        rw [Nat.add_mul] at this
        omega
      have hmod : (k * te.size + j) % z2.cells.size = j := by
        rw [← hzl, F2.zero_len, Nat.add_comm, Nat.add_mul_mod_self_right, Nat.mod_eq_of_lt hj]
      simp only [madeCells, Array.getElem?_map, Array.getElem?_range, hkm, if_true, Option.map_some, hmod]
      rw [Array.getElem?_toList] at q1
      have hj2 : j < z2.cells.size := by rw [← hzl, F2.zero_len]; exact hj
      rw [Array.getElem?_eq_getElem hj2] at q1
      rw [getElem!_pos z2.cells j hj2]
      exact q1
    · cases hx
  obtain ⟨G', g1, g2, g3, g4, g5⟩ := new_slice_at (G := G) inv (G.w.alloc (.cells (madeCells z2.cells (m.toNat * i2.size)) e)) hk ⟨G.w, rfl, rfl, rfl, rfl, rfl⟩ (unfrozen0 _) (xs := List.replicate n.toNat (mkv te.agg te.zero)) (sz := te.size) (cap := m.toNat) hrow (by simp; omega)
    (by rw [size_madeCells, F2.size]; exact Nat.le_refl _)
  rw [List.length_replicate] at g5
  exact ⟨_, G', by rw [g1]; exact hr, g2, g3, g4, g5⟩

theorem run_convert_int {src dst : TypeId} {ts td : TI} (hs : tiOf P src = some ts) (hd : tiOf P dst = some td) {k : IntKind} (hk : td.d = .int k) (j : IntKind) (n : Int) (w : World) : (convert src dst (.int j n)).run P w = .ok (.int k (k.wrap n)) w := by
  obtain ⟨i, d, z, F⟩ := tiOf_facts hs
  obtain ⟨i2, d2, z2, F2⟩ := tiOf_facts hd
  obtain rfl := tdOf_int (F2.d ▸ hk)
  simp only [convert, Sem.run_bind, F.run_und, F2.run_und, Result.andThen_ok, Conv.intToInt, Sem.run_pure]

theorem run_convert_str {src dst : TypeId} {ts td : TI} (hs : tiOf P src = some ts) (hd : tiOf P dst = some td) (hk1 : ts.d = .str) (hk : td.d = .str) (s : ByteArray) (w : World) : (convert src dst (.string s)).run P w = .ok (.string s) w := by
  obtain ⟨i, d, z, F⟩ := tiOf_facts hs
  obtain ⟨i2, d2, z2, F2⟩ := tiOf_facts hd
  obtain rfl := tdOf_str (F2.d ▸ hk)
  obtain rfl := tdOf_str (F.d ▸ hk1)
  simp only [convert, Sem.run_bind, F.run_und, F2.run_und, Result.andThen_ok, Sem.run_pure]

theorem does_convert_sb (inv : Inv G) {src dst e : TypeId} {ts td te : TI} (hs : tiOf P src = some ts) (hd : tiOf P dst = some td) (hk : td.d = .slice e) (he : tiOf P e = some te) (hke : te.d = .int .u8) {b : List UInt8} {v : Value} (hb : Rep G (.str b) v) :
    Does P G (convert src dst v) (.sr G.σ.length 0 0 b.length) (G.σ ++ [.row 1 0 0 (b.map fun c => .int .u8 c.toNat)]) := by
  obtain ⟨i, d, z, F⟩ := tiOf_facts hs
  obtain ⟨i2, d2, z2, F2⟩ := tiOf_facts hd
  obtain ⟨i3, d3, z3, F3⟩ := tiOf_facts he
  obtain rfl := tdOf_slice (F2.d ▸ hk)
  obtain rfl := tdOf_int (F3.d ▸ hke)
  generalize hbb : b = b' at hb
  cases hb with
  | str s =>
    subst hbb
    have hr := Lib.run_convert_string_bytes (P := P) G.w src dst e s F.und F2.und F3.und
    have hge := grownCap_ge G.w s.size 0 e
    have hrow : RowAt G (s.data.toList.map fun c => AV.int .u8 c.toNat) (Lib.bytesCells G.w e s) 1 := by
      have h := rowAt_flat (G := G) (xs := s.data.toList.map fun c => AV.int .u8 c.toNat) (l := s.data.toList.map fun c => Value.int .u8 c.toNat) (sz := 1) (fun x hx => by
        obtain ⟨c, _, rfl⟩ := List.mem_map.1 hx; rfl) (by rw [bytes_cells]; exact bytes_rep _) (List.replicate (grownCap G.w s.size 0 e - s.size) (.int .u8 0))
      have e1 : Lib.bytesCells G.w e s = ((s.data.toList.map fun (c : UInt8) => Value.int .u8 c.toNat) ++ List.replicate (grownCap G.w s.size 0 e - s.size) (Value.int .u8 0)).toArray := by
        apply Array.ext'
        simp [Lib.bytesCells]
      rw [e1]; exact h
    have hsz : (Lib.bytesCells G.w e s).size = grownCap G.w s.size 0 e := by
      simp only [Lib.bytesCells, Array.size_append, Array.size_map, Array.size_replicate]
      have : s.data.size = s.size := rfl
      omega
    have h5 : ∀ j, j < G.w.heap.size → (Lib.bytesWorld G.w e s).heap[j]? = G.w.heap[j]? := fun j hj => Lib.bytesWorld_at_old G.w e s j hj
    have hw : (Lib.bytesWorld G.w e s).os = G.w.os ∧ (Lib.bytesWorld G.w e s).tape = G.w.tape ∧ (Lib.bytesWorld G.w e s).output = G.w.output := by
      simp only [Lib.bytesWorld, World.freeze]
      split <;> exact ⟨rfl, rfl, rfl⟩
    have x := ext_grow inv (Lib.bytesWorld G.w e s) (some G.w.heap.size) (.row 1 0 0 (s.data.toList.map fun c => AV.int .u8 c.toNat)) hw.1 hw.2.1 hw.2.2 (by rw [Lib.bytesWorld_size]; omega) h5 (fun j hj => by cases hj; omega)
    have hun : Unfrozen (Lib.bytesCells G.w e s).size ((Lib.bytesCells G.w e s).size, (Lib.bytesCells G.w e s).size + 1) := fun o ho => by simp; omega
    have iv := inv_grow_row inv _ _ 1 _ x h5 (fun j hj => by
      cases hj
      exact ⟨Nat.le_refl _, _, e, _, Lib.bytesWorld_at_new G.w e s, hun, hrow⟩) (fun h => by cases h)
    refine ⟨_, G.grow (Lib.bytesWorld G.w e s) (some G.w.heap.size) (.row 1 0 0 (s.data.toList.map fun c => AV.int .u8 c.toNat)), hr, rfl, x, iv, ?_⟩
    have := Rep.sr (G := G.grow (Lib.bytesWorld G.w e s) (some G.w.heap.size) (.row 1 0 0 (s.data.toList.map fun c => AV.int .u8 c.toNat))) (off := 0) (len := s.data.toList.length) (cap := grownCap G.w s.size 0 e)
      (hasId_new G _ (some G.w.heap.size) 1 0 _) (blk := G.w.heap.size) (by simp [Gh.grow]) (by rw [ba_len]; exact hge) (Lib.bytesWorld_at_new G.w e s) (by rw [hsz]; simp)
    rw [ba_len] at this ⊢
    simpa using this

theorem bytesOf_map : ∀ {xs : List AV} {b : List UInt8}, bytesOf xs = some b → ∃ ns : List Int, xs = ns.map (AV.int .u8) ∧ b = ns.map fun n => UInt8.ofNat n.toNat
  | [], b, h => by cases h; exact ⟨[], rfl, rfl⟩
  | x :: xs, b, h => by
    cases x with
    | int k n => cases k <;> first
        | (cases h; done)
        | (simp only [bytesOf] at h
           cases hb : bytesOf xs with
           | none => rw [hb] at h; cases h
           | some b' =>
             rw [hb] at h; cases h
             obtain ⟨ns, rfl, rfl⟩ := bytesOf_map hb
             exact ⟨n :: ns, rfl, rfl⟩)
    | _ => cases h

theorem run_convert_bs (inv : Inv G) {src dst e : TypeId} {ts td te : TI} (hs : tiOf P src = some ts) (hks : ts.d = .slice e) (hd : tiOf P dst = some td) (hk : td.d = .str) (he : tiOf P e = some te) (hke : te.d = .int .u8) (hsz : te.size = 1) {x : AV} {v : Value} (hx : Rep G x v) {xs : List AV} (hxs : elemsOf G.σ x = some xs)
    {b : List UInt8} (hb : bytesOf xs = some b) : ∃ u, (convert src dst v).run P G.w = .ok u G.w ∧ Rep G (.str b) u := by
  obtain ⟨i, d, z, F⟩ := tiOf_facts hs
  obtain ⟨i2, d2, z2, F2⟩ := tiOf_facts hd
  obtain ⟨i3, d3, z3, F3⟩ := tiOf_facts he
  obtain rfl := tdOf_slice (F.d ▸ hks)
  obtain rfl := tdOf_int (F3.d ▸ hke)
  obtain rfl := tdOf_str (F2.d ▸ hk)
  obtain ⟨ns, rfl, rfl⟩ := bytesOf_map hb
  obtain ⟨l, hl, hrl⟩ := run_firstCells (P := P) inv hx hxs (esz := 1) (fun x hx => by obtain ⟨n, _, rfl⟩ := List.mem_map.1 hx; rfl)
  have hlen := run_lenOf_slice (P := P) hx hxs
  have hcells : (ns.map (AV.int .u8)).flatMap AV.cells = ns.map (AV.int .u8) := by
    clear hb hxs hl hrl hlen
    induction ns with
    | nil => rfl
    | cons n ns ih => rw [List.map_cons, List.flatMap_cons, ih]; rfl
  rw [hcells] at hrl
  have hll : l = ns.map (Value.int .u8) := by
    clear hb hxs hl hlen hcells
    induction ns generalizing l with
    | nil => cases hrl; rfl
    | cons n ns ih =>
      cases hrl with
      | cons h t => cases h; rw [ih _ t]; rfl
  subst hll
  have hv : ∃ a len cap, v = .slice a len cap := by
    cases hx <;> first
      | exact ⟨_, _, _, rfl⟩
      | (simp [elemsOf] at hxs; done)
  obtain ⟨a, len, cap, rfl⟩ := hv
  simp only [Builtin.lenOf, Sem.run_pure, List.length_map, Result.ok.injEq, and_true] at hlen
  refine ⟨.string (strOfNums ns), ?_, ?_⟩
  · rw [run_convert_bytes_string G.w src dst e a len cap F.und F3.und F2.und]
    have hl := hl G.w rfl
    simp only [Builtin.firstCells, List.length_map, Nat.mul_one] at hl
    cases a with
    | none =>
      simp only [Sem.run_pure, Result.ok.injEq, and_true] at hl
      have : ns = [] := by
        have := congrArg Array.size hl
        simp at this
        exact List.eq_nil_of_length_eq_zero this.symm
      subst this
      simp only [Conv.bytesToString, Sem.run_pure]
      rfl
    | some a =>
      rw [← hlen] at hl
      rw [run_bytesToString G.w a len cap ns hl, foldl_push_bytes]
      simp [strOfNums, ByteArray.empty, ByteArray.emptyWithCapacity]
      rfl
  · rw [← strOfNums_data]; exact .str _
end
end Go.Proofs.YthchohjhcjkgjaaGreatDoor.Lift
