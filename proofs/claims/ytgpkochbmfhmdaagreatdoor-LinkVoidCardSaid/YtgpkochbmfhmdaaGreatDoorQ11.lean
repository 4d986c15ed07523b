/-
  V24: class's writer: how it lies; must, two; a writer's bytes out of the store.
  LIFT, 31: A SLICE OF WHICH IT IS NOT KNOWN WHETHER IT IS NIL: a function that clones, by cases.
  R0: a configuration whose types are a table; kind.Above, for the kernel.
  R1: the functions that larchlaw13's works reaches (the table is printed by gen35.py)
  R2: larchlaw13's main: class.Check of it.
  R3: the functions that larchlaw13's works reaches, but class.Check (the table is printed by gen35.py)
  R4: larchlaw13's main: verify.Class of it.
  R5: the functions that larchlaw13's works reaches, but verify.Class (the table is printed by gen35.py)
  R6: larchlaw13's works.
  R7: the functions that LinkVoid reaches, but works (the table is printed by gen35.py)
  R8: larchlaw13.LinkVoid.
  LIFT, Z: FROM A PURE CONTRACT TO A STATEMENT: a reading of the arguments stands behind the call, whatever else is spared.
-/
import Derived.Test.YtgpkochbmfhmdaaGreatDoorQ10
import Derived.ChangeSame
import Derived.ChangeReads
import Derived.Below
import Derived.OpenShut
import Derived.RowKit
import Derived.ProofKit
namespace Go.Proofs.YtgpkochbmfhmdaaGreatDoor.Lift
open Go
set_option maxRecDepth 100000

/-- Bytes, out of the store too -/
def sBytes : Spec := fun args st => match args with
  | [.ptr b 0 0 0, .sl xs] => sW wBytes [.ptr b 0 0 0, .sl xs] st
  | [.ptr b 0 0 0, .sr j g 0 n] => match st[j]? with
    | some (.row 1 g' _ xs) => if g = g' ∧ n = xs.length then sW wBytes [.ptr b 0 0 0, .sl xs] st else none
    | _ => none
  | _ => none
theorem f_wBytesR : SoundF Tryz.prog gl 200 sBytes := by
  refine soundF_of_wk ok_wIs mixed Tryz.func200 rfl rfl fun args st r st' hs G0 => ?_
  unfold sBytes at hs
  split at hs
  · rename_i b xs
    simp only [sW] at hs
    obtain ⟨⟨k, o⟩, hx, hs2⟩ := Option.bind_eq_some_iff.1 hs
    obtain ⟨⟨r2, o'⟩, hm, he⟩ := Option.map_eq_some_iff.1 hs2
    cases he
    obtain ⟨h1, h2⟩ := woOf_inv hx
    have H := wb_of h1 h2
    have e := wst_self h1 h2
    unfold wBytes at hm
    simp only at hm
    obtain ⟨l, hl, hm2⟩ := Option.bind_eq_some_iff.1 hm
    simp only [Option.ite_none_right_eq_some, Option.some.injEq] at hm2
    obtain ⟨hb, he⟩ := hm2
    cases he
    have := mapO_inv (f := decByte) (g := encByte) decByte_ed xs l hl
    subst this
    clear hm hl hs hs2
    have e1 := wst_b H o []
    have e2 := sW_eq (f := wIs) H o [] []
    have e3 := wst_k H o []
    have e4 := wst_kget H o (bRow (bytesW l o)) []
    have e5 := wst_kb H o (bytesW l o) []
    have hlen : (bytesW l o).out.length = o.out.length + l.length := by simp [bytesW]
    have htk : o.out.map encByte ++ l.map encByte = (bytesW l o).out.map encByte := by simp [bytesW]
    simp only [wRow, bRow, List.append_nil, hlen, show (bytesW l o).g = o.g + 1 from rfl] at e e1 e2 e3 e4 e5
    rw [e] at e1 e2 e3 e4 e5
    simp [Tryz.f200, entry, e1, e2, wIs, e3, hb, all_byte, htk, e4, e5, e]
  · rename_i b j g n
    split at hs
    · rename_i g' lo xs hj
      simp only [Option.ite_none_right_eq_some] at hs
      obtain ⟨⟨rfl, rfl⟩, hs⟩ := hs
      simp only [sW] at hs
      obtain ⟨⟨k, o⟩, hx, hs2⟩ := Option.bind_eq_some_iff.1 hs
      obtain ⟨⟨r2, o'⟩, hm, he⟩ := Option.map_eq_some_iff.1 hs2
      cases he
      obtain ⟨h1, h2⟩ := woOf_inv hx
      have H := wb_of h1 h2
      have e := wst_self h1 h2
      unfold wBytes at hm
      simp only at hm
      obtain ⟨l, hl, hm2⟩ := Option.bind_eq_some_iff.1 hm
      simp only [Option.ite_none_right_eq_some, Option.some.injEq] at hm2
      obtain ⟨hb, he⟩ := hm2
      cases he
      have := mapO_inv (f := decByte) (g := encByte) decByte_ed xs l hl
      subst this
      clear hm hl hs hs2
      have e1 := wst_b H o []
      have e2 := sW_eq (f := wIs) H o [] []
      have e3 := wst_k H o []
      have e4 := wst_kget H o (bRow (bytesW l o)) []
      have e5 := wst_kb H o (bytesW l o) []
      have hlen : (bytesW l o).out.length = o.out.length + l.length := by simp [bytesW]
      have htk : o.out.map encByte ++ l.map encByte = (bytesW l o).out.map encByte := by simp [bytesW]
      simp only [wRow, bRow, List.append_nil, hlen, show (bytesW l o).g = o.g + 1 from rfl] at e e1 e2 e3 e4 e5
      rw [e] at e1 e2 e3 e4 e5
      simp [Tryz.f200, entry, e1, e2, wIs, e3, hb, all_byte, htk, e4, e5, e, hj]
    · cases hs
  · cases hs

/-- class's writer: what it wrote; is it bad? -/
structure CW where
  o : WO
  bad : Bool
def cRow (b : Nat) (P : List AEntry) (bad : Bool) : ABlk := .row 3 0 0 [.agg [.ptr b 0 0 0, .sl (P.map encEntry), .bool bad]]
def cwOf (st : Sto) (c : Nat) : Option (Nat × Nat × List AEntry × CW) := match st[c]? with
  | some (.row 3 0 0 [.agg [.ptr b 0 0 0, .sl es, .bool bad]]) => (mapO decEntry es).bind fun P => (woOf st b).map fun x => (b, x.1, P, ⟨x.2, bad⟩)
  | _ => none
theorem cwOf_eq {st : Sto} {b c k : Nat} {P : List AEntry} {s : CW} (h : st[c]? = some (cRow b P s.bad)) (h1 : st[b]? = some (wRow k s.o)) (h2 : st[k]? = some (bRow s.o)) : cwOf st c = some (b, k, P, s) := by
  unfold cwOf
  rw [h]
  simp only [cRow, mapO_Entry, Option.bind_some, woOf_eq h1 h2, Option.map_some]
theorem cwOf_inv {st : Sto} {c : Nat} {x : Nat × Nat × List AEntry × CW} (h : cwOf st c = some x) : st[c]? = some (cRow x.1 x.2.2.1 x.2.2.2.bad) ∧ st[x.1]? = some (wRow x.2.1 x.2.2.2.o) ∧ st[x.2.1]? = some (bRow x.2.2.2.o) := by
  unfold cwOf at h
  split at h
  · rename_i b es bad hc
    obtain ⟨P, hP, h2⟩ := Option.bind_eq_some_iff.1 h
    obtain ⟨⟨k, o⟩, hx, he⟩ := Option.map_eq_some_iff.1 h2
    cases he
    obtain ⟨h3, h4⟩ := woOf_inv hx
    have := mapO_inv (f := decEntry) (g := encEntry) cEntry.ed es P hP
    subst this
    exact ⟨hc, h3, h4⟩
  · cases h
/-- a store with a class's writer -/
def cw (st : Sto) (b c k : Nat) (P : List AEntry) (s : CW) : Sto := wst (st.set c (cRow b P s.bad)) b k s.o
structure CB (st : Sto) (b c k : Nat) : Prop where
  hb : b < st.length
  hc : c < st.length
  hk : k < st.length
  nbk : b ≠ k
  nbc : b ≠ c
  nck : c ≠ k
section
variable {st : Sto} {b c k : Nat} {P : List AEntry} {s : CW}
theorem cw_len (st : Sto) (b c k : Nat) (P : List AEntry) (s : CW) : (cw st b c k P s).length = st.length := by simp [cw, wst_len]
theorem cw_self (h : st[c]? = some (cRow b P s.bad)) (h1 : st[b]? = some (wRow k s.o)) (h2 : st[k]? = some (bRow s.o)) : cw st b c k P s = st := by
  rw [cw, set_same h, wst_self h1 h2]
theorem cb_of (h : st[c]? = some (cRow b P s.bad)) (h1 : st[b]? = some (wRow k s.o)) (h2 : st[k]? = some (bRow s.o)) : CB st b c k where
  hb := (List.getElem?_eq_some_iff.1 h1).1
  hc := (List.getElem?_eq_some_iff.1 h).1
  hk := (List.getElem?_eq_some_iff.1 h2).1
  nbk := (wb_of h1 h2).ne
  nbc := fun e => by
    subst e
    rw [h] at h1
    cases h1
  nck := fun e => by
    subst e
    rw [h] at h2
    cases h2
theorem CB.w (H : CB st b c k) (x : ABlk) : WB (st.set c x) b k := ⟨by simpa using H.hb, by simpa using H.hk, H.nbk⟩
theorem cw_p (s : CW) (q : Sto) (j : Nat) : (cw st b c k P s ++ q)[st.length + j]? = q[j]? := by
  have := wst_p (st := st.set c (cRow b P s.bad)) (b := b) (k := k) s.o q j
  rwa [List.length_set] at this
theorem cw_p0 (s : CW) (q : Sto) : (cw st b c k P s ++ q)[st.length]? = q[0]? := cw_p s q 0
theorem cw_setp (s : CW) (q : Sto) (j : Nat) (x : ABlk) : (cw st b c k P s ++ q).set (st.length + j) x = cw st b c k P s ++ q.set j x := by
  rw [List.set_append_right _ _ (by rw [cw_len]; omega), cw_len]
  congr 2
  omega
theorem cw_setp0 (s : CW) (q : Sto) (x : ABlk) : (cw st b c k P s ++ q).set st.length x = cw st b c k P s ++ q.set 0 x := cw_setp s q 0 x
theorem cw_take (s : CW) (q : Sto) : List.take st.length (cw st b c k P s ++ q) = cw st b c k P s := by
  rw [List.take_append_of_le_length (by rw [cw_len]; omega), List.take_of_length_le (by rw [cw_len]; omega)]
theorem cw_take0 (s : CW) : List.take st.length (cw st b c k P s) = cw st b c k P s := List.take_of_length_le (by rw [cw_len]; omega)
variable (H : CB st b c k)
include H
theorem cw_b (s : CW) (q : Sto) : (cw st b c k P s ++ q)[b]? = some (wRow k s.o) := wst_b (H.w _) s.o q
theorem cw_k (s : CW) (q : Sto) : (cw st b c k P s ++ q)[k]? = some (bRow s.o) := wst_k (H.w _) s.o q
theorem cw_c (s : CW) (q : Sto) : (cw st b c k P s ++ q)[c]? = some (cRow b P s.bad) := by
  rw [List.getElem?_append_left (by rw [cw_len]; exact H.hc), cw, wst, List.getElem?_set, if_neg (fun e => H.nck e.symm), List.getElem?_set, if_neg H.nbc, List.getElem?_set, if_pos rfl, if_pos H.hc]
theorem cw_cset (s : CW) (bad : Bool) (q : Sto) : (cw st b c k P s ++ q).set c (cRow b P bad) = cw st b c k P ⟨s.o, bad⟩ ++ q := by
  rw [List.set_append_left _ _ (by rw [cw_len]; exact H.hc)]
  congr 1
  rw [cw, cw, wst, wst, List.set_comm _ _ (fun e => H.nck e.symm), List.set_comm _ _ H.nbc, List.set_set]
theorem cw_sW {f : WO → List AV → Option (AV × WO)} (s : CW) (av : List AV) (q : Sto) : sW f (.ptr b 0 0 0 :: av) (cw st b c k P s ++ q) = (f s.o av).map fun r => (r.1, cw st b c k P ⟨r.2, s.bad⟩ ++ q) := sW_eq (H.w _) s.o av q
theorem cwOf_cw (s : CW) (q : Sto) : cwOf (cw st b c k P s ++ q) c = some (b, k, P, s) := cwOf_eq (cw_c H s q) (cw_b H s q) (cw_k H s q)
theorem cw_cw (s s' : CW) (q : Sto) : cw (cw st b c k P s ++ q) b c k P s' = cw st b c k P s' ++ q := by
  have e : cw (cw st b c k P s ++ q) b c k P s' = wst ((cw st b c k P s ++ q).set c (cRow b P s'.bad)) b k s'.o := rfl
  rw [e, cw_cset H]
  exact wst_wst (H.w _) s.o s'.o q
theorem cw_shut (hs : st.all (blwB st.length) = true) (s : CW) : (cw st b c k P s).all (blwB (cw st b c k P s).length) = true := by
  have h1 : (st.set c (cRow b P s.bad)).all (blwB (st.set c (cRow b P s.bad)).length) = true := by
    rw [List.length_set]
    refine List.all_eq_true.2 fun x hx => ?_
    rcases List.mem_or_eq_of_mem_set hx with hx | rfl
    · exact List.all_eq_true.1 hs x hx
    · have := H.hb
      have h2 : blwL st.length (P.map encEntry) = true := blwL_map cEntry.fz _ _
      simp [cRow, blwB, blwL, blw, h2]
      omega
  exact wst_shut (H.w _) h1 s.o
end
/-- a method of a class's writer -/
def sC (f : List AEntry → CW → List AV → Option (AV × CW)) : Spec := fun args st => match args with
  | .ptr c 0 0 0 :: av => (cwOf st c).bind fun x => (f x.2.2.1 x.2.2.2 av).map fun r => (r.1, cw st x.1 c x.2.1 x.2.2.1 r.2)
  | _ => none
theorem sC_eq {f : List AEntry → CW → List AV → Option (AV × CW)} {st : Sto} {b c k : Nat} {P : List AEntry} (H : CB st b c k) (s : CW) (av : List AV) (q : Sto) : sC f (.ptr c 0 0 0 :: av) (cw st b c k P s ++ q) = (f P s av).map fun r => (r.1, cw st b c k P r.2 ++ q) := by
  simp only [sC, cwOf_cw H, Option.bind_some, cw_cw H]
theorem c_of_wk {E : Env} {B : List Nat} (ok : OkX Tryz.prog (XB E B)) {f : Nat} {fn : Func} (hf : Tryz.prog.funcs[f]? = some fn) (hb : fn.body.isSome = true) (hn : (fn.name == "runtime.NumGoroutine") = false) {m : List AEntry → CW → List AV → Option (AV × CW)}
    (h : ∀ (P : List AEntry) (s : CW) (av : List AV) (r : AV) (s' : CW), m P s av = some (r, s') → fz r = true ∧ ∀ (st : Sto) (b c k : Nat), CB st b c k → st.all (blwB st.length) = true →
      ∀ G0 : { G : Gh // G.σ = cw st b c k P s }, wk Tryz.prog (XB E B) G0.1 (fun e a => (e = .normal ∨ e = .ret) ∧ resAs (XB E B) a fn.results.toList = some r ∧ a.st.take st.length = cw st b c k P s') (fn.body.get hb) [] (entry fn (.ptr c 0 0 0 :: av) (cw st b c k P s))) : SoundF Tryz.prog gl f (sC m) :=
  soundD_of_wk ok mixed hf hb hn fun args st r st' hs hc => by
    unfold sC at hs
    split at hs
    · rename_i c av
      obtain ⟨⟨b, k, P, s⟩, hx, hs2⟩ := Option.bind_eq_some_iff.1 hs
      obtain ⟨⟨r2, s'⟩, hm, he⟩ := Option.map_eq_some_iff.1 hs2
      cases he
      obtain ⟨h1, h2, h3⟩ := cwOf_inv hx
      have H := cb_of h1 h2 h3
      obtain ⟨hr, hw⟩ := h P s av _ s' hm
      have e := cw_self h1 h2 h3
      simp only at e
      refine ⟨by rw [cw_len]; exact Nat.le_refl _, cw_shut H hc s', fz_blw hr, fun G0 => ?_⟩
      have := hw st b c k H hc
      rw [e] at this
      simp only [cw_len]
      exact this G0
    · cases hs

/-- must -/
def mustW (t : Bool) (s : CW) : CW := ⟨s.o, s.bad || !t⟩
def cMust (_ : List AEntry) (s : CW) (av : List AV) : Option (AV × CW) := match av with
  | [.bool t] => some (.tup [], mustW t s)
  | _ => none
theorem f_cMust : SoundF Tryz.prog gl 167 (sC cMust) := by
  refine c_of_wk okX_nil Tryz.func167 rfl rfl fun P s av r s' hm => ?_
  unfold cMust at hm
  split at hm
  · rename_i t
    cases hm
    refine ⟨rfl, fun st b c k H hsh G0 => ?_⟩
    have e1 := cw_c (P := P) H s []
    have e2 := fun bad => cw_cset (P := P) H s bad []
    have et := fun s => cw_take0 (st := st) (b := b) (c := c) (k := k) (P := P) s
    obtain ⟨o, bad⟩ := s
    simp only [cRow, List.append_nil] at e1 e2
    cases bad with
    | true => simp [Tryz.f167, entry, e1, e2, et, mustW]
    | false => simp [Tryz.f167, entry, e1, e2, et, mustW]
  · cases hm
/-- two: numbers of two bytes -/
def twoW (l : List Int) (s : CW) : CW := ⟨(putW 2 false l s.o).2, decide ((putW 2 false l s.o).1 ≠ 0) || s.bad⟩
def uW (k : Int) (l : List Int) (s : CW) : CW := ⟨(putW k false l s.o).2, s.bad⟩
def okLen (s : CW) : Prop := s.o.out.length ≤ 140737488355328
instance (s : CW) : Decidable (okLen s) := inferInstanceAs (Decidable (_ ≤ _))
def cTwo (_ : List AEntry) (s : CW) (av : List AV) : Option (AV × CW) := match av with
  | [.sl xs] => (mapO decInt xs).bind fun l => if l.length < 1099511627776 ∧ okLen (twoW l s) then some (.tup [], twoW l s) else none
  | _ => none
theorem cTwo_eq (P : List AEntry) (s : CW) (l : List Int) (h : l.length < 1099511627776) (h2 : okLen (twoW l s)) : cTwo P s [.sl (l.map encInt)] = some (.tup [], twoW l s) := by
  have hm : mapO decInt (l.map encInt) = some l := mapO_map cInt.de l
  simp only [cTwo, hm, Option.bind_some]
  rw [if_pos ⟨h, h2⟩]
theorem wU_eq (o : WO) (k : Int) (l : List Int) (h : l.length < 1099511627776) (h2 : (putW k false l o).2.out.length ≤ 140737488355328) : wU o [.int .i64 k, .sl (l.map encInt)] = some (.int .i64 (putW k false l o).1, (putW k false l o).2) := by
  simp only [wU, wAll_eq]
  rw [if_pos ⟨h, h2⟩]
theorem wS_eq (o : WO) (k : Int) (l : List Int) (h : l.length < 1099511627776) (h2 : (putW k true l o).2.out.length ≤ 140737488355328) : wS o [.int .i64 k, .sl (l.map encInt)] = some (.int .i64 (putW k true l o).1, (putW k true l o).2) := by
  simp only [wS, wAll_eq]
  rw [if_pos ⟨h, h2⟩]
theorem ok_cTwo : OkX Tryz.prog (XE [(161, sW wU)]) := okX_nil.add f_wU
theorem f_cTwo : SoundF Tryz.prog gl 162 (sC cTwo) := by
  refine c_of_wk ok_cTwo Tryz.func162 rfl rfl fun P s av r s' hm => ?_
  unfold cTwo at hm
  split at hm
  · rename_i xs
    obtain ⟨l, hl, hm2⟩ := Option.bind_eq_some_iff.1 hm
    simp only [Option.ite_none_right_eq_some, Option.some.injEq] at hm2
    obtain ⟨⟨hll, hlim⟩, he⟩ := hm2
    cases he
    have := mapO_inv (f := decInt) (g := encInt) cInt.ed xs l hl
    subst this
    clear hm hl
    refine ⟨rfl, fun st b c k H hsh G0 => ?_⟩
    have e1 := fun s => cw_c (P := P) H s []
    have e2 := fun s bad => cw_cset (P := P) H s bad []
    have e3 := cw_sW (P := P) (f := wU) H s [.int .i64 2, .sl (l.map encInt)] []
    rw [wU_eq s.o 2 l hll hlim] at e3
    have et := fun s => cw_take0 (st := st) (b := b) (c := c) (k := k) (P := P) s
    obtain ⟨o, bad⟩ := s
    unfold twoW
    simp only [cRow, List.append_nil, Option.map_some] at e1 e2 e3
    generalize putW 2 false l o = w at *
    obtain ⟨e, o'⟩ := w
    by_cases he : e = 0
    · subst he
      simp [Tryz.f162, entry, e1, e2, e3, et]
    · simp [Tryz.f162, entry, e1, e2, e3, et, he]
  · cases hm
end Go.Proofs.YtgpkochbmfhmdaaGreatDoor.Lift
namespace Go.Proofs.YtgpkochbmfhmdaaGreatDoor.Lift
open Go
set_option maxRecDepth 100000

@[simp] def sCloneNil : Spec := fun args st => match args with
  | [.snil] => some (.snil, st)
  | _ => none
@[simp] def sCloneE (sz : Nat) : Spec := fun args st => match args with
  | [.sle] => some (.sr st.length 1 0 0, st ++ [.row sz 1 0 []])
  | _ => none
@[simp] def sCloneX (sz : Nat) (c : List AV → Bool) : Spec := fun args st => match args with
  | [.sl (x :: xs)] => if c (x :: xs) = true then some (.sr st.length 1 0 (xs.length + 1), st ++ [.row sz 1 0 (x :: xs)]) else none
  | _ => none
/-- a clone: a new block, with a generation of one (one append) -/
@[simp] def sClone (sz : Nat) (c : List AV → Bool) : Spec := fun args st => match args with
  | [.sl xs] => if c xs = true then some (.sr st.length 1 0 xs.length, st ++ [.row sz 1 0 xs]) else none
  | _ => none

/-- nothing new in memory: a row without elements more -/
theorem grow_none {G : Gh} (inv : Inv G) (sz : Nat) : ∃ H : Gh, H.w = G.w ∧ H.σ = G.σ ++ [.row sz 1 0 []] ∧ Ext G H ∧ Inv H ∧ H.ρ G.σ.length 1 = none := by
  let G1 := G.grow G.w none (.row sz 0 0 [])
  have x1 : Ext G G1 := ext_grow inv G.w none _ rfl rfl rfl (Nat.le_refl _) (fun _ _ => rfl) (fun _ h => by cases h)
  have inv1 : Inv G1 := inv_grow_row inv G.w none sz [] x1 (fun _ _ => rfl) (fun _ h => by cases h) (fun _ => rfl)
  have hb : G1.σ[G.σ.length]? = some (.row sz 0 0 []) := by simp [G1, Gh.grow]
  have x2 : Ext G1 (G1.turn G.w G.σ.length (.row sz (0 + 1) 0 []) none) := ext_move inv1 none hb rfl rfl rfl (Nat.le_refl _) (fun _ _ => rfl) (fun _ h => by cases h)
  have inv2 := inv_move (ys := []) inv1 none hb x2 (fun _ _ => rfl) (fun _ h => by cases h) (fun _ => rfl) (Nat.le_refl _)
  refine ⟨G1.turn G.w G.σ.length (.row sz (0 + 1) 0 []) none, rfl, ?_, x1.trans x2, inv2, ?_⟩
  · simp [Gh.turn, G1, Gh.grow]
  · simp [Gh.turn]

theorem clone_join {P : Program} {gl : Nat → Option AV} {J : Foe} {f sz : Nat} {c : List AV → Bool} (h0 : SoundJ P gl J f sCloneNil) (h1 : SoundJ P gl J f (sCloneE sz)) (h2 : SoundJ P gl J f (sCloneX sz c)) : SoundJ P gl J f (sClone sz c) where
  calls := fun G args vals r σ' hs inv hJ hg hargs => by
    unfold sClone at hs
    split at hs
    · rename_i xs
      cases xs with
      | cons x xs => exact h2.calls G [.sl (x :: xs)] vals r σ' hs inv hJ hg hargs
      | nil =>
        split at hs
        · rename_i hc
          cases hs
          cases hargs with
          | cons hv ht =>
            have nilcase : ∀ v, v = Value.slice none 0 0 → RepL G [.sl []] [v] → CallDone P f [v].toArray G.w (Ret G (.sr G.σ.length 1 0 0) (G.σ ++ [.row sz 1 0 []])) := fun v hv _ => by
              subst hv
              refine done_imp (h0.calls G [.snil] _ _ _ rfl inv hJ hg (.cons .snil .nil)) fun e w' he => ?_
              cases e with
              | panicked c => exact he.elim
              | outgrown => exact he.elim
              | returned u =>
                obtain ⟨G', rfl, hσ, x, inv', hr⟩ := he
                obtain ⟨H, e1, e2, x2, inv2, e3⟩ := grow_none inv' sz
                refine ⟨H, e1, by rw [e2, hσ], x.trans x2, inv2, ?_⟩
                cases hr
                rw [← hσ]
                exact .sr0 (sz := sz) ⟨.row sz 1 0 [], by rw [e2]; simp, Nat.le_refl _, rfl⟩ e3
            have otherwise_ : ∀ v, Rep G .sle v → CallDone P f [v].toArray G.w (Ret G (.sr G.σ.length 1 0 0) (G.σ ++ [.row sz 1 0 []])) := fun v hv =>
              h1.calls G [.sle] _ _ _ rfl inv hJ hg (.cons hv .nil)
            cases ht
            cases hv with
            | sl0 a cap h =>
              cases a with
              | none => have := h rfl; subst this; exact nilcase _ rfl (.cons (.sl0 none 0 h) .nil)
              | some a => exact otherwise_ _ (.sle a cap)
            | sl hl h => exact otherwise_ _ (.sle _ _)
        · cases hs
    · cases hs
end Go.Proofs.YtgpkochbmfhmdaaGreatDoor.Lift
namespace Go.Proofs.YtgpkochbmfhmdaaGreatDoor.Lift
open Go
set_option maxRecDepth 100000

/-- a type, out of the table -/
noncomputable def tyF (t : Nat) : Option TI := match tyList.lookup t with
  | some ti => some ti
  | none => tiOf Tryz.prog t
theorem lookup_mem' {α : Type} {j : Nat} {p : α} : ∀ {l : List (Nat × α)}, l.lookup j = some p → (j, p) ∈ l
  | [], h => by cases h
  | (k, q) :: r, h => by
    rw [List.lookup_cons] at h
    split at h
    · rename_i he
      have : j = k := by simpa using he
      cases h
      subst this
      simp
    · exact List.mem_cons_of_mem _ (lookup_mem' h)
theorem tyF_eq : tyF = tiOf Tryz.prog := by
  funext t
  unfold tyF
  split
  · rename_i ti h
    exact (tyList_ok _ (lookup_mem' h)).symm
  · rfl
noncomputable abbrev XF (E : Env) (B : List Nat) : Cfg := { T := tyF, E := E, G := gl, B := B }
theorem XF_eq (E : Env) (B : List Nat) : XF E B = XB E B := by
  unfold XF
  rw [tyF_eq]

/-- the classes above one, in so many steps at most -/
def aboveF (l : List AClass) : Nat → List Str → Str → List Str
  | 0, _, _ => []
  | n + 1, met, s => if superOf l s = [] ∨ superOf l s ∈ met then [] else superOf l s :: aboveF l n (met ++ [superOf l s]) (superOf l s)
theorem aboveF_eq (l : List AClass) : ∀ (n : Nat) (met : List Str) (s : Str), unmet l met < n → aboveF l n met s = aboveOf l met s
  | 0, _, _, h => by omega
  | n + 1, met, s, h => by
    unfold aboveF
    by_cases h1 : superOf l s = [] ∨ superOf l s ∈ met
    · rw [aboveOf_nil h1, if_pos h1]
    · have hlt := unmet_lt (fun e => h1 (.inl e)) (fun e => h1 (.inr e))
      rw [aboveOf_cons (fun e => h1 (.inl e)) (fun e => h1 (.inr e)), if_neg h1, aboveF_eq l n _ _ (by omega)]
def gAboveF (l : List AClass) (s : Str) : Option (List Str) := if l.length < 1099511627776 then some (aboveF l (l.length + 1) [s] s) else none
theorem p_AboveF : SoundP Tryz.prog gl 70 (fn2 (cL cClass) cStr (cL cStr).enc gAboveF) := by
  have h : gAboveF = fun l s => if l.length < 1099511627776 then some (aboveOf l [s] s) else none := by
    funext l s
    unfold gAboveF
    rw [aboveF_eq l _ _ _ (Nat.lt_succ_of_le (unmet_le l [s]))]
  rw [h]
  exact p_Above
noncomputable def baseF : Env := [(70, liftS 9 (fn2 (cL cClass) cStr (cL cStr).enc gAboveF)), (83, liftS 9 (fn1 cStr encBool fun s => if s.length < 1099511627776 then some (isClass s) else none)), (71, liftS 9 (fn1 cStr encSS fun s => if s.length < 1099511627776 then some (cut s) else none)), (39, liftS 9 (fn1 cStr encTyErr fun s => if s.length < 1099511627776 then some (parse s) else none)),
  (76, liftS 9 (fn1 (cL cTy) encInt fun l => if l.length < 1099511627776 then some (wide l) else none)), (57, liftS 9 (fn1 cStr encBool fun s => some (decide (s.head? = some 91)))), (108, liftS 9 (fn2 cStr cStr encSB fun s p => some (cutPrefix s p))), (148, liftS 9 (fn2 cStr cByte encInt fun s c => some (Lib.indexByte s c))),
  (160, sMake), (161, sW wU), (201, sW wS), (200, sBytes), (174, sW wLen), (175, sW wAllB)]
theorem ok_baseF : OkX Tryz.prog (XE baseF) := (((((((((((((okX_nil.add f_wAllB).add f_wLen).add f_wBytesR).add f_wS).add f_wU).add f_Make).addP p_IndexByteString).addP p_CutPrefix).addP p_array).addP p_kindWide).addP p_kindParse).addP p_cut).addP p_kindClass).addP p_AboveF
/-- one contract or the other -/
def orS (S T : Spec) : Spec := fun args st => match S args st with
  | some r => some r
  | none => T args st
theorem sound_orS {f : Nat} {S T : Spec} (h1 : SoundF Tryz.prog gl f S) (h2 : SoundF Tryz.prog gl f T) : SoundF Tryz.prog gl f (orS S T) where
  calls := fun G args vals r σ' hs inv hJ hg hargs => by
    unfold orS at hs
    split at hs
    · rename_i x hx
      cases hs
      exact h1.calls G args vals _ _ hx inv hJ hg hargs
    · exact h2.calls G args vals r σ' hs inv hJ hg hargs
/-- a clone of a slice without elements, of which it is not known whether it is nil -/
def sCloneR (sz : Nat) : Spec := fun args st => match args with
  | [.sr _ _ _ 0] => some (.sr st.length 1 0 0, st ++ [.row sz 1 0 []])
  | _ => none
theorem clone_sr0 {P : Program} {gl : Nat → Option AV} {J : Foe} {f sz : Nat} (h0 : SoundJ P gl J f sCloneNil) (h1 : SoundJ P gl J f (sCloneE sz)) : SoundJ P gl J f (sCloneR sz) where
  calls := fun G args vals r σ' hs inv hJ hg hargs => by
    unfold sCloneR at hs
    split at hs
    · cases hs
      cases hargs with
      | cons hv ht =>
        have nilcase : ∀ v, v = Value.slice none 0 0 → CallDone P f [v].toArray G.w (Ret G (.sr G.σ.length 1 0 0) (G.σ ++ [.row sz 1 0 []])) := fun v hv => by
          subst hv
          refine done_imp (h0.calls G [.snil] _ _ _ rfl inv hJ hg (.cons .snil .nil)) fun e w' he => ?_
          cases e with
          | panicked c => exact he.elim
          | outgrown => exact he.elim
          | returned u =>
            obtain ⟨G', rfl, hσ, x, inv', hr⟩ := he
            obtain ⟨H, e1, e2, x2, inv2, e3⟩ := grow_none inv' sz
            refine ⟨H, e1, by rw [e2, hσ], x.trans x2, inv2, ?_⟩
            cases hr
            rw [← hσ]
            exact .sr0 (sz := sz) ⟨.row sz 1 0 [], by rw [e2]; simp, Nat.le_refl _, rfl⟩ e3
        have otherwise_ : ∀ v, Rep G .sle v → CallDone P f [v].toArray G.w (Ret G (.sr G.σ.length 1 0 0) (G.σ ++ [.row sz 1 0 []])) := fun v hv =>
          h1.calls G [.sle] _ _ _ rfl inv hJ hg (.cons hv .nil)
        cases ht
        cases hv with
        | sr0 h hr => exact nilcase _ rfl
        | sr h hr hl hb hc => exact otherwise_ _ (.sle _ _)
        | srE h hr ho => exact otherwise_ _ (.sle _ _)
    · cases hs
theorem f_CloneT0 : SoundF Tryz.prog gl 68 (sCloneR 2) := by
  refine clone_sr0 (soundF_of_wk okX_nil mixed Tryz.func68 rfl rfl fun args st r st' h G0 => ?_) (soundF_of_wk okX_nil mixed Tryz.func68 rfl rfl fun args st r st' h G0 => ?_)
  · unfold sCloneNil at h
    split at h
    · cases h
      simp [Tryz.f68, entry]
    · cases h
  · unfold sCloneE at h
    split at h
    · cases h
      simp [Tryz.f68, entry]
    · cases h
/-- a pure contract out of a run, with types out of the table -/
theorem soundP_runF {E : Env} (B : List Nat) (ok : OkX Tryz.prog (XE E)) (m : Nat) {f : Nat} {fn : Func} (hf : Tryz.prog.funcs[f]? = some fn) (hb : fn.body.isSome = true) (hn : (fn.name == "runtime.NumGoroutine") = false) {g : List AV → Option AV}
    (h : ∀ args r, g args = some r → fz r = true ∧ ∃ st', runK (XF E B) m fn (fn.body.get hb) args [] = some (r, st')) : SoundP Tryz.prog gl f g :=
  soundP_run (ok.b B) m hf hb hn fun args r hr => by
    have := h args r hr
    rwa [XF_eq] at this
/-- does a run come to a value? -/
def comesTo (v : AV) : Option (AV × Sto) → Bool
  | some (r, _) => eqA r v
  | none => false
theorem comesTo_some {v : AV} {o : Option (AV × Sto)} (h : comesTo v o = true) : ∃ st', o = some (v, st') := by
  cases o with
  | none => cases h
  | some x => exact ⟨x.2, by rw [← eqA_eq (x := x.1) h]⟩
/-- what is said of some values alone -/
def atV (args : List AV) (v : AV) : List AV → Option AV := fun a => if eqAL a args = true then some v else none
theorem soundP_at {E : Env} (B : List Nat) (ok : OkX Tryz.prog (XE E)) (m : Nat) {f : Nat} {fn : Func} (hf : Tryz.prog.funcs[f]? = some fn) (hb : fn.body.isSome = true) (hn : (fn.name == "runtime.NumGoroutine") = false) {args : List AV} {v : AV} (hz : fz v = true)
    (h : comesTo v (runK (XF E B) m fn (fn.body.get hb) args []) = true) : SoundP Tryz.prog gl f (atV args v) :=
  soundP_runF B ok m hf hb hn fun a r hr => by
    simp only [atV, Option.ite_none_right_eq_some, Option.some.injEq] at hr
    obtain ⟨h1, rfl⟩ := hr
    rw [eqAL_eq h1]
    exact ⟨hz, comesTo_some h⟩
end Go.Proofs.YtgpkochbmfhmdaaGreatDoor.Lift
namespace Go.Proofs.YtgpkochbmfhmdaaGreatDoor.Lift
open Go
set_option maxRecDepth 100000

/-- the functions that are run, where they call those of E -/
noncomputable def stepLV (m : Nat) (E : Env) : Env :=
  (5, runS (XF E [8]) m Tryz.f5 (Tryz.f5.body.get rfl) true) ::
  (6, runS (XF E []) m Tryz.f6 (Tryz.f6.body.get rfl) true) ::
  (10, runS (XF E []) m Tryz.f10 (Tryz.f10.body.get rfl) true) ::
  (21, runS (XF E []) m Tryz.f21 (Tryz.f21.body.get rfl) false) ::
  (22, runS (XF E []) m Tryz.f22 (Tryz.f22.body.get rfl) false) ::
  (23, runS (XF E []) m Tryz.f23 (Tryz.f23.body.get rfl) true) ::
  (24, runS (XF E []) m Tryz.f24 (Tryz.f24.body.get rfl) false) ::
  (25, runS (XF E []) m Tryz.f25 (Tryz.f25.body.get rfl) true) ::
  (26, runS (XF E []) m Tryz.f26 (Tryz.f26.body.get rfl) true) ::
  (28, runS (XF E []) m Tryz.f28 (Tryz.f28.body.get rfl) false) ::
  (29, runS (XF E []) m Tryz.f29 (Tryz.f29.body.get rfl) true) ::
  (30, runS (XF E []) m Tryz.f30 (Tryz.f30.body.get rfl) true) ::
  (31, runS (XF E []) m Tryz.f31 (Tryz.f31.body.get rfl) true) ::
  (32, runS (XF E []) m Tryz.f32 (Tryz.f32.body.get rfl) true) ::
  (33, runS (XF E []) m Tryz.f33 (Tryz.f33.body.get rfl) true) ::
  (36, runS (XF E []) m Tryz.f36 (Tryz.f36.body.get rfl) false) ::
  (38, runS (XF E []) m Tryz.f38 (Tryz.f38.body.get rfl) false) ::
  (46, runS (XF E []) m Tryz.f46 (Tryz.f46.body.get rfl) false) ::
  (47, runS (XF E []) m Tryz.f47 (Tryz.f47.body.get rfl) true) ::
  (48, runS (XF E []) m Tryz.f48 (Tryz.f48.body.get rfl) true) ::
  (49, runS (XF E []) m Tryz.f49 (Tryz.f49.body.get rfl) true) ::
  (50, runS (XF E []) m Tryz.f50 (Tryz.f50.body.get rfl) true) ::
  (51, runS (XF E []) m Tryz.f51 (Tryz.f51.body.get rfl) true) ::
  (52, runS (XF E []) m Tryz.f52 (Tryz.f52.body.get rfl) true) ::
  (53, runS (XF E []) m Tryz.f53 (Tryz.f53.body.get rfl) true) ::
  (54, runS (XF E []) m Tryz.f54 (Tryz.f54.body.get rfl) true) ::
  (55, runS (XF E []) m Tryz.f55 (Tryz.f55.body.get rfl) true) ::
  (56, runS (XF E []) m Tryz.f56 (Tryz.f56.body.get rfl) false) ::
  (58, runS (XF E []) m Tryz.f58 (Tryz.f58.body.get rfl) false) ::
  (59, runS (XF E []) m Tryz.f59 (Tryz.f59.body.get rfl) false) ::
  (60, runS (XF E []) m Tryz.f60 (Tryz.f60.body.get rfl) true) ::
  (61, runS (XF E []) m Tryz.f61 (Tryz.f61.body.get rfl) true) ::
  (62, runS (XF E []) m Tryz.f62 (Tryz.f62.body.get rfl) false) ::
  (63, runS (XF E []) m Tryz.f63 (Tryz.f63.body.get rfl) false) ::
  (64, runS (XF E []) m Tryz.f64 (Tryz.f64.body.get rfl) false) ::
  (65, runS (XF E []) m Tryz.f65 (Tryz.f65.body.get rfl) false) ::
  (66, runS (XF E []) m Tryz.f66 (Tryz.f66.body.get rfl) false) ::
  (67, runS (XF E []) m Tryz.f67 (Tryz.f67.body.get rfl) false) ::
  (68, orS (sCloneR 2) (runS (XF E []) m Tryz.f68 (Tryz.f68.body.get rfl) false)) ::
  (72, runS (XF E []) m Tryz.f72 (Tryz.f72.body.get rfl) false) ::
  (73, runS (XF E []) m Tryz.f73 (Tryz.f73.body.get rfl) false) ::
  (79, runS (XF E []) m Tryz.f79 (Tryz.f79.body.get rfl) false) ::
  (84, runS (XF E []) m Tryz.f84 (Tryz.f84.body.get rfl) true) ::
  (85, runS (XF E []) m Tryz.f85 (Tryz.f85.body.get rfl) true) ::
  (86, runS (XF E []) m Tryz.f86 (Tryz.f86.body.get rfl) true) ::
  (87, runS (XF E []) m Tryz.f87 (Tryz.f87.body.get rfl) true) ::
  (88, runS (XF E []) m Tryz.f88 (Tryz.f88.body.get rfl) true) ::
  (89, runS (XF E []) m Tryz.f89 (Tryz.f89.body.get rfl) true) ::
  (90, runS (XF E []) m Tryz.f90 (Tryz.f90.body.get rfl) true) ::
  (91, runS (XF E []) m Tryz.f91 (Tryz.f91.body.get rfl) true) ::
  (92, runS (XF E []) m Tryz.f92 (Tryz.f92.body.get rfl) true) ::
  (93, runS (XF E []) m Tryz.f93 (Tryz.f93.body.get rfl) false) ::
  (94, runS (XF E []) m Tryz.f94 (Tryz.f94.body.get rfl) true) ::
  (95, runS (XF E []) m Tryz.f95 (Tryz.f95.body.get rfl) true) ::
  (96, runS (XF E []) m Tryz.f96 (Tryz.f96.body.get rfl) true) ::
  (97, runS (XF E []) m Tryz.f97 (Tryz.f97.body.get rfl) true) ::
  (98, runS (XF E []) m Tryz.f98 (Tryz.f98.body.get rfl) true) ::
  (99, runS (XF E []) m Tryz.f99 (Tryz.f99.body.get rfl) true) ::
  (100, runS (XF E []) m Tryz.f100 (Tryz.f100.body.get rfl) true) ::
  (101, runS (XF E []) m Tryz.f101 (Tryz.f101.body.get rfl) true) ::
  (102, runS (XF E []) m Tryz.f102 (Tryz.f102.body.get rfl) true) ::
  (103, runS (XF E []) m Tryz.f103 (Tryz.f103.body.get rfl) true) ::
  (104, runS (XF E []) m Tryz.f104 (Tryz.f104.body.get rfl) true) ::
  (109, runS (XF E []) m Tryz.f109 (Tryz.f109.body.get rfl) true) ::
  (111, runS (XF E []) m Tryz.f111 (Tryz.f111.body.get rfl) true) ::
  (112, runS (XF E []) m Tryz.f112 (Tryz.f112.body.get rfl) false) ::
  (115, runS (XF E []) m Tryz.f115 (Tryz.f115.body.get rfl) true) ::
  (116, runS (XF E []) m Tryz.f116 (Tryz.f116.body.get rfl) true) ::
  (117, runS (XF E []) m Tryz.f117 (Tryz.f117.body.get rfl) false) ::
  (118, runS (XF E []) m Tryz.f118 (Tryz.f118.body.get rfl) true) ::
  (119, runS (XF E []) m Tryz.f119 (Tryz.f119.body.get rfl) true) ::
  (120, runS (XF E []) m Tryz.f120 (Tryz.f120.body.get rfl) true) ::
  (126, runS (XF E []) m Tryz.f126 (Tryz.f126.body.get rfl) true) ::
  (128, runS (XF E []) m Tryz.f128 (Tryz.f128.body.get rfl) false) ::
  (129, runS (XF E [64]) m Tryz.f129 (Tryz.f129.body.get rfl) false) ::
  (130, runS (XF E []) m Tryz.f130 (Tryz.f130.body.get rfl) true) ::
  (131, runS (XF E []) m Tryz.f131 (Tryz.f131.body.get rfl) false) ::
  (132, runS (XF E [3]) m Tryz.f132 (Tryz.f132.body.get rfl) true) ::
  (136, runS (XF E [14, 17, 28, 38, 45, 58]) m Tryz.f136 (Tryz.f136.body.get rfl) false) ::
  (137, runS (XF E []) m Tryz.f137 (Tryz.f137.body.get rfl) false) ::
  (138, runS (XF E []) m Tryz.f138 (Tryz.f138.body.get rfl) true) ::
  (139, runS (XF E []) m Tryz.f139 (Tryz.f139.body.get rfl) false) ::
  (140, runS (XF E []) m Tryz.f140 (Tryz.f140.body.get rfl) true) ::
  (141, runS (XF E []) m Tryz.f141 (Tryz.f141.body.get rfl) false) ::
  (142, runS (XF E []) m Tryz.f142 (Tryz.f142.body.get rfl) true) ::
  (143, runS (XF E []) m Tryz.f143 (Tryz.f143.body.get rfl) true) ::
  (144, runS (XF E []) m Tryz.f144 (Tryz.f144.body.get rfl) true) ::
  (149, runS (XF E []) m Tryz.f149 (Tryz.f149.body.get rfl) true) ::
  (150, runS (XF E []) m Tryz.f150 (Tryz.f150.body.get rfl) true) ::
  (151, runS (XF E []) m Tryz.f151 (Tryz.f151.body.get rfl) true) ::
  (152, runS (XF E []) m Tryz.f152 (Tryz.f152.body.get rfl) true) ::
  (153, runS (XF E []) m Tryz.f153 (Tryz.f153.body.get rfl) false) ::
  (154, runS (XF E []) m Tryz.f154 (Tryz.f154.body.get rfl) true) ::
  (155, runS (XF E []) m Tryz.f155 (Tryz.f155.body.get rfl) true) ::
  (156, runS (XF E []) m Tryz.f156 (Tryz.f156.body.get rfl) false) ::
  (157, runS (XF E []) m Tryz.f157 (Tryz.f157.body.get rfl) true) ::
  (158, runS (XF E []) m Tryz.f158 (Tryz.f158.body.get rfl) true) ::
  (162, runS (XF E []) m Tryz.f162 (Tryz.f162.body.get rfl) true) ::
  (163, runS (XF E [17, 31, 40, 48, 60, 67, 74]) m Tryz.f163 (Tryz.f163.body.get rfl) true) ::
  (164, runS (XF E []) m Tryz.f164 (Tryz.f164.body.get rfl) true) ::
  (165, runS (XF E [24]) m Tryz.f165 (Tryz.f165.body.get rfl) true) ::
  (166, runS (XF E [12, 23]) m Tryz.f166 (Tryz.f166.body.get rfl) true) ::
  (167, runS (XF E []) m Tryz.f167 (Tryz.f167.body.get rfl) true) ::
  (168, runS (XF E []) m Tryz.f168 (Tryz.f168.body.get rfl) true) ::
  (169, runS (XF E [24]) m Tryz.f169 (Tryz.f169.body.get rfl) true) ::
  (170, runS (XF E [13, 24]) m Tryz.f170 (Tryz.f170.body.get rfl) true) ::
  (171, runS (XF E []) m Tryz.f171 (Tryz.f171.body.get rfl) false) ::
  (172, runS (XF E [32, 39, 58, 61]) m Tryz.f172 (Tryz.f172.body.get rfl) true) ::
  (173, runS (XF E [20]) m Tryz.f173 (Tryz.f173.body.get rfl) true) ::
  (176, runS (XF E []) m Tryz.f176 (Tryz.f176.body.get rfl) true) ::
  (177, runS (XF E []) m Tryz.f177 (Tryz.f177.body.get rfl) true) ::
  (178, runS (XF E []) m Tryz.f178 (Tryz.f178.body.get rfl) true) ::
  (179, runS (XF E []) m Tryz.f179 (Tryz.f179.body.get rfl) true) ::
  (180, runS (XF E [7, 11, 21, 25, 32]) m Tryz.f180 (Tryz.f180.body.get rfl) true) ::
  (181, runS (XF E []) m Tryz.f181 (Tryz.f181.body.get rfl) true) ::
  (182, runS (XF E []) m Tryz.f182 (Tryz.f182.body.get rfl) false) ::
  (183, runS (XF E []) m Tryz.f183 (Tryz.f183.body.get rfl) true) ::
  (184, runS (XF E []) m Tryz.f184 (Tryz.f184.body.get rfl) true) ::
  (187, runS (XF E []) m Tryz.f187 (Tryz.f187.body.get rfl) true) ::
  (188, runS (XF E []) m Tryz.f188 (Tryz.f188.body.get rfl) false) ::
  (189, runS (XF E []) m Tryz.f189 (Tryz.f189.body.get rfl) true) ::
  (190, runS (XF E []) m Tryz.f190 (Tryz.f190.body.get rfl) true) ::
  (191, runS (XF E []) m Tryz.f191 (Tryz.f191.body.get rfl) true) ::
  (192, runS (XF E []) m Tryz.f192 (Tryz.f192.body.get rfl) true) ::
  (193, runS (XF E []) m Tryz.f193 (Tryz.f193.body.get rfl) true) ::
  (194, runS (XF E [26, 36, 45, 58, 69, 103, 115, 126, 138, 147, 153, 158, 166, 176]) m Tryz.f194 (Tryz.f194.body.get rfl) true) ::
  (195, runS (XF E [41]) m Tryz.f195 (Tryz.f195.body.get rfl) true) ::
  (196, runS (XF E [56, 64, 71, 102, 109, 126, 132, 149, 155, 166, 180]) m Tryz.f196 (Tryz.f196.body.get rfl) true) ::
  (197, runS (XF E []) m Tryz.f197 (Tryz.f197.body.get rfl) true) ::
  (202, runS (XF E [18]) m Tryz.f202 (Tryz.f202.body.get rfl) true) ::
  (203, runS (XF E []) m Tryz.f203 (Tryz.f203.body.get rfl) true) ::
  (204, runS (XF E []) m Tryz.f204 (Tryz.f204.body.get rfl) true) ::
  (205, runS (XF E [24]) m Tryz.f205 (Tryz.f205.body.get rfl) true) ::
  (206, runS (XF E [44]) m Tryz.f206 (Tryz.f206.body.get rfl) true) ::
  (207, runS (XF E []) m Tryz.f207 (Tryz.f207.body.get rfl) true) ::
  (209, runS (XF E []) m Tryz.f209 (Tryz.f209.body.get rfl) true) ::
  (210, runS (XF E []) m Tryz.f210 (Tryz.f210.body.get rfl) true) ::
  (211, runS (XF E []) m Tryz.f211 (Tryz.f211.body.get rfl) true) ::
  (212, runS (XF E []) m Tryz.f212 (Tryz.f212.body.get rfl) true) ::
  (213, runS (XF E []) m Tryz.f213 (Tryz.f213.body.get rfl) true) ::
  (214, runS (XF E []) m Tryz.f214 (Tryz.f214.body.get rfl) true) ::
  (216, runS (XF E []) m Tryz.f216 (Tryz.f216.body.get rfl) true) ::
  (218, runS (XF E []) m Tryz.f218 (Tryz.f218.body.get rfl) true) ::
  (219, runS (XF E [14]) m Tryz.f219 (Tryz.f219.body.get rfl) true) ::
  (220, runS (XF E []) m Tryz.f220 (Tryz.f220.body.get rfl) false) ::
  (221, runS (XF E []) m Tryz.f221 (Tryz.f221.body.get rfl) true) ::
  (222, runS (XF E []) m Tryz.f222 (Tryz.f222.body.get rfl) false) ::
  (223, runS (XF E []) m Tryz.f223 (Tryz.f223.body.get rfl) true) ::
  (224, runS (XF E []) m Tryz.f224 (Tryz.f224.body.get rfl) true) ::
  (225, runS (XF E []) m Tryz.f225 (Tryz.f225.body.get rfl) false) ::
  (226, runS (XF E []) m Tryz.f226 (Tryz.f226.body.get rfl) true) ::
  (227, runS (XF E []) m Tryz.f227 (Tryz.f227.body.get rfl) true) ::
  (228, runS (XF E []) m Tryz.f228 (Tryz.f228.body.get rfl) true) ::
  (229, runS (XF E []) m Tryz.f229 (Tryz.f229.body.get rfl) true) ::
  (230, runS (XF E []) m Tryz.f230 (Tryz.f230.body.get rfl) true) ::
  (231, runS (XF E [8]) m Tryz.f231 (Tryz.f231.body.get rfl) true) ::
  (232, runS (XF E []) m Tryz.f232 (Tryz.f232.body.get rfl) false) ::
  (233, runS (XF E []) m Tryz.f233 (Tryz.f233.body.get rfl) false) ::
  (234, runS (XF E []) m Tryz.f234 (Tryz.f234.body.get rfl) false) ::
  (235, runS (XF E []) m Tryz.f235 (Tryz.f235.body.get rfl) true) ::
  (236, runS (XF E []) m Tryz.f236 (Tryz.f236.body.get rfl) true) ::
  (237, runS (XF E []) m Tryz.f237 (Tryz.f237.body.get rfl) false) ::
  (238, runS (XF E []) m Tryz.f238 (Tryz.f238.body.get rfl) false) ::
  (239, runS (XF E []) m Tryz.f239 (Tryz.f239.body.get rfl) true) ::
  (243, runS (XF E []) m Tryz.f243 (Tryz.f243.body.get rfl) true) ::
  (244, runS (XF E [24]) m Tryz.f244 (Tryz.f244.body.get rfl) true) ::
  (245, runS (XF E [23, 31]) m Tryz.f245 (Tryz.f245.body.get rfl) true) ::
  (246, runS (XF E [24]) m Tryz.f246 (Tryz.f246.body.get rfl) true) ::
  (247, runS (XF E []) m Tryz.f247 (Tryz.f247.body.get rfl) false) ::
  (248, runS (XF E [36]) m Tryz.f248 (Tryz.f248.body.get rfl) true) ::
  (249, runS (XF E []) m Tryz.f249 (Tryz.f249.body.get rfl) true) ::
  (250, runS (XF E []) m Tryz.f250 (Tryz.f250.body.get rfl) false) ::
  (251, runS (XF E []) m Tryz.f251 (Tryz.f251.body.get rfl) true) ::
  (252, runS (XF E []) m Tryz.f252 (Tryz.f252.body.get rfl) true) ::
  (253, runS (XF E []) m Tryz.f253 (Tryz.f253.body.get rfl) true) ::
  (254, runS (XF E []) m Tryz.f254 (Tryz.f254.body.get rfl) true) ::
  baseF
theorem ok_stepLV (m : Nat) {E : Env} (ok : OkX Tryz.prog (XE E)) : OkX Tryz.prog (XE (stepLV m E)) := by
  unfold stepLV
  simp only [XF_eq]
  have h0 := ok_baseF
  have h1 := h0.add (sound_runS (B := []) (ok.b []) m true Tryz.func254 rfl rfl)
  have h2 := h1.add (sound_runS (B := []) (ok.b []) m true Tryz.func253 rfl rfl)
  have h3 := h2.add (sound_runS (B := []) (ok.b []) m true Tryz.func252 rfl rfl)
  have h4 := h3.add (sound_runS (B := []) (ok.b []) m true Tryz.func251 rfl rfl)
  have h5 := h4.add (sound_runS (B := []) (ok.b []) m false Tryz.func250 rfl rfl)
  have h6 := h5.add (sound_runS (B := []) (ok.b []) m true Tryz.func249 rfl rfl)
  have h7 := h6.add (sound_runS (B := [36]) (ok.b [36]) m true Tryz.func248 rfl rfl)
  have h8 := h7.add (sound_runS (B := []) (ok.b []) m false Tryz.func247 rfl rfl)
  have h9 := h8.add (sound_runS (B := [24]) (ok.b [24]) m true Tryz.func246 rfl rfl)
  have h10 := h9.add (sound_runS (B := [23, 31]) (ok.b [23, 31]) m true Tryz.func245 rfl rfl)
  have h11 := h10.add (sound_runS (B := [24]) (ok.b [24]) m true Tryz.func244 rfl rfl)
  have h12 := h11.add (sound_runS (B := []) (ok.b []) m true Tryz.func243 rfl rfl)
  have h13 := h12.add (sound_runS (B := []) (ok.b []) m true Tryz.func239 rfl rfl)
  have h14 := h13.add (sound_runS (B := []) (ok.b []) m false Tryz.func238 rfl rfl)
  have h15 := h14.add (sound_runS (B := []) (ok.b []) m false Tryz.func237 rfl rfl)
  have h16 := h15.add (sound_runS (B := []) (ok.b []) m true Tryz.func236 rfl rfl)
  have h17 := h16.add (sound_runS (B := []) (ok.b []) m true Tryz.func235 rfl rfl)
  have h18 := h17.add (sound_runS (B := []) (ok.b []) m false Tryz.func234 rfl rfl)
  have h19 := h18.add (sound_runS (B := []) (ok.b []) m false Tryz.func233 rfl rfl)
  have h20 := h19.add (sound_runS (B := []) (ok.b []) m false Tryz.func232 rfl rfl)
  have h21 := h20.add (sound_runS (B := [8]) (ok.b [8]) m true Tryz.func231 rfl rfl)
  have h22 := h21.add (sound_runS (B := []) (ok.b []) m true Tryz.func230 rfl rfl)
  have h23 := h22.add (sound_runS (B := []) (ok.b []) m true Tryz.func229 rfl rfl)
  have h24 := h23.add (sound_runS (B := []) (ok.b []) m true Tryz.func228 rfl rfl)
  have h25 := h24.add (sound_runS (B := []) (ok.b []) m true Tryz.func227 rfl rfl)
  have h26 := h25.add (sound_runS (B := []) (ok.b []) m true Tryz.func226 rfl rfl)
  have h27 := h26.add (sound_runS (B := []) (ok.b []) m false Tryz.func225 rfl rfl)
  have h28 := h27.add (sound_runS (B := []) (ok.b []) m true Tryz.func224 rfl rfl)
  have h29 := h28.add (sound_runS (B := []) (ok.b []) m true Tryz.func223 rfl rfl)
  have h30 := h29.add (sound_runS (B := []) (ok.b []) m false Tryz.func222 rfl rfl)
  have h31 := h30.add (sound_runS (B := []) (ok.b []) m true Tryz.func221 rfl rfl)
  have h32 := h31.add (sound_runS (B := []) (ok.b []) m false Tryz.func220 rfl rfl)
  have h33 := h32.add (sound_runS (B := [14]) (ok.b [14]) m true Tryz.func219 rfl rfl)
  have h34 := h33.add (sound_runS (B := []) (ok.b []) m true Tryz.func218 rfl rfl)
  have h35 := h34.add (sound_runS (B := []) (ok.b []) m true Tryz.func216 rfl rfl)
  have h36 := h35.add (sound_runS (B := []) (ok.b []) m true Tryz.func214 rfl rfl)
  have h37 := h36.add (sound_runS (B := []) (ok.b []) m true Tryz.func213 rfl rfl)
  have h38 := h37.add (sound_runS (B := []) (ok.b []) m true Tryz.func212 rfl rfl)
  have h39 := h38.add (sound_runS (B := []) (ok.b []) m true Tryz.func211 rfl rfl)
  have h40 := h39.add (sound_runS (B := []) (ok.b []) m true Tryz.func210 rfl rfl)
  have h41 := h40.add (sound_runS (B := []) (ok.b []) m true Tryz.func209 rfl rfl)
  have h42 := h41.add (sound_runS (B := []) (ok.b []) m true Tryz.func207 rfl rfl)
  have h43 := h42.add (sound_runS (B := [44]) (ok.b [44]) m true Tryz.func206 rfl rfl)
  have h44 := h43.add (sound_runS (B := [24]) (ok.b [24]) m true Tryz.func205 rfl rfl)
  have h45 := h44.add (sound_runS (B := []) (ok.b []) m true Tryz.func204 rfl rfl)
  have h46 := h45.add (sound_runS (B := []) (ok.b []) m true Tryz.func203 rfl rfl)
  have h47 := h46.add (sound_runS (B := [18]) (ok.b [18]) m true Tryz.func202 rfl rfl)
  have h48 := h47.add (sound_runS (B := []) (ok.b []) m true Tryz.func197 rfl rfl)
  have h49 := h48.add (sound_runS (B := [56, 64, 71, 102, 109, 126, 132, 149, 155, 166, 180]) (ok.b [56, 64, 71, 102, 109, 126, 132, 149, 155, 166, 180]) m true Tryz.func196 rfl rfl)
  have h50 := h49.add (sound_runS (B := [41]) (ok.b [41]) m true Tryz.func195 rfl rfl)
  have h51 := h50.add (sound_runS (B := [26, 36, 45, 58, 69, 103, 115, 126, 138, 147, 153, 158, 166, 176]) (ok.b [26, 36, 45, 58, 69, 103, 115, 126, 138, 147, 153, 158, 166, 176]) m true Tryz.func194 rfl rfl)
  have h52 := h51.add (sound_runS (B := []) (ok.b []) m true Tryz.func193 rfl rfl)
  have h53 := h52.add (sound_runS (B := []) (ok.b []) m true Tryz.func192 rfl rfl)
  have h54 := h53.add (sound_runS (B := []) (ok.b []) m true Tryz.func191 rfl rfl)
  have h55 := h54.add (sound_runS (B := []) (ok.b []) m true Tryz.func190 rfl rfl)
  have h56 := h55.add (sound_runS (B := []) (ok.b []) m true Tryz.func189 rfl rfl)
  have h57 := h56.add (sound_runS (B := []) (ok.b []) m false Tryz.func188 rfl rfl)
  have h58 := h57.add (sound_runS (B := []) (ok.b []) m true Tryz.func187 rfl rfl)
  have h59 := h58.add (sound_runS (B := []) (ok.b []) m true Tryz.func184 rfl rfl)
  have h60 := h59.add (sound_runS (B := []) (ok.b []) m true Tryz.func183 rfl rfl)
  have h61 := h60.add (sound_runS (B := []) (ok.b []) m false Tryz.func182 rfl rfl)
  have h62 := h61.add (sound_runS (B := []) (ok.b []) m true Tryz.func181 rfl rfl)
  have h63 := h62.add (sound_runS (B := [7, 11, 21, 25, 32]) (ok.b [7, 11, 21, 25, 32]) m true Tryz.func180 rfl rfl)
  have h64 := h63.add (sound_runS (B := []) (ok.b []) m true Tryz.func179 rfl rfl)
  have h65 := h64.add (sound_runS (B := []) (ok.b []) m true Tryz.func178 rfl rfl)
  have h66 := h65.add (sound_runS (B := []) (ok.b []) m true Tryz.func177 rfl rfl)
  have h67 := h66.add (sound_runS (B := []) (ok.b []) m true Tryz.func176 rfl rfl)
  have h68 := h67.add (sound_runS (B := [20]) (ok.b [20]) m true Tryz.func173 rfl rfl)
  have h69 := h68.add (sound_runS (B := [32, 39, 58, 61]) (ok.b [32, 39, 58, 61]) m true Tryz.func172 rfl rfl)
  have h70 := h69.add (sound_runS (B := []) (ok.b []) m false Tryz.func171 rfl rfl)
  have h71 := h70.add (sound_runS (B := [13, 24]) (ok.b [13, 24]) m true Tryz.func170 rfl rfl)
  have h72 := h71.add (sound_runS (B := [24]) (ok.b [24]) m true Tryz.func169 rfl rfl)
  have h73 := h72.add (sound_runS (B := []) (ok.b []) m true Tryz.func168 rfl rfl)
  have h74 := h73.add (sound_runS (B := []) (ok.b []) m true Tryz.func167 rfl rfl)
  have h75 := h74.add (sound_runS (B := [12, 23]) (ok.b [12, 23]) m true Tryz.func166 rfl rfl)
  have h76 := h75.add (sound_runS (B := [24]) (ok.b [24]) m true Tryz.func165 rfl rfl)
  have h77 := h76.add (sound_runS (B := []) (ok.b []) m true Tryz.func164 rfl rfl)
  have h78 := h77.add (sound_runS (B := [17, 31, 40, 48, 60, 67, 74]) (ok.b [17, 31, 40, 48, 60, 67, 74]) m true Tryz.func163 rfl rfl)
  have h79 := h78.add (sound_runS (B := []) (ok.b []) m true Tryz.func162 rfl rfl)
  have h80 := h79.add (sound_runS (B := []) (ok.b []) m true Tryz.func158 rfl rfl)
  have h81 := h80.add (sound_runS (B := []) (ok.b []) m true Tryz.func157 rfl rfl)
  have h82 := h81.add (sound_runS (B := []) (ok.b []) m false Tryz.func156 rfl rfl)
  have h83 := h82.add (sound_runS (B := []) (ok.b []) m true Tryz.func155 rfl rfl)
  have h84 := h83.add (sound_runS (B := []) (ok.b []) m true Tryz.func154 rfl rfl)
  have h85 := h84.add (sound_runS (B := []) (ok.b []) m false Tryz.func153 rfl rfl)
  have h86 := h85.add (sound_runS (B := []) (ok.b []) m true Tryz.func152 rfl rfl)
  have h87 := h86.add (sound_runS (B := []) (ok.b []) m true Tryz.func151 rfl rfl)
  have h88 := h87.add (sound_runS (B := []) (ok.b []) m true Tryz.func150 rfl rfl)
  have h89 := h88.add (sound_runS (B := []) (ok.b []) m true Tryz.func149 rfl rfl)
  have h90 := h89.add (sound_runS (B := []) (ok.b []) m true Tryz.func144 rfl rfl)
  have h91 := h90.add (sound_runS (B := []) (ok.b []) m true Tryz.func143 rfl rfl)
  have h92 := h91.add (sound_runS (B := []) (ok.b []) m true Tryz.func142 rfl rfl)
  have h93 := h92.add (sound_runS (B := []) (ok.b []) m false Tryz.func141 rfl rfl)
  have h94 := h93.add (sound_runS (B := []) (ok.b []) m true Tryz.func140 rfl rfl)
  have h95 := h94.add (sound_runS (B := []) (ok.b []) m false Tryz.func139 rfl rfl)
  have h96 := h95.add (sound_runS (B := []) (ok.b []) m true Tryz.func138 rfl rfl)
  have h97 := h96.add (sound_runS (B := []) (ok.b []) m false Tryz.func137 rfl rfl)
  have h98 := h97.add (sound_runS (B := [14, 17, 28, 38, 45, 58]) (ok.b [14, 17, 28, 38, 45, 58]) m false Tryz.func136 rfl rfl)
  have h99 := h98.add (sound_runS (B := [3]) (ok.b [3]) m true Tryz.func132 rfl rfl)
  have h100 := h99.add (sound_runS (B := []) (ok.b []) m false Tryz.func131 rfl rfl)
  have h101 := h100.add (sound_runS (B := []) (ok.b []) m true Tryz.func130 rfl rfl)
  have h102 := h101.add (sound_runS (B := [64]) (ok.b [64]) m false Tryz.func129 rfl rfl)
  have h103 := h102.add (sound_runS (B := []) (ok.b []) m false Tryz.func128 rfl rfl)
  have h104 := h103.add (sound_runS (B := []) (ok.b []) m true Tryz.func126 rfl rfl)
  have h105 := h104.add (sound_runS (B := []) (ok.b []) m true Tryz.func120 rfl rfl)
  have h106 := h105.add (sound_runS (B := []) (ok.b []) m true Tryz.func119 rfl rfl)
  have h107 := h106.add (sound_runS (B := []) (ok.b []) m true Tryz.func118 rfl rfl)
  have h108 := h107.add (sound_runS (B := []) (ok.b []) m false Tryz.func117 rfl rfl)
  have h109 := h108.add (sound_runS (B := []) (ok.b []) m true Tryz.func116 rfl rfl)
  have h110 := h109.add (sound_runS (B := []) (ok.b []) m true Tryz.func115 rfl rfl)
  have h111 := h110.add (sound_runS (B := []) (ok.b []) m false Tryz.func112 rfl rfl)
  have h112 := h111.add (sound_runS (B := []) (ok.b []) m true Tryz.func111 rfl rfl)
  have h113 := h112.add (sound_runS (B := []) (ok.b []) m true Tryz.func109 rfl rfl)
  have h114 := h113.add (sound_runS (B := []) (ok.b []) m true Tryz.func104 rfl rfl)
  have h115 := h114.add (sound_runS (B := []) (ok.b []) m true Tryz.func103 rfl rfl)
  have h116 := h115.add (sound_runS (B := []) (ok.b []) m true Tryz.func102 rfl rfl)
  have h117 := h116.add (sound_runS (B := []) (ok.b []) m true Tryz.func101 rfl rfl)
  have h118 := h117.add (sound_runS (B := []) (ok.b []) m true Tryz.func100 rfl rfl)
  have h119 := h118.add (sound_runS (B := []) (ok.b []) m true Tryz.func99 rfl rfl)
  have h120 := h119.add (sound_runS (B := []) (ok.b []) m true Tryz.func98 rfl rfl)
  have h121 := h120.add (sound_runS (B := []) (ok.b []) m true Tryz.func97 rfl rfl)
  have h122 := h121.add (sound_runS (B := []) (ok.b []) m true Tryz.func96 rfl rfl)
  have h123 := h122.add (sound_runS (B := []) (ok.b []) m true Tryz.func95 rfl rfl)
  have h124 := h123.add (sound_runS (B := []) (ok.b []) m true Tryz.func94 rfl rfl)
  have h125 := h124.add (sound_runS (B := []) (ok.b []) m false Tryz.func93 rfl rfl)
  have h126 := h125.add (sound_runS (B := []) (ok.b []) m true Tryz.func92 rfl rfl)
  have h127 := h126.add (sound_runS (B := []) (ok.b []) m true Tryz.func91 rfl rfl)
  have h128 := h127.add (sound_runS (B := []) (ok.b []) m true Tryz.func90 rfl rfl)
  have h129 := h128.add (sound_runS (B := []) (ok.b []) m true Tryz.func89 rfl rfl)
  have h130 := h129.add (sound_runS (B := []) (ok.b []) m true Tryz.func88 rfl rfl)
  have h131 := h130.add (sound_runS (B := []) (ok.b []) m true Tryz.func87 rfl rfl)
  have h132 := h131.add (sound_runS (B := []) (ok.b []) m true Tryz.func86 rfl rfl)
  have h133 := h132.add (sound_runS (B := []) (ok.b []) m true Tryz.func85 rfl rfl)
  have h134 := h133.add (sound_runS (B := []) (ok.b []) m true Tryz.func84 rfl rfl)
  have h135 := h134.add (sound_runS (B := []) (ok.b []) m false Tryz.func79 rfl rfl)
  have h136 := h135.add (sound_runS (B := []) (ok.b []) m false Tryz.func73 rfl rfl)
  have h137 := h136.add (sound_runS (B := []) (ok.b []) m false Tryz.func72 rfl rfl)
  have h138 := h137.add (sound_orS f_CloneT0 (sound_runS (B := []) (ok.b []) m false Tryz.func68 rfl rfl))
  have h139 := h138.add (sound_runS (B := []) (ok.b []) m false Tryz.func67 rfl rfl)
  have h140 := h139.add (sound_runS (B := []) (ok.b []) m false Tryz.func66 rfl rfl)
  have h141 := h140.add (sound_runS (B := []) (ok.b []) m false Tryz.func65 rfl rfl)
  have h142 := h141.add (sound_runS (B := []) (ok.b []) m false Tryz.func64 rfl rfl)
  have h143 := h142.add (sound_runS (B := []) (ok.b []) m false Tryz.func63 rfl rfl)
  have h144 := h143.add (sound_runS (B := []) (ok.b []) m false Tryz.func62 rfl rfl)
  have h145 := h144.add (sound_runS (B := []) (ok.b []) m true Tryz.func61 rfl rfl)
  have h146 := h145.add (sound_runS (B := []) (ok.b []) m true Tryz.func60 rfl rfl)
  have h147 := h146.add (sound_runS (B := []) (ok.b []) m false Tryz.func59 rfl rfl)
  have h148 := h147.add (sound_runS (B := []) (ok.b []) m false Tryz.func58 rfl rfl)
  have h149 := h148.add (sound_runS (B := []) (ok.b []) m false Tryz.func56 rfl rfl)
  have h150 := h149.add (sound_runS (B := []) (ok.b []) m true Tryz.func55 rfl rfl)
  have h151 := h150.add (sound_runS (B := []) (ok.b []) m true Tryz.func54 rfl rfl)
  have h152 := h151.add (sound_runS (B := []) (ok.b []) m true Tryz.func53 rfl rfl)
  have h153 := h152.add (sound_runS (B := []) (ok.b []) m true Tryz.func52 rfl rfl)
  have h154 := h153.add (sound_runS (B := []) (ok.b []) m true Tryz.func51 rfl rfl)
  have h155 := h154.add (sound_runS (B := []) (ok.b []) m true Tryz.func50 rfl rfl)
  have h156 := h155.add (sound_runS (B := []) (ok.b []) m true Tryz.func49 rfl rfl)
  have h157 := h156.add (sound_runS (B := []) (ok.b []) m true Tryz.func48 rfl rfl)
  have h158 := h157.add (sound_runS (B := []) (ok.b []) m true Tryz.func47 rfl rfl)
  have h159 := h158.add (sound_runS (B := []) (ok.b []) m false Tryz.func46 rfl rfl)
  have h160 := h159.add (sound_runS (B := []) (ok.b []) m false Tryz.func38 rfl rfl)
  have h161 := h160.add (sound_runS (B := []) (ok.b []) m false Tryz.func36 rfl rfl)
  have h162 := h161.add (sound_runS (B := []) (ok.b []) m true Tryz.func33 rfl rfl)
  have h163 := h162.add (sound_runS (B := []) (ok.b []) m true Tryz.func32 rfl rfl)
  have h164 := h163.add (sound_runS (B := []) (ok.b []) m true Tryz.func31 rfl rfl)
  have h165 := h164.add (sound_runS (B := []) (ok.b []) m true Tryz.func30 rfl rfl)
  have h166 := h165.add (sound_runS (B := []) (ok.b []) m true Tryz.func29 rfl rfl)
  have h167 := h166.add (sound_runS (B := []) (ok.b []) m false Tryz.func28 rfl rfl)
  have h168 := h167.add (sound_runS (B := []) (ok.b []) m true Tryz.func26 rfl rfl)
  have h169 := h168.add (sound_runS (B := []) (ok.b []) m true Tryz.func25 rfl rfl)
  have h170 := h169.add (sound_runS (B := []) (ok.b []) m false Tryz.func24 rfl rfl)
  have h171 := h170.add (sound_runS (B := []) (ok.b []) m true Tryz.func23 rfl rfl)
  have h172 := h171.add (sound_runS (B := []) (ok.b []) m false Tryz.func22 rfl rfl)
  have h173 := h172.add (sound_runS (B := []) (ok.b []) m false Tryz.func21 rfl rfl)
  have h174 := h173.add (sound_runS (B := []) (ok.b []) m true Tryz.func10 rfl rfl)
  have h175 := h174.add (sound_runS (B := []) (ok.b []) m true Tryz.func6 rfl rfl)
  have h176 := h175.add (sound_runS (B := [8]) (ok.b [8]) m true Tryz.func5 rfl rfl)
  exact h176
noncomputable def envLV (m : Nat) : Nat → Env
  | 0 => baseF
  | d + 1 => stepLV m (envLV m d)
theorem ok_envLV (m : Nat) : ∀ d, OkX Tryz.prog (XE (envLV m d))
  | 0 => ok_baseF
  | d + 1 => ok_stepLV m (ok_envLV m d)
end Go.Proofs.YtgpkochbmfhmdaaGreatDoor.Lift
namespace Go.Proofs.YtgpkochbmfhmdaaGreatDoor.Lift
open Go
set_option maxRecDepth 100000

/-- larchlaw13's main -/
def mainC : AClass := ⟨[⟨0, [], 0, 0, 0⟩, ⟨1, [77, 97, 105, 110], 0, 0, 0⟩, ⟨7, [], 0, 1, 0⟩, ⟨1, [109, 97, 105, 110], 0, 0, 0⟩, ⟨1, [40, 41, 86], 0, 0, 0⟩, ⟨1, [67, 111, 100, 101], 0, 0, 0⟩, ⟨1, [79, 98, 106, 101, 99, 116], 0, 0, 0⟩, ⟨7, [], 0, 6, 0⟩], [77, 97, 105, 110], [79, 98, 106, 101, 99, 116], [], [⟨8, [109, 97, 105, 110], [40, 41, 86], ⟨0, 0, [177], [], []⟩⟩]⟩
theorem run_checkMain : comesTo (.int .i64 0) (runK (XF (envLV 400 30) []) 400 Tryz.f115 (Tryz.f115.body.get rfl) [encClass mainC] []) = true := by kernel_rfl
theorem p_checkMain : SoundP Tryz.prog gl 115 (atV [encClass mainC] (.int .i64 0)) := soundP_at [] (ok_envLV 400 30) 400 Tryz.func115 rfl rfl rfl run_checkMain
noncomputable def baseG : Env := (115, liftS 9 (atV [encClass mainC] (.int .i64 0))) :: baseF
theorem ok_baseG : OkX Tryz.prog (XE baseG) := ok_baseF.addP p_checkMain
end Go.Proofs.YtgpkochbmfhmdaaGreatDoor.Lift
namespace Go.Proofs.YtgpkochbmfhmdaaGreatDoor.Lift
open Go
set_option maxRecDepth 100000

/-- the functions that are run, where they call those of E -/
noncomputable def stepLW (m : Nat) (E : Env) : Env :=
  (5, runS (XF E [8]) m Tryz.f5 (Tryz.f5.body.get rfl) true) ::
  (6, runS (XF E []) m Tryz.f6 (Tryz.f6.body.get rfl) true) ::
  (10, runS (XF E []) m Tryz.f10 (Tryz.f10.body.get rfl) true) ::
  (21, runS (XF E []) m Tryz.f21 (Tryz.f21.body.get rfl) false) ::
  (22, runS (XF E []) m Tryz.f22 (Tryz.f22.body.get rfl) false) ::
  (23, runS (XF E []) m Tryz.f23 (Tryz.f23.body.get rfl) true) ::
  (24, runS (XF E []) m Tryz.f24 (Tryz.f24.body.get rfl) false) ::
  (25, runS (XF E []) m Tryz.f25 (Tryz.f25.body.get rfl) true) ::
  (26, runS (XF E []) m Tryz.f26 (Tryz.f26.body.get rfl) true) ::
  (28, runS (XF E []) m Tryz.f28 (Tryz.f28.body.get rfl) false) ::
  (29, runS (XF E []) m Tryz.f29 (Tryz.f29.body.get rfl) true) ::
  (30, runS (XF E []) m Tryz.f30 (Tryz.f30.body.get rfl) true) ::
  (31, runS (XF E []) m Tryz.f31 (Tryz.f31.body.get rfl) true) ::
  (32, runS (XF E []) m Tryz.f32 (Tryz.f32.body.get rfl) true) ::
  (33, runS (XF E []) m Tryz.f33 (Tryz.f33.body.get rfl) true) ::
  (36, runS (XF E []) m Tryz.f36 (Tryz.f36.body.get rfl) false) ::
  (38, runS (XF E []) m Tryz.f38 (Tryz.f38.body.get rfl) false) ::
  (46, runS (XF E []) m Tryz.f46 (Tryz.f46.body.get rfl) false) ::
  (47, runS (XF E []) m Tryz.f47 (Tryz.f47.body.get rfl) true) ::
  (48, runS (XF E []) m Tryz.f48 (Tryz.f48.body.get rfl) true) ::
  (49, runS (XF E []) m Tryz.f49 (Tryz.f49.body.get rfl) true) ::
  (50, runS (XF E []) m Tryz.f50 (Tryz.f50.body.get rfl) true) ::
  (51, runS (XF E []) m Tryz.f51 (Tryz.f51.body.get rfl) true) ::
  (52, runS (XF E []) m Tryz.f52 (Tryz.f52.body.get rfl) true) ::
  (53, runS (XF E []) m Tryz.f53 (Tryz.f53.body.get rfl) true) ::
  (54, runS (XF E []) m Tryz.f54 (Tryz.f54.body.get rfl) true) ::
  (55, runS (XF E []) m Tryz.f55 (Tryz.f55.body.get rfl) true) ::
  (56, runS (XF E []) m Tryz.f56 (Tryz.f56.body.get rfl) false) ::
  (58, runS (XF E []) m Tryz.f58 (Tryz.f58.body.get rfl) false) ::
  (59, runS (XF E []) m Tryz.f59 (Tryz.f59.body.get rfl) false) ::
  (60, runS (XF E []) m Tryz.f60 (Tryz.f60.body.get rfl) true) ::
  (61, runS (XF E []) m Tryz.f61 (Tryz.f61.body.get rfl) true) ::
  (62, runS (XF E []) m Tryz.f62 (Tryz.f62.body.get rfl) false) ::
  (63, runS (XF E []) m Tryz.f63 (Tryz.f63.body.get rfl) false) ::
  (64, runS (XF E []) m Tryz.f64 (Tryz.f64.body.get rfl) false) ::
  (65, runS (XF E []) m Tryz.f65 (Tryz.f65.body.get rfl) false) ::
  (66, runS (XF E []) m Tryz.f66 (Tryz.f66.body.get rfl) false) ::
  (67, runS (XF E []) m Tryz.f67 (Tryz.f67.body.get rfl) false) ::
  (68, orS (sCloneR 2) (runS (XF E []) m Tryz.f68 (Tryz.f68.body.get rfl) false)) ::
  (72, runS (XF E []) m Tryz.f72 (Tryz.f72.body.get rfl) false) ::
  (73, runS (XF E []) m Tryz.f73 (Tryz.f73.body.get rfl) false) ::
  (79, runS (XF E []) m Tryz.f79 (Tryz.f79.body.get rfl) false) ::
  (84, runS (XF E []) m Tryz.f84 (Tryz.f84.body.get rfl) true) ::
  (85, runS (XF E []) m Tryz.f85 (Tryz.f85.body.get rfl) true) ::
  (86, runS (XF E []) m Tryz.f86 (Tryz.f86.body.get rfl) true) ::
  (87, runS (XF E []) m Tryz.f87 (Tryz.f87.body.get rfl) true) ::
  (88, runS (XF E []) m Tryz.f88 (Tryz.f88.body.get rfl) true) ::
  (89, runS (XF E []) m Tryz.f89 (Tryz.f89.body.get rfl) true) ::
  (90, runS (XF E []) m Tryz.f90 (Tryz.f90.body.get rfl) true) ::
  (91, runS (XF E []) m Tryz.f91 (Tryz.f91.body.get rfl) true) ::
  (92, runS (XF E []) m Tryz.f92 (Tryz.f92.body.get rfl) true) ::
  (93, runS (XF E []) m Tryz.f93 (Tryz.f93.body.get rfl) false) ::
  (94, runS (XF E []) m Tryz.f94 (Tryz.f94.body.get rfl) true) ::
  (95, runS (XF E []) m Tryz.f95 (Tryz.f95.body.get rfl) true) ::
  (96, runS (XF E []) m Tryz.f96 (Tryz.f96.body.get rfl) true) ::
  (97, runS (XF E []) m Tryz.f97 (Tryz.f97.body.get rfl) true) ::
  (98, runS (XF E []) m Tryz.f98 (Tryz.f98.body.get rfl) true) ::
  (99, runS (XF E []) m Tryz.f99 (Tryz.f99.body.get rfl) true) ::
  (100, runS (XF E []) m Tryz.f100 (Tryz.f100.body.get rfl) true) ::
  (101, runS (XF E []) m Tryz.f101 (Tryz.f101.body.get rfl) true) ::
  (102, runS (XF E []) m Tryz.f102 (Tryz.f102.body.get rfl) true) ::
  (103, runS (XF E []) m Tryz.f103 (Tryz.f103.body.get rfl) true) ::
  (104, runS (XF E []) m Tryz.f104 (Tryz.f104.body.get rfl) true) ::
  (109, runS (XF E []) m Tryz.f109 (Tryz.f109.body.get rfl) true) ::
  (111, runS (XF E []) m Tryz.f111 (Tryz.f111.body.get rfl) true) ::
  (112, runS (XF E []) m Tryz.f112 (Tryz.f112.body.get rfl) false) ::
  (116, runS (XF E []) m Tryz.f116 (Tryz.f116.body.get rfl) true) ::
  (117, runS (XF E []) m Tryz.f117 (Tryz.f117.body.get rfl) false) ::
  (118, runS (XF E []) m Tryz.f118 (Tryz.f118.body.get rfl) true) ::
  (119, runS (XF E []) m Tryz.f119 (Tryz.f119.body.get rfl) true) ::
  (120, runS (XF E []) m Tryz.f120 (Tryz.f120.body.get rfl) true) ::
  (126, runS (XF E []) m Tryz.f126 (Tryz.f126.body.get rfl) true) ::
  (128, runS (XF E []) m Tryz.f128 (Tryz.f128.body.get rfl) false) ::
  (129, runS (XF E [64]) m Tryz.f129 (Tryz.f129.body.get rfl) false) ::
  (130, runS (XF E []) m Tryz.f130 (Tryz.f130.body.get rfl) true) ::
  (131, runS (XF E []) m Tryz.f131 (Tryz.f131.body.get rfl) false) ::
  (132, runS (XF E [3]) m Tryz.f132 (Tryz.f132.body.get rfl) true) ::
  (137, runS (XF E []) m Tryz.f137 (Tryz.f137.body.get rfl) false) ::
  (138, runS (XF E []) m Tryz.f138 (Tryz.f138.body.get rfl) true) ::
  (139, runS (XF E []) m Tryz.f139 (Tryz.f139.body.get rfl) false) ::
  (140, runS (XF E []) m Tryz.f140 (Tryz.f140.body.get rfl) true) ::
  (141, runS (XF E []) m Tryz.f141 (Tryz.f141.body.get rfl) false) ::
  (142, runS (XF E []) m Tryz.f142 (Tryz.f142.body.get rfl) true) ::
  (143, runS (XF E []) m Tryz.f143 (Tryz.f143.body.get rfl) true) ::
  (144, runS (XF E []) m Tryz.f144 (Tryz.f144.body.get rfl) true) ::
  (149, runS (XF E []) m Tryz.f149 (Tryz.f149.body.get rfl) true) ::
  (150, runS (XF E []) m Tryz.f150 (Tryz.f150.body.get rfl) true) ::
  (151, runS (XF E []) m Tryz.f151 (Tryz.f151.body.get rfl) true) ::
  (152, runS (XF E []) m Tryz.f152 (Tryz.f152.body.get rfl) true) ::
  (153, runS (XF E []) m Tryz.f153 (Tryz.f153.body.get rfl) false) ::
  (154, runS (XF E []) m Tryz.f154 (Tryz.f154.body.get rfl) true) ::
  (155, runS (XF E []) m Tryz.f155 (Tryz.f155.body.get rfl) true) ::
  (156, runS (XF E []) m Tryz.f156 (Tryz.f156.body.get rfl) false) ::
  (157, runS (XF E []) m Tryz.f157 (Tryz.f157.body.get rfl) true) ::
  (158, runS (XF E []) m Tryz.f158 (Tryz.f158.body.get rfl) true) ::
  (176, runS (XF E []) m Tryz.f176 (Tryz.f176.body.get rfl) true) ::
  (177, runS (XF E []) m Tryz.f177 (Tryz.f177.body.get rfl) true) ::
  (178, runS (XF E []) m Tryz.f178 (Tryz.f178.body.get rfl) true) ::
  (179, runS (XF E []) m Tryz.f179 (Tryz.f179.body.get rfl) true) ::
  (180, runS (XF E [7, 11, 21, 25, 32]) m Tryz.f180 (Tryz.f180.body.get rfl) true) ::
  (181, runS (XF E []) m Tryz.f181 (Tryz.f181.body.get rfl) true) ::
  (182, runS (XF E []) m Tryz.f182 (Tryz.f182.body.get rfl) false) ::
  (183, runS (XF E []) m Tryz.f183 (Tryz.f183.body.get rfl) true) ::
  (184, runS (XF E []) m Tryz.f184 (Tryz.f184.body.get rfl) true) ::
  (187, runS (XF E []) m Tryz.f187 (Tryz.f187.body.get rfl) true) ::
  (188, runS (XF E []) m Tryz.f188 (Tryz.f188.body.get rfl) false) ::
  (189, runS (XF E []) m Tryz.f189 (Tryz.f189.body.get rfl) true) ::
  (190, runS (XF E []) m Tryz.f190 (Tryz.f190.body.get rfl) true) ::
  (191, runS (XF E []) m Tryz.f191 (Tryz.f191.body.get rfl) true) ::
  (192, runS (XF E []) m Tryz.f192 (Tryz.f192.body.get rfl) true) ::
  (193, runS (XF E []) m Tryz.f193 (Tryz.f193.body.get rfl) true) ::
  (194, runS (XF E [26, 36, 45, 58, 69, 103, 115, 126, 138, 147, 153, 158, 166, 176]) m Tryz.f194 (Tryz.f194.body.get rfl) true) ::
  (195, runS (XF E [41]) m Tryz.f195 (Tryz.f195.body.get rfl) true) ::
  (196, runS (XF E [56, 64, 71, 102, 109, 126, 132, 149, 155, 166, 180]) m Tryz.f196 (Tryz.f196.body.get rfl) true) ::
  (197, runS (XF E []) m Tryz.f197 (Tryz.f197.body.get rfl) true) ::
  (209, runS (XF E []) m Tryz.f209 (Tryz.f209.body.get rfl) true) ::
  (210, runS (XF E []) m Tryz.f210 (Tryz.f210.body.get rfl) true) ::
  (211, runS (XF E []) m Tryz.f211 (Tryz.f211.body.get rfl) true) ::
  (212, runS (XF E []) m Tryz.f212 (Tryz.f212.body.get rfl) true) ::
  (213, runS (XF E []) m Tryz.f213 (Tryz.f213.body.get rfl) true) ::
  (214, runS (XF E []) m Tryz.f214 (Tryz.f214.body.get rfl) true) ::
  (216, runS (XF E []) m Tryz.f216 (Tryz.f216.body.get rfl) true) ::
  (218, runS (XF E []) m Tryz.f218 (Tryz.f218.body.get rfl) true) ::
  (219, runS (XF E [14]) m Tryz.f219 (Tryz.f219.body.get rfl) true) ::
  (220, runS (XF E []) m Tryz.f220 (Tryz.f220.body.get rfl) false) ::
  (221, runS (XF E []) m Tryz.f221 (Tryz.f221.body.get rfl) true) ::
  (222, runS (XF E []) m Tryz.f222 (Tryz.f222.body.get rfl) false) ::
  (223, runS (XF E []) m Tryz.f223 (Tryz.f223.body.get rfl) true) ::
  (224, runS (XF E []) m Tryz.f224 (Tryz.f224.body.get rfl) true) ::
  (225, runS (XF E []) m Tryz.f225 (Tryz.f225.body.get rfl) false) ::
  (226, runS (XF E []) m Tryz.f226 (Tryz.f226.body.get rfl) true) ::
  (227, runS (XF E []) m Tryz.f227 (Tryz.f227.body.get rfl) true) ::
  (228, runS (XF E []) m Tryz.f228 (Tryz.f228.body.get rfl) true) ::
  (229, runS (XF E []) m Tryz.f229 (Tryz.f229.body.get rfl) true) ::
  (230, runS (XF E []) m Tryz.f230 (Tryz.f230.body.get rfl) true) ::
  (231, runS (XF E [8]) m Tryz.f231 (Tryz.f231.body.get rfl) true) ::
  (232, runS (XF E []) m Tryz.f232 (Tryz.f232.body.get rfl) false) ::
  (233, runS (XF E []) m Tryz.f233 (Tryz.f233.body.get rfl) false) ::
  (234, runS (XF E []) m Tryz.f234 (Tryz.f234.body.get rfl) false) ::
  (235, runS (XF E []) m Tryz.f235 (Tryz.f235.body.get rfl) true) ::
  (236, runS (XF E []) m Tryz.f236 (Tryz.f236.body.get rfl) true) ::
  (237, runS (XF E []) m Tryz.f237 (Tryz.f237.body.get rfl) false) ::
  (238, runS (XF E []) m Tryz.f238 (Tryz.f238.body.get rfl) false) ::
  (239, runS (XF E []) m Tryz.f239 (Tryz.f239.body.get rfl) true) ::
  (249, runS (XF E []) m Tryz.f249 (Tryz.f249.body.get rfl) true) ::
  (250, runS (XF E []) m Tryz.f250 (Tryz.f250.body.get rfl) false) ::
  (251, runS (XF E []) m Tryz.f251 (Tryz.f251.body.get rfl) true) ::
  (252, runS (XF E []) m Tryz.f252 (Tryz.f252.body.get rfl) true) ::
  (253, runS (XF E []) m Tryz.f253 (Tryz.f253.body.get rfl) true) ::
  (254, runS (XF E []) m Tryz.f254 (Tryz.f254.body.get rfl) true) ::
  baseG
theorem ok_stepLW (m : Nat) {E : Env} (ok : OkX Tryz.prog (XE E)) : OkX Tryz.prog (XE (stepLW m E)) := by
  unfold stepLW
  simp only [XF_eq]
  have h0 := ok_baseG
  have h1 := h0.add (sound_runS (B := []) (ok.b []) m true Tryz.func254 rfl rfl)
  have h2 := h1.add (sound_runS (B := []) (ok.b []) m true Tryz.func253 rfl rfl)
  have h3 := h2.add (sound_runS (B := []) (ok.b []) m true Tryz.func252 rfl rfl)
  have h4 := h3.add (sound_runS (B := []) (ok.b []) m true Tryz.func251 rfl rfl)
  have h5 := h4.add (sound_runS (B := []) (ok.b []) m false Tryz.func250 rfl rfl)
  have h6 := h5.add (sound_runS (B := []) (ok.b []) m true Tryz.func249 rfl rfl)
  have h7 := h6.add (sound_runS (B := []) (ok.b []) m true Tryz.func239 rfl rfl)
  have h8 := h7.add (sound_runS (B := []) (ok.b []) m false Tryz.func238 rfl rfl)
  have h9 := h8.add (sound_runS (B := []) (ok.b []) m false Tryz.func237 rfl rfl)
  have h10 := h9.add (sound_runS (B := []) (ok.b []) m true Tryz.func236 rfl rfl)
  have h11 := h10.add (sound_runS (B := []) (ok.b []) m true Tryz.func235 rfl rfl)
  have h12 := h11.add (sound_runS (B := []) (ok.b []) m false Tryz.func234 rfl rfl)
  have h13 := h12.add (sound_runS (B := []) (ok.b []) m false Tryz.func233 rfl rfl)
  have h14 := h13.add (sound_runS (B := []) (ok.b []) m false Tryz.func232 rfl rfl)
  have h15 := h14.add (sound_runS (B := [8]) (ok.b [8]) m true Tryz.func231 rfl rfl)
  have h16 := h15.add (sound_runS (B := []) (ok.b []) m true Tryz.func230 rfl rfl)
  have h17 := h16.add (sound_runS (B := []) (ok.b []) m true Tryz.func229 rfl rfl)
  have h18 := h17.add (sound_runS (B := []) (ok.b []) m true Tryz.func228 rfl rfl)
  have h19 := h18.add (sound_runS (B := []) (ok.b []) m true Tryz.func227 rfl rfl)
  have h20 := h19.add (sound_runS (B := []) (ok.b []) m true Tryz.func226 rfl rfl)
  have h21 := h20.add (sound_runS (B := []) (ok.b []) m false Tryz.func225 rfl rfl)
  have h22 := h21.add (sound_runS (B := []) (ok.b []) m true Tryz.func224 rfl rfl)
  have h23 := h22.add (sound_runS (B := []) (ok.b []) m true Tryz.func223 rfl rfl)
  have h24 := h23.add (sound_runS (B := []) (ok.b []) m false Tryz.func222 rfl rfl)
  have h25 := h24.add (sound_runS (B := []) (ok.b []) m true Tryz.func221 rfl rfl)
  have h26 := h25.add (sound_runS (B := []) (ok.b []) m false Tryz.func220 rfl rfl)
  have h27 := h26.add (sound_runS (B := [14]) (ok.b [14]) m true Tryz.func219 rfl rfl)
  have h28 := h27.add (sound_runS (B := []) (ok.b []) m true Tryz.func218 rfl rfl)
  have h29 := h28.add (sound_runS (B := []) (ok.b []) m true Tryz.func216 rfl rfl)
  have h30 := h29.add (sound_runS (B := []) (ok.b []) m true Tryz.func214 rfl rfl)
  have h31 := h30.add (sound_runS (B := []) (ok.b []) m true Tryz.func213 rfl rfl)
  have h32 := h31.add (sound_runS (B := []) (ok.b []) m true Tryz.func212 rfl rfl)
  have h33 := h32.add (sound_runS (B := []) (ok.b []) m true Tryz.func211 rfl rfl)
  have h34 := h33.add (sound_runS (B := []) (ok.b []) m true Tryz.func210 rfl rfl)
  have h35 := h34.add (sound_runS (B := []) (ok.b []) m true Tryz.func209 rfl rfl)
  have h36 := h35.add (sound_runS (B := []) (ok.b []) m true Tryz.func197 rfl rfl)
  have h37 := h36.add (sound_runS (B := [56, 64, 71, 102, 109, 126, 132, 149, 155, 166, 180]) (ok.b [56, 64, 71, 102, 109, 126, 132, 149, 155, 166, 180]) m true Tryz.func196 rfl rfl)
  have h38 := h37.add (sound_runS (B := [41]) (ok.b [41]) m true Tryz.func195 rfl rfl)
  have h39 := h38.add (sound_runS (B := [26, 36, 45, 58, 69, 103, 115, 126, 138, 147, 153, 158, 166, 176]) (ok.b [26, 36, 45, 58, 69, 103, 115, 126, 138, 147, 153, 158, 166, 176]) m true Tryz.func194 rfl rfl)
  have h40 := h39.add (sound_runS (B := []) (ok.b []) m true Tryz.func193 rfl rfl)
  have h41 := h40.add (sound_runS (B := []) (ok.b []) m true Tryz.func192 rfl rfl)
  have h42 := h41.add (sound_runS (B := []) (ok.b []) m true Tryz.func191 rfl rfl)
  have h43 := h42.add (sound_runS (B := []) (ok.b []) m true Tryz.func190 rfl rfl)
  have h44 := h43.add (sound_runS (B := []) (ok.b []) m true Tryz.func189 rfl rfl)
  have h45 := h44.add (sound_runS (B := []) (ok.b []) m false Tryz.func188 rfl rfl)
  have h46 := h45.add (sound_runS (B := []) (ok.b []) m true Tryz.func187 rfl rfl)
  have h47 := h46.add (sound_runS (B := []) (ok.b []) m true Tryz.func184 rfl rfl)
  have h48 := h47.add (sound_runS (B := []) (ok.b []) m true Tryz.func183 rfl rfl)
  have h49 := h48.add (sound_runS (B := []) (ok.b []) m false Tryz.func182 rfl rfl)
  have h50 := h49.add (sound_runS (B := []) (ok.b []) m true Tryz.func181 rfl rfl)
  have h51 := h50.add (sound_runS (B := [7, 11, 21, 25, 32]) (ok.b [7, 11, 21, 25, 32]) m true Tryz.func180 rfl rfl)
  have h52 := h51.add (sound_runS (B := []) (ok.b []) m true Tryz.func179 rfl rfl)
  have h53 := h52.add (sound_runS (B := []) (ok.b []) m true Tryz.func178 rfl rfl)
  have h54 := h53.add (sound_runS (B := []) (ok.b []) m true Tryz.func177 rfl rfl)
  have h55 := h54.add (sound_runS (B := []) (ok.b []) m true Tryz.func176 rfl rfl)
  have h56 := h55.add (sound_runS (B := []) (ok.b []) m true Tryz.func158 rfl rfl)
  have h57 := h56.add (sound_runS (B := []) (ok.b []) m true Tryz.func157 rfl rfl)
  have h58 := h57.add (sound_runS (B := []) (ok.b []) m false Tryz.func156 rfl rfl)
  have h59 := h58.add (sound_runS (B := []) (ok.b []) m true Tryz.func155 rfl rfl)
  have h60 := h59.add (sound_runS (B := []) (ok.b []) m true Tryz.func154 rfl rfl)
  have h61 := h60.add (sound_runS (B := []) (ok.b []) m false Tryz.func153 rfl rfl)
  have h62 := h61.add (sound_runS (B := []) (ok.b []) m true Tryz.func152 rfl rfl)
  have h63 := h62.add (sound_runS (B := []) (ok.b []) m true Tryz.func151 rfl rfl)
  have h64 := h63.add (sound_runS (B := []) (ok.b []) m true Tryz.func150 rfl rfl)
  have h65 := h64.add (sound_runS (B := []) (ok.b []) m true Tryz.func149 rfl rfl)
  have h66 := h65.add (sound_runS (B := []) (ok.b []) m true Tryz.func144 rfl rfl)
  have h67 := h66.add (sound_runS (B := []) (ok.b []) m true Tryz.func143 rfl rfl)
  have h68 := h67.add (sound_runS (B := []) (ok.b []) m true Tryz.func142 rfl rfl)
  have h69 := h68.add (sound_runS (B := []) (ok.b []) m false Tryz.func141 rfl rfl)
  have h70 := h69.add (sound_runS (B := []) (ok.b []) m true Tryz.func140 rfl rfl)
  have h71 := h70.add (sound_runS (B := []) (ok.b []) m false Tryz.func139 rfl rfl)
  have h72 := h71.add (sound_runS (B := []) (ok.b []) m true Tryz.func138 rfl rfl)
  have h73 := h72.add (sound_runS (B := []) (ok.b []) m false Tryz.func137 rfl rfl)
  have h74 := h73.add (sound_runS (B := [3]) (ok.b [3]) m true Tryz.func132 rfl rfl)
  have h75 := h74.add (sound_runS (B := []) (ok.b []) m false Tryz.func131 rfl rfl)
  have h76 := h75.add (sound_runS (B := []) (ok.b []) m true Tryz.func130 rfl rfl)
  have h77 := h76.add (sound_runS (B := [64]) (ok.b [64]) m false Tryz.func129 rfl rfl)
  have h78 := h77.add (sound_runS (B := []) (ok.b []) m false Tryz.func128 rfl rfl)
  have h79 := h78.add (sound_runS (B := []) (ok.b []) m true Tryz.func126 rfl rfl)
  have h80 := h79.add (sound_runS (B := []) (ok.b []) m true Tryz.func120 rfl rfl)
  have h81 := h80.add (sound_runS (B := []) (ok.b []) m true Tryz.func119 rfl rfl)
  have h82 := h81.add (sound_runS (B := []) (ok.b []) m true Tryz.func118 rfl rfl)
  have h83 := h82.add (sound_runS (B := []) (ok.b []) m false Tryz.func117 rfl rfl)
  have h84 := h83.add (sound_runS (B := []) (ok.b []) m true Tryz.func116 rfl rfl)
  have h85 := h84.add (sound_runS (B := []) (ok.b []) m false Tryz.func112 rfl rfl)
  have h86 := h85.add (sound_runS (B := []) (ok.b []) m true Tryz.func111 rfl rfl)
  have h87 := h86.add (sound_runS (B := []) (ok.b []) m true Tryz.func109 rfl rfl)
  have h88 := h87.add (sound_runS (B := []) (ok.b []) m true Tryz.func104 rfl rfl)
  have h89 := h88.add (sound_runS (B := []) (ok.b []) m true Tryz.func103 rfl rfl)
  have h90 := h89.add (sound_runS (B := []) (ok.b []) m true Tryz.func102 rfl rfl)
  have h91 := h90.add (sound_runS (B := []) (ok.b []) m true Tryz.func101 rfl rfl)
  have h92 := h91.add (sound_runS (B := []) (ok.b []) m true Tryz.func100 rfl rfl)
  have h93 := h92.add (sound_runS (B := []) (ok.b []) m true Tryz.func99 rfl rfl)
  have h94 := h93.add (sound_runS (B := []) (ok.b []) m true Tryz.func98 rfl rfl)
  have h95 := h94.add (sound_runS (B := []) (ok.b []) m true Tryz.func97 rfl rfl)
  have h96 := h95.add (sound_runS (B := []) (ok.b []) m true Tryz.func96 rfl rfl)
  have h97 := h96.add (sound_runS (B := []) (ok.b []) m true Tryz.func95 rfl rfl)
  have h98 := h97.add (sound_runS (B := []) (ok.b []) m true Tryz.func94 rfl rfl)
  have h99 := h98.add (sound_runS (B := []) (ok.b []) m false Tryz.func93 rfl rfl)
  have h100 := h99.add (sound_runS (B := []) (ok.b []) m true Tryz.func92 rfl rfl)
  have h101 := h100.add (sound_runS (B := []) (ok.b []) m true Tryz.func91 rfl rfl)
  have h102 := h101.add (sound_runS (B := []) (ok.b []) m true Tryz.func90 rfl rfl)
  have h103 := h102.add (sound_runS (B := []) (ok.b []) m true Tryz.func89 rfl rfl)
  have h104 := h103.add (sound_runS (B := []) (ok.b []) m true Tryz.func88 rfl rfl)
  have h105 := h104.add (sound_runS (B := []) (ok.b []) m true Tryz.func87 rfl rfl)
  have h106 := h105.add (sound_runS (B := []) (ok.b []) m true Tryz.func86 rfl rfl)
  have h107 := h106.add (sound_runS (B := []) (ok.b []) m true Tryz.func85 rfl rfl)
  have h108 := h107.add (sound_runS (B := []) (ok.b []) m true Tryz.func84 rfl rfl)
  have h109 := h108.add (sound_runS (B := []) (ok.b []) m false Tryz.func79 rfl rfl)
  have h110 := h109.add (sound_runS (B := []) (ok.b []) m false Tryz.func73 rfl rfl)
  have h111 := h110.add (sound_runS (B := []) (ok.b []) m false Tryz.func72 rfl rfl)
  have h112 := h111.add (sound_orS f_CloneT0 (sound_runS (B := []) (ok.b []) m false Tryz.func68 rfl rfl))
  have h113 := h112.add (sound_runS (B := []) (ok.b []) m false Tryz.func67 rfl rfl)
  have h114 := h113.add (sound_runS (B := []) (ok.b []) m false Tryz.func66 rfl rfl)
  have h115 := h114.add (sound_runS (B := []) (ok.b []) m false Tryz.func65 rfl rfl)
  have h116 := h115.add (sound_runS (B := []) (ok.b []) m false Tryz.func64 rfl rfl)
  have h117 := h116.add (sound_runS (B := []) (ok.b []) m false Tryz.func63 rfl rfl)
  have h118 := h117.add (sound_runS (B := []) (ok.b []) m false Tryz.func62 rfl rfl)
  have h119 := h118.add (sound_runS (B := []) (ok.b []) m true Tryz.func61 rfl rfl)
  have h120 := h119.add (sound_runS (B := []) (ok.b []) m true Tryz.func60 rfl rfl)
  have h121 := h120.add (sound_runS (B := []) (ok.b []) m false Tryz.func59 rfl rfl)
  have h122 := h121.add (sound_runS (B := []) (ok.b []) m false Tryz.func58 rfl rfl)
  have h123 := h122.add (sound_runS (B := []) (ok.b []) m false Tryz.func56 rfl rfl)
  have h124 := h123.add (sound_runS (B := []) (ok.b []) m true Tryz.func55 rfl rfl)
  have h125 := h124.add (sound_runS (B := []) (ok.b []) m true Tryz.func54 rfl rfl)
  have h126 := h125.add (sound_runS (B := []) (ok.b []) m true Tryz.func53 rfl rfl)
  have h127 := h126.add (sound_runS (B := []) (ok.b []) m true Tryz.func52 rfl rfl)
  have h128 := h127.add (sound_runS (B := []) (ok.b []) m true Tryz.func51 rfl rfl)
  have h129 := h128.add (sound_runS (B := []) (ok.b []) m true Tryz.func50 rfl rfl)
  have h130 := h129.add (sound_runS (B := []) (ok.b []) m true Tryz.func49 rfl rfl)
  have h131 := h130.add (sound_runS (B := []) (ok.b []) m true Tryz.func48 rfl rfl)
  have h132 := h131.add (sound_runS (B := []) (ok.b []) m true Tryz.func47 rfl rfl)
  have h133 := h132.add (sound_runS (B := []) (ok.b []) m false Tryz.func46 rfl rfl)
  have h134 := h133.add (sound_runS (B := []) (ok.b []) m false Tryz.func38 rfl rfl)
  have h135 := h134.add (sound_runS (B := []) (ok.b []) m false Tryz.func36 rfl rfl)
  have h136 := h135.add (sound_runS (B := []) (ok.b []) m true Tryz.func33 rfl rfl)
  have h137 := h136.add (sound_runS (B := []) (ok.b []) m true Tryz.func32 rfl rfl)
  have h138 := h137.add (sound_runS (B := []) (ok.b []) m true Tryz.func31 rfl rfl)
  have h139 := h138.add (sound_runS (B := []) (ok.b []) m true Tryz.func30 rfl rfl)
  have h140 := h139.add (sound_runS (B := []) (ok.b []) m true Tryz.func29 rfl rfl)
  have h141 := h140.add (sound_runS (B := []) (ok.b []) m false Tryz.func28 rfl rfl)
  have h142 := h141.add (sound_runS (B := []) (ok.b []) m true Tryz.func26 rfl rfl)
  have h143 := h142.add (sound_runS (B := []) (ok.b []) m true Tryz.func25 rfl rfl)
  have h144 := h143.add (sound_runS (B := []) (ok.b []) m false Tryz.func24 rfl rfl)
  have h145 := h144.add (sound_runS (B := []) (ok.b []) m true Tryz.func23 rfl rfl)
  have h146 := h145.add (sound_runS (B := []) (ok.b []) m false Tryz.func22 rfl rfl)
  have h147 := h146.add (sound_runS (B := []) (ok.b []) m false Tryz.func21 rfl rfl)
  have h148 := h147.add (sound_runS (B := []) (ok.b []) m true Tryz.func10 rfl rfl)
  have h149 := h148.add (sound_runS (B := []) (ok.b []) m true Tryz.func6 rfl rfl)
  have h150 := h149.add (sound_runS (B := [8]) (ok.b [8]) m true Tryz.func5 rfl rfl)
  exact h150
noncomputable def envLW (m : Nat) : Nat → Env
  | 0 => baseG
  | d + 1 => stepLW m (envLW m d)
theorem ok_envLW (m : Nat) : ∀ d, OkX Tryz.prog (XE (envLW m d))
  | 0 => ok_baseG
  | d + 1 => ok_stepLW m (ok_envLW m d)
end Go.Proofs.YtgpkochbmfhmdaaGreatDoor.Lift
namespace Go.Proofs.YtgpkochbmfhmdaaGreatDoor.Lift
open Go
set_option maxRecDepth 100000

/-- the house's classes -/
def houseC : List AClass := [⟨[], [79, 98, 106, 101, 99, 116], [], [], []⟩, ⟨[], [84, 104, 114, 111, 119, 97, 98, 108, 101], [79, 98, 106, 101, 99, 116], [], []⟩, ⟨[], [65, 114, 105, 116, 104, 109, 101, 116, 105, 99], [84, 104, 114, 111, 119, 97, 98, 108, 101], [], []⟩, ⟨[], [78, 117, 108, 108], [84, 104, 114, 111, 119, 97, 98, 108, 101], [], []⟩, ⟨[], [73, 110, 100, 101, 120], [84, 104, 114, 111, 119, 97, 98, 108, 101], [], []⟩, ⟨[], [78, 101, 103, 97, 116, 105, 118, 101], [84, 104, 114, 111, 119, 97, 98, 108, 101], [], []⟩, ⟨[], [67, 97, 115, 116], [84, 104, 114, 111, 119, 97, 98, 108, 101], [], []⟩, ⟨[], [83, 116, 111, 114, 101], [84, 104, 114, 111, 119, 97, 98, 108, 101], [], []⟩, ⟨[], [77, 111, 110, 105, 116, 111, 114], [84, 104, 114, 111, 119, 97, 98, 108, 101], [], []⟩, ⟨[], [115, 121, 115], [79, 98, 106, 101, 99, 116], [], []⟩]
theorem run_verifyMain : comesTo (.tup [.int .i64 1, .int .i64 0]) (runK (XF (envLW 400 30) []) 400 Tryz.f92 (Tryz.f92.body.get rfl) [encL encClass (houseC ++ [mainC]), encClass mainC] []) = true := by kernel_rfl
theorem p_verifyMain : SoundP Tryz.prog gl 92 (atV [encL encClass (houseC ++ [mainC]), encClass mainC] (.tup [.int .i64 1, .int .i64 0])) := soundP_at [] (ok_envLW 400 30) 400 Tryz.func92 rfl rfl rfl run_verifyMain
noncomputable def baseH : Env := (92, liftS 9 (atV [encL encClass (houseC ++ [mainC]), encClass mainC] (.tup [.int .i64 1, .int .i64 0]))) :: baseF
theorem ok_baseH : OkX Tryz.prog (XE baseH) := ok_baseF.addP p_verifyMain
end Go.Proofs.YtgpkochbmfhmdaaGreatDoor.Lift
namespace Go.Proofs.YtgpkochbmfhmdaaGreatDoor.Lift
open Go
set_option maxRecDepth 100000

/-- the functions that are run, where they call those of E -/
noncomputable def stepLX (m : Nat) (E : Env) : Env :=
  (5, runS (XF E [8]) m Tryz.f5 (Tryz.f5.body.get rfl) true) ::
  (6, runS (XF E []) m Tryz.f6 (Tryz.f6.body.get rfl) true) ::
  (10, runS (XF E []) m Tryz.f10 (Tryz.f10.body.get rfl) true) ::
  (21, runS (XF E []) m Tryz.f21 (Tryz.f21.body.get rfl) false) ::
  (22, runS (XF E []) m Tryz.f22 (Tryz.f22.body.get rfl) false) ::
  (23, runS (XF E []) m Tryz.f23 (Tryz.f23.body.get rfl) true) ::
  (24, runS (XF E []) m Tryz.f24 (Tryz.f24.body.get rfl) false) ::
  (25, runS (XF E []) m Tryz.f25 (Tryz.f25.body.get rfl) true) ::
  (26, runS (XF E []) m Tryz.f26 (Tryz.f26.body.get rfl) true) ::
  (28, runS (XF E []) m Tryz.f28 (Tryz.f28.body.get rfl) false) ::
  (30, runS (XF E []) m Tryz.f30 (Tryz.f30.body.get rfl) true) ::
  (31, runS (XF E []) m Tryz.f31 (Tryz.f31.body.get rfl) true) ::
  (32, runS (XF E []) m Tryz.f32 (Tryz.f32.body.get rfl) true) ::
  (33, runS (XF E []) m Tryz.f33 (Tryz.f33.body.get rfl) true) ::
  (36, runS (XF E []) m Tryz.f36 (Tryz.f36.body.get rfl) false) ::
  (38, runS (XF E []) m Tryz.f38 (Tryz.f38.body.get rfl) false) ::
  (46, runS (XF E []) m Tryz.f46 (Tryz.f46.body.get rfl) false) ::
  (47, runS (XF E []) m Tryz.f47 (Tryz.f47.body.get rfl) true) ::
  (48, runS (XF E []) m Tryz.f48 (Tryz.f48.body.get rfl) true) ::
  (49, runS (XF E []) m Tryz.f49 (Tryz.f49.body.get rfl) true) ::
  (50, runS (XF E []) m Tryz.f50 (Tryz.f50.body.get rfl) true) ::
  (51, runS (XF E []) m Tryz.f51 (Tryz.f51.body.get rfl) true) ::
  (52, runS (XF E []) m Tryz.f52 (Tryz.f52.body.get rfl) true) ::
  (53, runS (XF E []) m Tryz.f53 (Tryz.f53.body.get rfl) true) ::
  (54, runS (XF E []) m Tryz.f54 (Tryz.f54.body.get rfl) true) ::
  (55, runS (XF E []) m Tryz.f55 (Tryz.f55.body.get rfl) true) ::
  (56, runS (XF E []) m Tryz.f56 (Tryz.f56.body.get rfl) false) ::
  (60, runS (XF E []) m Tryz.f60 (Tryz.f60.body.get rfl) true) ::
  (61, runS (XF E []) m Tryz.f61 (Tryz.f61.body.get rfl) true) ::
  (62, runS (XF E []) m Tryz.f62 (Tryz.f62.body.get rfl) false) ::
  (63, runS (XF E []) m Tryz.f63 (Tryz.f63.body.get rfl) false) ::
  (64, runS (XF E []) m Tryz.f64 (Tryz.f64.body.get rfl) false) ::
  (65, runS (XF E []) m Tryz.f65 (Tryz.f65.body.get rfl) false) ::
  (66, runS (XF E []) m Tryz.f66 (Tryz.f66.body.get rfl) false) ::
  (67, runS (XF E []) m Tryz.f67 (Tryz.f67.body.get rfl) false) ::
  (68, orS (sCloneR 2) (runS (XF E []) m Tryz.f68 (Tryz.f68.body.get rfl) false)) ::
  (84, runS (XF E []) m Tryz.f84 (Tryz.f84.body.get rfl) true) ::
  (85, runS (XF E []) m Tryz.f85 (Tryz.f85.body.get rfl) true) ::
  (86, runS (XF E []) m Tryz.f86 (Tryz.f86.body.get rfl) true) ::
  (87, runS (XF E []) m Tryz.f87 (Tryz.f87.body.get rfl) true) ::
  (88, runS (XF E []) m Tryz.f88 (Tryz.f88.body.get rfl) true) ::
  (89, runS (XF E []) m Tryz.f89 (Tryz.f89.body.get rfl) true) ::
  (90, runS (XF E []) m Tryz.f90 (Tryz.f90.body.get rfl) true) ::
  (91, runS (XF E []) m Tryz.f91 (Tryz.f91.body.get rfl) true) ::
  (93, runS (XF E []) m Tryz.f93 (Tryz.f93.body.get rfl) false) ::
  (94, runS (XF E []) m Tryz.f94 (Tryz.f94.body.get rfl) true) ::
  (95, runS (XF E []) m Tryz.f95 (Tryz.f95.body.get rfl) true) ::
  (96, runS (XF E []) m Tryz.f96 (Tryz.f96.body.get rfl) true) ::
  (97, runS (XF E []) m Tryz.f97 (Tryz.f97.body.get rfl) true) ::
  (98, runS (XF E []) m Tryz.f98 (Tryz.f98.body.get rfl) true) ::
  (99, runS (XF E []) m Tryz.f99 (Tryz.f99.body.get rfl) true) ::
  (109, runS (XF E []) m Tryz.f109 (Tryz.f109.body.get rfl) true) ::
  (117, runS (XF E []) m Tryz.f117 (Tryz.f117.body.get rfl) false) ::
  (118, runS (XF E []) m Tryz.f118 (Tryz.f118.body.get rfl) true) ::
  (119, runS (XF E []) m Tryz.f119 (Tryz.f119.body.get rfl) true) ::
  (137, runS (XF E []) m Tryz.f137 (Tryz.f137.body.get rfl) false) ::
  (138, runS (XF E []) m Tryz.f138 (Tryz.f138.body.get rfl) true) ::
  (139, runS (XF E []) m Tryz.f139 (Tryz.f139.body.get rfl) false) ::
  (140, runS (XF E []) m Tryz.f140 (Tryz.f140.body.get rfl) true) ::
  (141, runS (XF E []) m Tryz.f141 (Tryz.f141.body.get rfl) false) ::
  (142, runS (XF E []) m Tryz.f142 (Tryz.f142.body.get rfl) true) ::
  (143, runS (XF E []) m Tryz.f143 (Tryz.f143.body.get rfl) true) ::
  (144, runS (XF E []) m Tryz.f144 (Tryz.f144.body.get rfl) true) ::
  (176, runS (XF E []) m Tryz.f176 (Tryz.f176.body.get rfl) true) ::
  (177, runS (XF E []) m Tryz.f177 (Tryz.f177.body.get rfl) true) ::
  (178, runS (XF E []) m Tryz.f178 (Tryz.f178.body.get rfl) true) ::
  (179, runS (XF E []) m Tryz.f179 (Tryz.f179.body.get rfl) true) ::
  (180, runS (XF E [7, 11, 21, 25, 32]) m Tryz.f180 (Tryz.f180.body.get rfl) true) ::
  (181, runS (XF E []) m Tryz.f181 (Tryz.f181.body.get rfl) true) ::
  (182, runS (XF E []) m Tryz.f182 (Tryz.f182.body.get rfl) false) ::
  (183, runS (XF E []) m Tryz.f183 (Tryz.f183.body.get rfl) true) ::
  (184, runS (XF E []) m Tryz.f184 (Tryz.f184.body.get rfl) true) ::
  (209, runS (XF E []) m Tryz.f209 (Tryz.f209.body.get rfl) true) ::
  (210, runS (XF E []) m Tryz.f210 (Tryz.f210.body.get rfl) true) ::
  (211, runS (XF E []) m Tryz.f211 (Tryz.f211.body.get rfl) true) ::
  (212, runS (XF E []) m Tryz.f212 (Tryz.f212.body.get rfl) true) ::
  (213, runS (XF E []) m Tryz.f213 (Tryz.f213.body.get rfl) true) ::
  (214, runS (XF E []) m Tryz.f214 (Tryz.f214.body.get rfl) true) ::
  baseH
theorem ok_stepLX (m : Nat) {E : Env} (ok : OkX Tryz.prog (XE E)) : OkX Tryz.prog (XE (stepLX m E)) := by
  unfold stepLX
  simp only [XF_eq]
  have h0 := ok_baseH
  have h1 := h0.add (sound_runS (B := []) (ok.b []) m true Tryz.func214 rfl rfl)
  have h2 := h1.add (sound_runS (B := []) (ok.b []) m true Tryz.func213 rfl rfl)
  have h3 := h2.add (sound_runS (B := []) (ok.b []) m true Tryz.func212 rfl rfl)
  have h4 := h3.add (sound_runS (B := []) (ok.b []) m true Tryz.func211 rfl rfl)
  have h5 := h4.add (sound_runS (B := []) (ok.b []) m true Tryz.func210 rfl rfl)
  have h6 := h5.add (sound_runS (B := []) (ok.b []) m true Tryz.func209 rfl rfl)
  have h7 := h6.add (sound_runS (B := []) (ok.b []) m true Tryz.func184 rfl rfl)
  have h8 := h7.add (sound_runS (B := []) (ok.b []) m true Tryz.func183 rfl rfl)
  have h9 := h8.add (sound_runS (B := []) (ok.b []) m false Tryz.func182 rfl rfl)
  have h10 := h9.add (sound_runS (B := []) (ok.b []) m true Tryz.func181 rfl rfl)
  have h11 := h10.add (sound_runS (B := [7, 11, 21, 25, 32]) (ok.b [7, 11, 21, 25, 32]) m true Tryz.func180 rfl rfl)
  have h12 := h11.add (sound_runS (B := []) (ok.b []) m true Tryz.func179 rfl rfl)
  have h13 := h12.add (sound_runS (B := []) (ok.b []) m true Tryz.func178 rfl rfl)
  have h14 := h13.add (sound_runS (B := []) (ok.b []) m true Tryz.func177 rfl rfl)
  have h15 := h14.add (sound_runS (B := []) (ok.b []) m true Tryz.func176 rfl rfl)
  have h16 := h15.add (sound_runS (B := []) (ok.b []) m true Tryz.func144 rfl rfl)
  have h17 := h16.add (sound_runS (B := []) (ok.b []) m true Tryz.func143 rfl rfl)
  have h18 := h17.add (sound_runS (B := []) (ok.b []) m true Tryz.func142 rfl rfl)
  have h19 := h18.add (sound_runS (B := []) (ok.b []) m false Tryz.func141 rfl rfl)
  have h20 := h19.add (sound_runS (B := []) (ok.b []) m true Tryz.func140 rfl rfl)
  have h21 := h20.add (sound_runS (B := []) (ok.b []) m false Tryz.func139 rfl rfl)
  have h22 := h21.add (sound_runS (B := []) (ok.b []) m true Tryz.func138 rfl rfl)
  have h23 := h22.add (sound_runS (B := []) (ok.b []) m false Tryz.func137 rfl rfl)
  have h24 := h23.add (sound_runS (B := []) (ok.b []) m true Tryz.func119 rfl rfl)
  have h25 := h24.add (sound_runS (B := []) (ok.b []) m true Tryz.func118 rfl rfl)
  have h26 := h25.add (sound_runS (B := []) (ok.b []) m false Tryz.func117 rfl rfl)
  have h27 := h26.add (sound_runS (B := []) (ok.b []) m true Tryz.func109 rfl rfl)
  have h28 := h27.add (sound_runS (B := []) (ok.b []) m true Tryz.func99 rfl rfl)
  have h29 := h28.add (sound_runS (B := []) (ok.b []) m true Tryz.func98 rfl rfl)
  have h30 := h29.add (sound_runS (B := []) (ok.b []) m true Tryz.func97 rfl rfl)
  have h31 := h30.add (sound_runS (B := []) (ok.b []) m true Tryz.func96 rfl rfl)
  have h32 := h31.add (sound_runS (B := []) (ok.b []) m true Tryz.func95 rfl rfl)
  have h33 := h32.add (sound_runS (B := []) (ok.b []) m true Tryz.func94 rfl rfl)
  have h34 := h33.add (sound_runS (B := []) (ok.b []) m false Tryz.func93 rfl rfl)
  have h35 := h34.add (sound_runS (B := []) (ok.b []) m true Tryz.func91 rfl rfl)
  have h36 := h35.add (sound_runS (B := []) (ok.b []) m true Tryz.func90 rfl rfl)
  have h37 := h36.add (sound_runS (B := []) (ok.b []) m true Tryz.func89 rfl rfl)
  have h38 := h37.add (sound_runS (B := []) (ok.b []) m true Tryz.func88 rfl rfl)
  have h39 := h38.add (sound_runS (B := []) (ok.b []) m true Tryz.func87 rfl rfl)
  have h40 := h39.add (sound_runS (B := []) (ok.b []) m true Tryz.func86 rfl rfl)
  have h41 := h40.add (sound_runS (B := []) (ok.b []) m true Tryz.func85 rfl rfl)
  have h42 := h41.add (sound_runS (B := []) (ok.b []) m true Tryz.func84 rfl rfl)
  have h43 := h42.add (sound_orS f_CloneT0 (sound_runS (B := []) (ok.b []) m false Tryz.func68 rfl rfl))
  have h44 := h43.add (sound_runS (B := []) (ok.b []) m false Tryz.func67 rfl rfl)
  have h45 := h44.add (sound_runS (B := []) (ok.b []) m false Tryz.func66 rfl rfl)
  have h46 := h45.add (sound_runS (B := []) (ok.b []) m false Tryz.func65 rfl rfl)
  have h47 := h46.add (sound_runS (B := []) (ok.b []) m false Tryz.func64 rfl rfl)
  have h48 := h47.add (sound_runS (B := []) (ok.b []) m false Tryz.func63 rfl rfl)
  have h49 := h48.add (sound_runS (B := []) (ok.b []) m false Tryz.func62 rfl rfl)
  have h50 := h49.add (sound_runS (B := []) (ok.b []) m true Tryz.func61 rfl rfl)
  have h51 := h50.add (sound_runS (B := []) (ok.b []) m true Tryz.func60 rfl rfl)
  have h52 := h51.add (sound_runS (B := []) (ok.b []) m false Tryz.func56 rfl rfl)
  have h53 := h52.add (sound_runS (B := []) (ok.b []) m true Tryz.func55 rfl rfl)
  have h54 := h53.add (sound_runS (B := []) (ok.b []) m true Tryz.func54 rfl rfl)
  have h55 := h54.add (sound_runS (B := []) (ok.b []) m true Tryz.func53 rfl rfl)
  have h56 := h55.add (sound_runS (B := []) (ok.b []) m true Tryz.func52 rfl rfl)
  have h57 := h56.add (sound_runS (B := []) (ok.b []) m true Tryz.func51 rfl rfl)
  have h58 := h57.add (sound_runS (B := []) (ok.b []) m true Tryz.func50 rfl rfl)
  have h59 := h58.add (sound_runS (B := []) (ok.b []) m true Tryz.func49 rfl rfl)
  have h60 := h59.add (sound_runS (B := []) (ok.b []) m true Tryz.func48 rfl rfl)
  have h61 := h60.add (sound_runS (B := []) (ok.b []) m true Tryz.func47 rfl rfl)
  have h62 := h61.add (sound_runS (B := []) (ok.b []) m false Tryz.func46 rfl rfl)
  have h63 := h62.add (sound_runS (B := []) (ok.b []) m false Tryz.func38 rfl rfl)
  have h64 := h63.add (sound_runS (B := []) (ok.b []) m false Tryz.func36 rfl rfl)
  have h65 := h64.add (sound_runS (B := []) (ok.b []) m true Tryz.func33 rfl rfl)
  have h66 := h65.add (sound_runS (B := []) (ok.b []) m true Tryz.func32 rfl rfl)
  have h67 := h66.add (sound_runS (B := []) (ok.b []) m true Tryz.func31 rfl rfl)
  have h68 := h67.add (sound_runS (B := []) (ok.b []) m true Tryz.func30 rfl rfl)
  have h69 := h68.add (sound_runS (B := []) (ok.b []) m false Tryz.func28 rfl rfl)
  have h70 := h69.add (sound_runS (B := []) (ok.b []) m true Tryz.func26 rfl rfl)
  have h71 := h70.add (sound_runS (B := []) (ok.b []) m true Tryz.func25 rfl rfl)
  have h72 := h71.add (sound_runS (B := []) (ok.b []) m false Tryz.func24 rfl rfl)
  have h73 := h72.add (sound_runS (B := []) (ok.b []) m true Tryz.func23 rfl rfl)
  have h74 := h73.add (sound_runS (B := []) (ok.b []) m false Tryz.func22 rfl rfl)
  have h75 := h74.add (sound_runS (B := []) (ok.b []) m false Tryz.func21 rfl rfl)
  have h76 := h75.add (sound_runS (B := []) (ok.b []) m true Tryz.func10 rfl rfl)
  have h77 := h76.add (sound_runS (B := []) (ok.b []) m true Tryz.func6 rfl rfl)
  have h78 := h77.add (sound_runS (B := [8]) (ok.b [8]) m true Tryz.func5 rfl rfl)
  exact h78
noncomputable def envLX (m : Nat) : Nat → Env
  | 0 => baseH
  | d + 1 => stepLX m (envLX m d)
theorem ok_envLX (m : Nat) : ∀ d, OkX Tryz.prog (XE (envLX m d))
  | 0 => ok_baseH
  | d + 1 => ok_stepLX m (ok_envLX m d)
end Go.Proofs.YtgpkochbmfhmdaaGreatDoor.Lift
namespace Go.Proofs.YtgpkochbmfhmdaaGreatDoor.Lift
open Go
set_option maxRecDepth 100000

theorem run_works13 : comesTo (.bool true) (runK (XF (envLX 400 30) [8]) 400 Tryz.f5 (Tryz.f5.body.get rfl) [] []) = true := by kernel_rfl
theorem p_works13 : SoundP Tryz.prog gl 5 (atV [] (.bool true)) := soundP_at [8] (ok_envLX 400 30) 400 Tryz.func5 rfl rfl rfl run_works13
noncomputable def baseI : Env := (5, liftS 9 (atV [] (.bool true))) :: baseF
theorem ok_baseI : OkX Tryz.prog (XE baseI) := ok_baseF.addP p_works13
end Go.Proofs.YtgpkochbmfhmdaaGreatDoor.Lift
namespace Go.Proofs.YtgpkochbmfhmdaaGreatDoor.Lift
open Go
set_option maxRecDepth 100000

/-- the functions that are run, where they call those of E -/
noncomputable def stepLY (m : Nat) (E : Env) : Env :=
  (3, runS (XF E []) m Tryz.f3 (Tryz.f3.body.get rfl) true) ::
  (6, runS (XF E []) m Tryz.f6 (Tryz.f6.body.get rfl) true) ::
  (7, runS (XF E []) m Tryz.f7 (Tryz.f7.body.get rfl) false) ::
  (8, runS (XF E []) m Tryz.f8 (Tryz.f8.body.get rfl) false) ::
  (9, runS (XF E []) m Tryz.f9 (Tryz.f9.body.get rfl) true) ::
  (10, runS (XF E []) m Tryz.f10 (Tryz.f10.body.get rfl) true) ::
  (11, runS (XF E []) m Tryz.f11 (Tryz.f11.body.get rfl) true) ::
  (12, runS (XF E []) m Tryz.f12 (Tryz.f12.body.get rfl) false) ::
  (13, runS (XF E []) m Tryz.f13 (Tryz.f13.body.get rfl) false) ::
  (14, runS (XF E []) m Tryz.f14 (Tryz.f14.body.get rfl) false) ::
  (15, runS (XF E []) m Tryz.f15 (Tryz.f15.body.get rfl) false) ::
  (25, runS (XF E []) m Tryz.f25 (Tryz.f25.body.get rfl) true) ::
  (26, runS (XF E []) m Tryz.f26 (Tryz.f26.body.get rfl) true) ::
  (27, runS (XF E []) m Tryz.f27 (Tryz.f27.body.get rfl) false) ::
  (28, runS (XF E []) m Tryz.f28 (Tryz.f28.body.get rfl) false) ::
  (29, runS (XF E []) m Tryz.f29 (Tryz.f29.body.get rfl) true) ::
  (30, runS (XF E []) m Tryz.f30 (Tryz.f30.body.get rfl) true) ::
  (31, runS (XF E []) m Tryz.f31 (Tryz.f31.body.get rfl) true) ::
  (32, runS (XF E []) m Tryz.f32 (Tryz.f32.body.get rfl) true) ::
  (33, runS (XF E []) m Tryz.f33 (Tryz.f33.body.get rfl) true) ::
  (34, runS (XF E []) m Tryz.f34 (Tryz.f34.body.get rfl) false) ::
  (35, runS (XF E []) m Tryz.f35 (Tryz.f35.body.get rfl) true) ::
  (36, runS (XF E []) m Tryz.f36 (Tryz.f36.body.get rfl) false) ::
  (37, runS (XF E []) m Tryz.f37 (Tryz.f37.body.get rfl) false) ::
  (38, runS (XF E []) m Tryz.f38 (Tryz.f38.body.get rfl) false) ::
  (51, runS (XF E []) m Tryz.f51 (Tryz.f51.body.get rfl) true) ::
  (52, runS (XF E []) m Tryz.f52 (Tryz.f52.body.get rfl) true) ::
  (53, runS (XF E []) m Tryz.f53 (Tryz.f53.body.get rfl) true) ::
  (54, runS (XF E []) m Tryz.f54 (Tryz.f54.body.get rfl) true) ::
  (55, runS (XF E []) m Tryz.f55 (Tryz.f55.body.get rfl) true) ::
  (56, runS (XF E []) m Tryz.f56 (Tryz.f56.body.get rfl) false) ::
  (58, runS (XF E []) m Tryz.f58 (Tryz.f58.body.get rfl) false) ::
  (59, runS (XF E []) m Tryz.f59 (Tryz.f59.body.get rfl) false) ::
  (60, runS (XF E []) m Tryz.f60 (Tryz.f60.body.get rfl) true) ::
  (61, runS (XF E []) m Tryz.f61 (Tryz.f61.body.get rfl) true) ::
  (62, runS (XF E []) m Tryz.f62 (Tryz.f62.body.get rfl) false) ::
  (63, runS (XF E []) m Tryz.f63 (Tryz.f63.body.get rfl) false) ::
  (64, runS (XF E []) m Tryz.f64 (Tryz.f64.body.get rfl) false) ::
  (65, runS (XF E []) m Tryz.f65 (Tryz.f65.body.get rfl) false) ::
  (66, runS (XF E []) m Tryz.f66 (Tryz.f66.body.get rfl) false) ::
  (67, runS (XF E []) m Tryz.f67 (Tryz.f67.body.get rfl) false) ::
  (68, orS (sCloneR 2) (runS (XF E []) m Tryz.f68 (Tryz.f68.body.get rfl) false)) ::
  (69, runS (XF E []) m Tryz.f69 (Tryz.f69.body.get rfl) true) ::
  (72, runS (XF E []) m Tryz.f72 (Tryz.f72.body.get rfl) false) ::
  (98, runS (XF E []) m Tryz.f98 (Tryz.f98.body.get rfl) true) ::
  (99, runS (XF E []) m Tryz.f99 (Tryz.f99.body.get rfl) true) ::
  (101, runS (XF E []) m Tryz.f101 (Tryz.f101.body.get rfl) true) ::
  (102, runS (XF E []) m Tryz.f102 (Tryz.f102.body.get rfl) true) ::
  (103, runS (XF E []) m Tryz.f103 (Tryz.f103.body.get rfl) true) ::
  (104, runS (XF E []) m Tryz.f104 (Tryz.f104.body.get rfl) true) ::
  (118, runS (XF E []) m Tryz.f118 (Tryz.f118.body.get rfl) true) ::
  (119, runS (XF E []) m Tryz.f119 (Tryz.f119.body.get rfl) true) ::
  (143, runS (XF E []) m Tryz.f143 (Tryz.f143.body.get rfl) true) ::
  (144, runS (XF E []) m Tryz.f144 (Tryz.f144.body.get rfl) true) ::
  (184, runS (XF E []) m Tryz.f184 (Tryz.f184.body.get rfl) true) ::
  (214, runS (XF E []) m Tryz.f214 (Tryz.f214.body.get rfl) true) ::
  baseI
theorem ok_stepLY (m : Nat) {E : Env} (ok : OkX Tryz.prog (XE E)) : OkX Tryz.prog (XE (stepLY m E)) := by
  unfold stepLY
  simp only [XF_eq]
  have h0 := ok_baseI
  have h1 := h0.add (sound_runS (B := []) (ok.b []) m true Tryz.func214 rfl rfl)
  have h2 := h1.add (sound_runS (B := []) (ok.b []) m true Tryz.func184 rfl rfl)
  have h3 := h2.add (sound_runS (B := []) (ok.b []) m true Tryz.func144 rfl rfl)
  have h4 := h3.add (sound_runS (B := []) (ok.b []) m true Tryz.func143 rfl rfl)
  have h5 := h4.add (sound_runS (B := []) (ok.b []) m true Tryz.func119 rfl rfl)
  have h6 := h5.add (sound_runS (B := []) (ok.b []) m true Tryz.func118 rfl rfl)
  have h7 := h6.add (sound_runS (B := []) (ok.b []) m true Tryz.func104 rfl rfl)
  have h8 := h7.add (sound_runS (B := []) (ok.b []) m true Tryz.func103 rfl rfl)
  have h9 := h8.add (sound_runS (B := []) (ok.b []) m true Tryz.func102 rfl rfl)
  have h10 := h9.add (sound_runS (B := []) (ok.b []) m true Tryz.func101 rfl rfl)
  have h11 := h10.add (sound_runS (B := []) (ok.b []) m true Tryz.func99 rfl rfl)
  have h12 := h11.add (sound_runS (B := []) (ok.b []) m true Tryz.func98 rfl rfl)
  have h13 := h12.add (sound_runS (B := []) (ok.b []) m false Tryz.func72 rfl rfl)
  have h14 := h13.add (sound_runS (B := []) (ok.b []) m true Tryz.func69 rfl rfl)
  have h15 := h14.add (sound_orS f_CloneT0 (sound_runS (B := []) (ok.b []) m false Tryz.func68 rfl rfl))
  have h16 := h15.add (sound_runS (B := []) (ok.b []) m false Tryz.func67 rfl rfl)
  have h17 := h16.add (sound_runS (B := []) (ok.b []) m false Tryz.func66 rfl rfl)
  have h18 := h17.add (sound_runS (B := []) (ok.b []) m false Tryz.func65 rfl rfl)
  have h19 := h18.add (sound_runS (B := []) (ok.b []) m false Tryz.func64 rfl rfl)
  have h20 := h19.add (sound_runS (B := []) (ok.b []) m false Tryz.func63 rfl rfl)
  have h21 := h20.add (sound_runS (B := []) (ok.b []) m false Tryz.func62 rfl rfl)
  have h22 := h21.add (sound_runS (B := []) (ok.b []) m true Tryz.func61 rfl rfl)
  have h23 := h22.add (sound_runS (B := []) (ok.b []) m true Tryz.func60 rfl rfl)
  have h24 := h23.add (sound_runS (B := []) (ok.b []) m false Tryz.func59 rfl rfl)
  have h25 := h24.add (sound_runS (B := []) (ok.b []) m false Tryz.func58 rfl rfl)
  have h26 := h25.add (sound_runS (B := []) (ok.b []) m false Tryz.func56 rfl rfl)
  have h27 := h26.add (sound_runS (B := []) (ok.b []) m true Tryz.func55 rfl rfl)
  have h28 := h27.add (sound_runS (B := []) (ok.b []) m true Tryz.func54 rfl rfl)
  have h29 := h28.add (sound_runS (B := []) (ok.b []) m true Tryz.func53 rfl rfl)
  have h30 := h29.add (sound_runS (B := []) (ok.b []) m true Tryz.func52 rfl rfl)
  have h31 := h30.add (sound_runS (B := []) (ok.b []) m true Tryz.func51 rfl rfl)
  have h32 := h31.add (sound_runS (B := []) (ok.b []) m false Tryz.func38 rfl rfl)
  have h33 := h32.add (sound_runS (B := []) (ok.b []) m false Tryz.func37 rfl rfl)
  have h34 := h33.add (sound_runS (B := []) (ok.b []) m false Tryz.func36 rfl rfl)
  have h35 := h34.add (sound_runS (B := []) (ok.b []) m true Tryz.func35 rfl rfl)
  have h36 := h35.add (sound_runS (B := []) (ok.b []) m false Tryz.func34 rfl rfl)
  have h37 := h36.add (sound_runS (B := []) (ok.b []) m true Tryz.func33 rfl rfl)
  have h38 := h37.add (sound_runS (B := []) (ok.b []) m true Tryz.func32 rfl rfl)
  have h39 := h38.add (sound_runS (B := []) (ok.b []) m true Tryz.func31 rfl rfl)
  have h40 := h39.add (sound_runS (B := []) (ok.b []) m true Tryz.func30 rfl rfl)
  have h41 := h40.add (sound_runS (B := []) (ok.b []) m true Tryz.func29 rfl rfl)
  have h42 := h41.add (sound_runS (B := []) (ok.b []) m false Tryz.func28 rfl rfl)
  have h43 := h42.add (sound_runS (B := []) (ok.b []) m false Tryz.func27 rfl rfl)
  have h44 := h43.add (sound_runS (B := []) (ok.b []) m true Tryz.func26 rfl rfl)
  have h45 := h44.add (sound_runS (B := []) (ok.b []) m true Tryz.func25 rfl rfl)
  have h46 := h45.add (sound_runS (B := []) (ok.b []) m false Tryz.func15 rfl rfl)
  have h47 := h46.add (sound_runS (B := []) (ok.b []) m false Tryz.func14 rfl rfl)
  have h48 := h47.add (sound_runS (B := []) (ok.b []) m false Tryz.func13 rfl rfl)
  have h49 := h48.add (sound_runS (B := []) (ok.b []) m false Tryz.func12 rfl rfl)
  have h50 := h49.add (sound_runS (B := []) (ok.b []) m true Tryz.func11 rfl rfl)
  have h51 := h50.add (sound_runS (B := []) (ok.b []) m true Tryz.func10 rfl rfl)
  have h52 := h51.add (sound_runS (B := []) (ok.b []) m true Tryz.func9 rfl rfl)
  have h53 := h52.add (sound_runS (B := []) (ok.b []) m false Tryz.func8 rfl rfl)
  have h54 := h53.add (sound_runS (B := []) (ok.b []) m false Tryz.func7 rfl rfl)
  have h55 := h54.add (sound_runS (B := []) (ok.b []) m true Tryz.func6 rfl rfl)
  have h56 := h55.add (sound_runS (B := []) (ok.b []) m true Tryz.func3 rfl rfl)
  exact h56
noncomputable def envLY (m : Nat) : Nat → Env
  | 0 => baseI
  | d + 1 => stepLY m (envLY m d)
theorem ok_envLY (m : Nat) : ∀ d, OkX Tryz.prog (XE (envLY m d))
  | 0 => ok_baseI
  | d + 1 => ok_stepLY m (ok_envLY m d)
end Go.Proofs.YtgpkochbmfhmdaaGreatDoor.Lift
namespace Go.Proofs.YtgpkochbmfhmdaaGreatDoor.Lift
open Go
set_option maxRecDepth 100000

theorem run_LinkVoid (s : Str) : comesTo (.bool true) (runK (XF (envLY 400 30) []) 400 Tryz.f3 (Tryz.f3.body.get rfl) [.str s] []) = true := by kernel_rfl
theorem p_LinkVoid : SoundP Tryz.prog gl 3 (fn1 cStr encBool fun _ => some true) := by
  refine soundP_runF [] (ok_envLY 400 30) 400 Tryz.func3 rfl rfl fun args r h => ?_
  obtain ⟨s, e, rfl, he, rfl⟩ := fn1_inv h
  cases he
  exact ⟨rfl, comesTo_some (run_LinkVoid s)⟩
end Go.Proofs.YtgpkochbmfhmdaaGreatDoor.Lift
namespace Go.Proofs.YtgpkochbmfhmdaaGreatDoor.Lift
open Go

/-- the types of the table: what they are made of is in the table; no slice's elements are of no size -/
def kidsOk (P : Program) (n : Nat) : TypeDesc → Bool
  | .pointer e => decide (e < n)
  | .slice e => decide (e < n) && decide (0 < P.cellsOf e)
  | .array _ e => decide (e < n)
  | .map _ e => decide (e < n)
  | .struct fs => fs.toList.all fun f => decide (f.type < n)
  | _ => true
def NoNull (P : Program) : Prop := (List.range P.types.size).all (fun t => match P.underlying t with | some d => kidsOk P P.types.size d | none => true) = true
theorem NoNull.kids {P : Program} (h : NoNull P) {t : TypeId} (ht : t < P.types.size) {d : TypeDesc} (hd : P.underlying t = some d) : kidsOk P P.types.size d = true := by
  have := List.all_eq_true.1 h t (List.mem_range.2 ht)
  simpa only [hd] using this

section
variable {H : Type} {enc : TypeId × Value → H} {P : Program} {w : World} {base : Nat} {sp : Nat → Bool}

theorem trodStep_spare (hn : NoNull P) {r r' : TypeId → List Value → Option (DataW H × List MemPlace)}
    (hr : ∀ t cs x, t < P.types.size → r t cs = some x → (∀ p ∈ x.2, sp p.block = true) → r' t cs = some x) {t : TypeId} (htn : t < P.types.size) {cs : List Value} {x : DataW H × List MemPlace}
    (h : DataW.trodStep enc P w base (fun _ => true) true r t cs = some x) (hs : ∀ p ∈ x.2, sp p.block = true) : DataW.trodStep enc P w base sp true r' t cs = some x := by
  unfold DataW.trodStep at h ⊢
  split at h
  case h_1 => exact h
  case h_2 => exact h
  case h_3 => exact h
  case h_4 => exact h
  case h_5 => exact h
  case h_6 e a hu =>
    have hk := hn.kids htn hu
    simp only [kidsOk, decide_eq_true_eq] at hk
    simp only [Option.map_eq_some_iff, Option.bind_eq_some_iff] at h ⊢
    obtain ⟨y, ⟨cs', hc, hy⟩, rfl⟩ := h
    exact ⟨y, ⟨cs', hc, hr _ _ _ hk hy (fun p hp => hs p (by simp [hp]))⟩, rfl⟩
  case h_7 => exact h
  case h_8 e a len cap hu =>
    have hk := hn.kids htn hu
    simp only [kidsOk, Bool.and_eq_true, decide_eq_true_eq] at hk
    simp only at h ⊢
    split at h
    · rename_i hc
      rw [if_pos hc]
      simp only [if_true, Option.map_eq_some_iff, Option.bind_eq_some_iff] at h ⊢
      obtain ⟨elems, he, rest, hrest, rfl⟩ := h
      have hel := mapM_some_length he
      have hrl := mapM_some_length hrest
      simp only [List.length_range] at hel hrl
      have conv : ∀ {l : List Nat} {z : List (DataW H × List MemPlace)} {f : Nat → Nat}, (l.mapM fun i => (w.cells? base (a.add (f i * P.cellsOf e)) (P.cellsOf e)).bind (r e)) = some z → (∀ y ∈ z, ∀ p ∈ y.2, sp p.block = true) →
          (l.mapM fun i => (w.cells? base (a.add (f i * P.cellsOf e)) (P.cellsOf e)).bind (r' e)) = some z := fun hz hsz => mapM_carry hz fun i y _ hy hiy => by
        simp only [Option.bind_eq_some_iff] at hiy ⊢
        obtain ⟨cs', h1, h2⟩ := hiy
        exact ⟨cs', h1, hr _ _ _ hk.1 h2 (hsz y hy)⟩
      have h1 : ∀ y ∈ elems, ∀ p ∈ y.2, sp p.block = true := fun y hy p hp => hs p (by
        simp only [List.mem_append, List.mem_flatMap]
        exact .inr ⟨y, .inl hy, hp⟩)
      have h2 : ∀ y ∈ rest, ∀ p ∈ y.2, sp p.block = true := fun y hy p hp => hs p (by
        simp only [List.mem_append, List.mem_flatMap]
        exact .inr ⟨y, .inr hy, hp⟩)
      refine ⟨elems, conv (f := id) he h1, rest, ?_, rfl⟩
      cases hsp : sp a.block with
      | true => exact conv (f := fun j => len + j) hrest h2
      | false =>
        -- then there is no place at all: nothing is spared
        have : cap = 0 := by
          apply Classical.byContradiction
          intro hcap
          have hpos := hk.2
          have hmem : MemPlace.cell a.block a.off ∈ MemPlace.row a ((elems.length + rest.length) * P.cellsOf e) := MemPlace.mem_row.2 ⟨0, by
            rw [hel, hrl]
            have : len + (cap - len) = cap := by omega
            rw [this]
            exact Nat.mul_pos (by omega) hpos, by simp⟩
          have := hs (MemPlace.cell a.block a.off) (by simp only [List.mem_append]; exact .inl hmem)
          simp only [MemPlace.block] at this
          rw [hsp] at this
          cases this
        have hlen : cap - len = 0 := by omega
        rw [hlen] at hrest
        simp at hrest
        simp [hrest]
    · cases h
  case h_9 fs cs' hu =>
    have hk := hn.kids htn hu
    simp only [kidsOk, List.all_eq_true, decide_eq_true_eq] at hk
    split at h
    · rename_i hc
      rw [if_pos hc]
      simp only [Option.map_eq_some_iff] at h ⊢
      obtain ⟨xs, hx, rfl⟩ := h
      exact ⟨xs, mapM_carry hx (fun f y hf hy hv => hr _ _ _ (hk f hf) hv (fun p hp => hs p (List.mem_flatMap.2 ⟨y, hy, hp⟩))), rfl⟩
    · cases h
  case h_10 m e cs' hu =>
    have hk := hn.kids htn hu
    simp only [kidsOk, decide_eq_true_eq] at hk
    split at h
    · rename_i hc
      rw [if_pos hc]
      simp only [Option.map_eq_some_iff] at h ⊢
      obtain ⟨xs, hx, rfl⟩ := h
      exact ⟨xs, mapM_carry hx (fun f y _ hy hv => hr _ _ _ hk hv (fun p hp => hs p (List.mem_flatMap.2 ⟨y, hy, hp⟩))), rfl⟩
    · cases h
  case h_11 => exact h
  case h_12 => exact h
  case h_13 => exact h
  case h_14 k e b hu =>
    have hk' := hn.kids htn hu
    simp only [kidsOk, decide_eq_true_eq] at hk'
    split at h
    · rename_i es clock hb
      split at h
      · rename_i hc
        simp only [Option.bind_eq_some_iff] at h
        obtain ⟨entries, he, hd⟩ := h
        split at hd
        · rename_i hris
          have hx := Option.some.inj hd
          subst hx
          simp only [if_pos hc, Option.bind_eq_some_iff]
          refine ⟨entries, mapM_carry he (fun x y _ hy hv => ?_), by simp [hris]⟩
          simp only [Option.bind_eq_some_iff] at hv ⊢
          obtain ⟨key, hk, hz⟩ := hv
          refine ⟨key, hk, ?_⟩
          split at hz
          · rename_i hf
            rw [if_pos hf]
            simp only [Option.map_eq_some_iff] at hz ⊢
            obtain ⟨q, hq, rfl⟩ := hz
            exact ⟨q, hr _ _ _ hk' hq (fun p hp => hs p (by simp only [List.mem_cons, List.mem_flatMap]; right; exact ⟨_, hy, hp⟩)), rfl⟩
          · cases hz
        · cases hd
      · cases h
    · cases h
  case h_15 => exact h
  case h_16 => exact h
  case h_17 => exact h
  case h_18 => exact h
  case h_19 => exact h
  case h_20 => exact h
  case h_21 => cases h

theorem trod_spare (hn : NoNull P) : ∀ (n : Nat) (t : TypeId) (cs : List Value) (x : DataW H × List MemPlace), t < P.types.size →
    DataW.trod enc P w base (fun _ => true) true n t cs = some x → (∀ p ∈ x.2, sp p.block = true) → DataW.trod enc P w base sp true n t cs = some x := by
  intro n
  induction n with
  | zero => intro t cs x _ h; simp [DataW.trod] at h
  | succ n ih =>
    intro t cs x htn h hs
    rw [DataW.trod_step] at h ⊢
    exact trodStep_spare hn ih htn h hs

/-- the arguments read behind the call as they read before -/
theorem trodAll_behind {w' : World} (hn : NoNull P) : ∀ {ts : List TypeId} {vs : List Value} {ds : List (DataW H)} {ps : List MemPlace}, (∀ t ∈ ts, t < P.types.size) → DataW.TrodAll enc P w 0 (fun _ => true) true ts vs ds ps →
    (∀ p ∈ ps, w.sameAt w' p) → (∀ p ∈ ps, sp p.block = true) → DataW.TrodAll enc P w' 0 sp true ts vs ds ps
  | [], [], [], _, _, h, _, _ => h
  | _ :: _, _ :: _, _ :: _, _, ht, ⟨p, q, ⟨n, h1⟩, h2, e⟩, h3, h4 => by
    subst e
    refine ⟨p, q, ⟨n, trod_spare hn n _ _ _ (ht _ (by simp)) (DataW.trod_carry n _ _ _ h1 fun x hx => h3 x (by simp [hx])) fun x hx => h4 x (by simp [hx])⟩, trodAll_behind hn (fun t htm => ht t (by simp [htm])) h2 (fun x hx => h3 x (by simp [hx])) (fun x hx => h4 x (by simp [hx])), rfl⟩
end

theorem below_of_ext {G G' : Gh} (hσ : G.σ = []) (hz : ∀ blk, ¬ G.z blk) (x : Ext G G') : RowKit.Below G.w.heap.size G.w G'.w := ⟨x.os, x.tape, x.output, x.size, fun k hk => x.old k hk (owned_nil hσ k) (fun h => absurd h (hz k))⟩

/-- where a statement's walk begins: all that there is is frozen -/
def startG (W : World) : Gh := { w := W, φ := fun b _ => b < W.heap.size, ρ := fun _ _ => none, σ := [] }
theorem inv_start (W : World) : Inv (startG W) := inv_nil rfl (fun _ _ h => h)

open Go.ChangeShapes Go.WideShapes in
/-- A LAW THAT RETURNS true AND LEAVES ITS ARGUMENTS AS THEY WERE, from a pure contract -/
theorem post_trueG {gl : Nat → Option AV} {H : Type} {enc : TypeId × Value → H} {P : Program} (hn : NoNull P) {f : Nat} {fn : Func} {g : List AV → Option AV} (hp : SoundP P gl f g) (hfn : P.funcs[f]? = some fn) (hbody : fn.body.isNone = false) (hname : (fn.name == "runtime.NumGoroutine") = false) {tb : TypeId} (htb : P.underlying tb = some .bool)
    (hres : fn.resultTypes = #[tb]) {s : ChangeSpec} (hvars : s.vars = []) (hpt : ∀ t ∈ fn.params.toList, t < P.types.size) {apart fresh handsOn again : Bool} {W : World} {args : Array Value} {ds gs : List (DataW H)} {before : List MemPlace}
    (hW : DataW.Whole enc P fn.params.toList s.vars apart W args.toList ds gs before) (hs : s.fn H (ds ++ gs) = { results := [.lit (.bool true)], args := ds })
    (hgl : GlobG gl (startG W)) {aargs : List AV} (hrep : RepL (startG W) aargs args.toList) (hg : g aargs = some (.bool true)) :
    Calls P f args W fun e W' => ∃ v, e = .returned v ∧ s.post enc P fn apart fresh handsOn again W args v W' := by
  have hc := hp.calls (startG W) aargs args.toList (.bool true) hg (inv_start W) rfl rfl hgl hrep
  rw [Array.toArray_toList] at hc
  have hcalls : Calls P f args W (Ret (startG W) (.bool true) []) := by
    rcases hc with ⟨_, h⟩ | ⟨v, w', h, _⟩
    · exact h
    · rw [run_callFunc hfn hbody hname] at h
      cases h
  refine calls_imp hcalls fun e W' he => ?_
  cases e with
  | panicked c => exact he.elim
  | outgrown => exact he.elim
  | returned v =>
    obtain ⟨G', rfl, hσ, x, inv', hr⟩ := he
    cases hr
    have hb : RowKit.Below W.heap.size W G'.w := below_of_ext (G := startG W) rfl (fun _ h => h) x
    have hW' := hW
    obtain ⟨p, q, h1, h2, rfl, hz, hnd⟩ := hW
    rw [hvars] at h2
    obtain ⟨rfl, rfl⟩ := trodVars_none h2
    have hargs : ∀ sp : Nat → Bool, (∀ y ∈ p ++ [], sp y.block = true) → DataW.TrodAll enc P G'.w 0 sp true fn.params.toList args.toList (s.fn H (ds ++ [])).args p := fun sp hsp => by
      rw [hs]
      exact trodAll_behind hn hpt h1 (fun y hy => hb.same (hW'.lt y (by simpa using hy))) (fun y hy => hsp y (by simpa using hy))
    have hresd : ∀ (b : Nat) (sp : Nat → Bool) (hd : Bool), DataW.TrodAll enc P G'.w b sp hd fn.resultTypes.toList ((Value.bool true).resultList fn.resultTypes.size) (s.fn H (ds ++ [])).results [] := fun b sp hd => by
      rw [hs, hres]
      exact trodAll_cons_mk (RowKit.shut_bool htb true) trodAll_mk0
    have hold : ∀ y ∈ p ++ [], (fun b => decide (b < W.heap.size)) y.block = true := fun y hy => by simpa using hW'.lt y hy
    have hvd : ∀ sp : Nat → Bool, DataW.TrodVars enc P G'.w sp s.vars (s.fn H (ds ++ [])).vars [] := fun sp => by
      rw [hs, hvars]
      exact rfl
    refine ⟨_, rfl, ds, [], p ++ [], [], p, [], hW', hresd _ _ _, hargs _ hold, hvd _, hb.frame _, fun _ => ⟨?_, _, _, ([] ++ p) ++ [], ⟨[] ++ p, [], trodAll_append (hargs _ (fun _ _ => rfl)) (hresd _ _ _), hvd _, rfl, ?_, ?_⟩, ?_⟩⟩
    · intro j t r h3 h4
      rw [hres] at h3 h4
      cases j with
      | zero =>
        simp only [List.getElem?_toArray, List.getElem?_cons_zero, Option.some.injEq] at h3
        subst h3
        simp [Value.resultList] at h4
        subst h4
        exact RowKit.okWide_bool_mk htb true
      | succ j => simp at h3
    · intro b off hp'
      have hlt := hW'.lt _ (show MemPlace.cell b off ∈ p ++ [] by simpa using hp')
      rw [hb.frozen (p := ⟨b, off, none⟩) hlt]
      exact hz b off (by simpa using hp')
    · intro ha
      simpa using hnd ha
    · intro y hy _
      simpa using hy
theorem post_true {H : Type} {enc : TypeId × Value → H} {P : Program} (hn : NoNull P) {f : Nat} {fn : Func} {g : List AV → Option AV} (hp : SoundP P (fun _ => none) f g) (hfn : P.funcs[f]? = some fn) (hbody : fn.body.isNone = false) (hname : (fn.name == "runtime.NumGoroutine") = false) {tb : TypeId} (htb : P.underlying tb = some .bool)
    (hres : fn.resultTypes = #[tb]) {s : ChangeSpec} (hvars : s.vars = []) (hpt : ∀ t ∈ fn.params.toList, t < P.types.size) {apart fresh handsOn again : Bool} {W : World} {args : Array Value} {ds gs : List (DataW H)} {before : List MemPlace}
    (hW : DataW.Whole enc P fn.params.toList s.vars apart W args.toList ds gs before) (hs : s.fn H (ds ++ gs) = { results := [.lit (.bool true)], args := ds })
    {aargs : List AV} (hrep : RepL (startG W) aargs args.toList) (hg : g aargs = some (.bool true)) :
    Calls P f args W fun e W' => ∃ v, e = .returned v ∧ s.post enc P fn apart fresh handsOn again W args v W' :=
  post_trueG hn hp hfn hbody hname htb hres hvars hpt hW hs (fun _ _ h => by cases h) hrep hg

end Go.Proofs.YtgpkochbmfhmdaaGreatDoor.Lift
