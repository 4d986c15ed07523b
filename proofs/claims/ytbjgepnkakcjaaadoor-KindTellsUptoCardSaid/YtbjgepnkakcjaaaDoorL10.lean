/-
  LIFT, 10: slices of slices and strings; len; append.
-/
import Derived.Test.YtbjgepnkakcjaaaDoorL9
namespace Go.Proofs.YtbjgepnkakcjaaaDoor.Lift
open Go

section
variable {P : Program} {G : Gh}

theorem run_optIdx_lo {x : Option AV} {v : Option Value} (h : match x, v with | none, none => True | some a, some b => Rep G a b | _, _ => False) {l hh : Nat} (hl : optIdx x 0 = some l) (hle : l ≤ hh) (code : BoundsCode) :
    (match v with | some v => Instr.sliceBound v hh code | none => pure 0 : Sem Nat).run P G.w = .ok l G.w := by
  cases x with
  | none => cases v with
    | none => cases hl; rfl
    | some b => exact h.elim
  | some a => cases v with
    | none => exact h.elim
    | some b =>
      simp only at h
      cases a <;> simp only [optIdx] at hl <;> try (cases hl; done)
      cases h
      split at hl
      · rename_i k n h0
        cases hl
        have : (0 : Int) ≤ n ∧ n ≤ (hh : Int) := ⟨h0, by omega⟩
        simp only [Instr.sliceBound, asIntOf, Sem.run_bind, Sem.run_pure, Result.andThen_ok, this, and_self, if_true]
      · cases hl
theorem run_optIdx_hi {x : Option AV} {v : Option Value} (h : match x, v with | none, none => True | some a, some b => Rep G a b | _, _ => False) {d l hh : Nat} (hl : optIdx x d = some l) (hle : l ≤ hh) (code : BoundsCode) :
    (match v with | some v => Instr.sliceBound v hh code | none => pure d : Sem Nat).run P G.w = .ok l G.w := by
  cases x with
  | none => cases v with
    | none => cases hl; rfl
    | some b => exact h.elim
  | some a => cases v with
    | none => exact h.elim
    | some b =>
      simp only at h
      cases a <;> simp only [optIdx] at hl <;> try (cases hl; done)
      cases h
      split at hl
      · rename_i k n h0
        cases hl
        have : (0 : Int) ≤ n ∧ n ≤ (hh : Int) := ⟨h0, by omega⟩
        simp only [Instr.sliceBound, asIntOf, Sem.run_bind, Sem.run_pure, Result.andThen_ok, this, and_self, if_true]
      · cases hl

def RepO (G : Gh) (x : Option AV) (v : Option Value) : Prop := match x, v with | none, none => True | some a, some b => Rep G a b | _, _ => False

theorem run_sliceBounds {lo hi : Option AV} {vlo vhi : Option Value} (h1 : RepO G lo vlo) (h2 : RepO G hi vhi) (isS : Bool) {len cap l h : Nat} (hl : optIdx lo 0 = some l) (hh : optIdx hi len = some h) (hle : l ≤ h) (hc : h ≤ cap) :
    (Instr.sliceBounds isS len cap vlo vhi none).run P G.w = .ok (l, h, cap) G.w := by
  have e1 := run_optIdx_hi (P := P) h2 hh hc (if isS then .sliceAcap else .sliceAlen)
  have e2 := run_optIdx_lo (P := P) h1 hl hle .sliceB
  unfold Instr.sliceBounds
  cases vhi with
  | none =>
    cases vlo with
    | none => simp only [Sem.run_bind, Sem.run_pure, Result.andThen_ok] at e1 e2 ⊢; cases e1; cases e2; rfl
    | some b => simp only [Sem.run_bind, Sem.run_pure, Result.andThen_ok, Option.isSome_none, Bool.false_eq_true, if_false] at e1 e2 ⊢; cases e1; rw [e2]; rfl
  | some a =>
    cases vlo with
    | none => simp only [Sem.run_bind, Sem.run_pure, Result.andThen_ok] at e1 e2 ⊢; rw [e1]; cases e2; rfl
    | some b => simp only [Sem.run_bind, Sem.run_pure, Result.andThen_ok, Option.isSome_none, Bool.false_eq_true, if_false] at e1 e2 ⊢; rw [e1]; simp only [Result.andThen_ok]; rw [e2]; rfl

theorem drop_elems {xs : List AV} {blk o sz : Nat} (hE : RepElems G xs blk o sz) (l h : Nat) (hh : h ≤ xs.length) : RepElems G ((xs.take h).drop l) blk (o + l * sz) sz :=
  RepElems.of_get fun i x hx => by
    rw [List.getElem?_drop] at hx
    have hlt : l + i < h := by
      rcases Nat.lt_or_ge (l + i) h with q | q
      · exact q
      · rw [List.getElem?_eq_none (by simp; omega)] at hx; cases hx
    rw [List.getElem?_take_of_lt hlt] at hx
    have := hE.get hx
    rwa [show o + l * sz + i * sz = o + (l + i) * sz by rw [Nat.add_mul]; omega]

theorem run_sliceAt_str {t : TypeId} {ti : TI} (ht : tiOf P t = some ti) (hd : ti.d = .str) {b : List UInt8} {v : Value} (hx : Rep G (.str b) v) {lo hi : Option AV} {vlo vhi : Option Value} (h1 : RepO G lo vlo) (h2 : RepO G hi vhi)
    {l h : Nat} (hl : optIdx lo 0 = some l) (hh : optIdx hi b.length = some h) (hle : l ≤ h) (hc : h ≤ b.length) :
    ∃ u, (Instr.sliceAt t v vlo vhi none).run P G.w = .ok u G.w ∧ Rep G (.str ((b.take h).drop l)) u := by
  obtain ⟨ii, d, z, F⟩ := tiOf_facts ht
  obtain rfl := tdOf_str (F.d ▸ hd)
  have hu := F.run_und G.w
  generalize hb : b = b' at hx
  cases hx with
  | str s =>
    subst hb
    have hs := run_sliceBounds (P := P) h1 h2 false (len := s.size) (cap := s.size) hl (by rwa [ba_len] at hh) hle (by rwa [ba_len] at hc)
    refine ⟨.string (s.extract l h), ?_, by rw [← ba_extract]; exact .str _⟩
    simp only [Instr.sliceAt, Sem.run_bind, hu, Result.andThen_ok, Instr.slice, Option.isSome_none, Bool.false_eq_true, if_false, Sem.run_pure, hs]

theorem run_sliceAt_sl {t e : TypeId} {ti te : TI} (ht : tiOf P t = some ti) (hd : ti.d = .slice e) (he : tiOf P e = some te) {xs : List AV} {v : Value} (hx : Rep G (.sl xs) v) {lo hi : Option AV} {vlo vhi : Option Value} (h1 : RepO G lo vlo) (h2 : RepO G hi vhi)
    {l h : Nat} (hl : optIdx lo 0 = some l) (hh : optIdx hi xs.length = some h) (hle : l ≤ h) (hc : h ≤ xs.length) (hs : l = 0 ∨ xs.all (fun x => decide (x.cells.length = te.size)) = true) :
    ∃ u, (Instr.sliceAt t v vlo vhi none).run P G.w = .ok u G.w ∧ Rep G (.sl ((xs.take h).drop l)) u := by
  obtain ⟨ii, d, z, F⟩ := tiOf_facts ht
  obtain ⟨i2, d2, z2, F2⟩ := tiOf_facts he
  obtain rfl := tdOf_slice (F.d ▸ hd)
  have hu := F.run_und G.w
  generalize hxs : xs = xs' at hx
  cases hx with
  | sl0 a cap =>
    subst hxs
    simp only [List.length_nil, Nat.le_zero] at hc
    subst hc
    obtain rfl : l = 0 := by omega
    have hs := run_sliceBounds (P := P) h1 h2 true (len := 0) (cap := cap) hl hh hle (Nat.zero_le _)
    refine ⟨.slice (if cap = 0 then a else a.map (·.add (0 * te.size))) (0 - 0) (cap - 0), ?_, .sl0 _ _⟩
    simp only [Instr.sliceAt, Sem.run_bind, hu, Result.andThen_ok, Instr.slice, hs, F2.run_size, Sem.run_pure]
  | sl hle2 hE =>
    subst hxs
    rename_i blk o sz cap
    have hs2 := run_sliceBounds (P := P) h1 h2 true (len := xs.length) (cap := cap) hl hh hle (by omega)
    have hlen : ((xs.take h).drop l).length = h - l := by rw [List.length_drop, List.length_take]; omega
    refine ⟨.slice (if cap = l then some ⟨blk, o, none⟩ else (some (⟨blk, o, none⟩ : Addr)).map (·.add (l * te.size))) (h - l) (cap - l), ?_, ?_⟩
    · simp only [Instr.sliceAt, Sem.run_bind, hu, Result.andThen_ok, Instr.slice, hs2, F2.run_size, Sem.run_pure]
    · by_cases hz : h - l = 0
      · have : (xs.take h).drop l = [] := by apply List.eq_nil_of_length_eq_zero; omega
        rw [this, hz]
        exact .sl0 _ _
      · rw [if_neg (by omega), Option.map_some, Addr.add_lit]
        have hsz : l * te.size = l * sz := by
          rcases hs with h0 | h0
          · subst h0; simp
          · have hx0 : ∃ x, xs[l]? = some x := ⟨_, List.getElem?_eq_getElem (by omega)⟩
            obtain ⟨x, hx⟩ := hx0
            have h3 := (List.all_eq_true.1 h0 x (List.mem_of_getElem? hx))
            simp only [decide_eq_true_eq] at h3
            rw [← h3, (hE.get hx).1]
        rw [hsz, ← hlen]
        exact .sl (by omega) (drop_elems hE l h hc)

theorem run_sliceAt_sr {t e : TypeId} {ti te : TI} (ht : tiOf P t = some ti) (hd : ti.d = .slice e) (he : tiOf P e = some te) {b g off len : Nat} {v : Value} (hx : Rep G (.sr b g off len) v) {lo hi : Option AV} {vlo vhi : Option Value} (h1 : RepO G lo vlo) (h2 : RepO G hi vhi)
    {l h : Nat} (hl : optIdx lo 0 = some l) (hh : optIdx hi len = some h) (hle : l ≤ h) (hc : h ≤ len) {kk : ABlk} (hk : G.σ[b]? = some kk) (hks : kk.sz = some te.size) :
    ∃ u, (Instr.sliceAt t v vlo vhi none).run P G.w = .ok u G.w ∧ Rep G (.sr b g (off + l) (h - l)) u := by
  obtain ⟨ii, d, z, F⟩ := tiOf_facts ht
  obtain ⟨i2, d2, z2, F2⟩ := tiOf_facts he
  obtain rfl := tdOf_slice (F.d ▸ hd)
  have hu := F.run_und G.w
  cases hx with
  | sr0 hid hr =>
    obtain rfl : h = 0 := by omega
    obtain rfl : l = 0 := by omega
    have hs := run_sliceBounds (P := P) h1 h2 true (len := 0) (cap := 0) hl hh hle (Nat.zero_le _)
    refine ⟨.slice none 0 0, ?_, .sr0 hid hr⟩
    simp only [Instr.sliceAt, Sem.run_bind, hu, Result.andThen_ok, Instr.slice, hs, F2.run_size, Sem.run_pure, if_true, Nat.sub_self]
  | sr hid hr hle2 hb hcc =>
    rename_i sz blk cap c e2 fz
    have hsz : sz = te.size := by
      obtain ⟨k2, p1, _, p2⟩ := hid
      rw [hk] at p1; cases p1
      rw [hks] at p2; cases p2; rfl
    subst hsz
    have hs2 := run_sliceBounds (P := P) h1 h2 true (len := len) (cap := cap) hl hh hle (by omega)
    refine ⟨.slice (if cap = l then some ⟨blk, off * te.size, none⟩ else (some (⟨blk, off * te.size, none⟩ : Addr)).map (·.add (l * te.size))) (h - l) (cap - l), ?_, ?_⟩
    · simp only [Instr.sliceAt, Sem.run_bind, hu, Result.andThen_ok, Instr.slice, hs2, F2.run_size, Sem.run_pure]
    · by_cases hcl : cap = l
      · rw [if_pos hcl]
        have h0 : h - l = 0 := by omega
        rw [h0]
        by_cases ho : off + l = 0
        · rw [ho]
          obtain rfl : off = 0 := by omega
          exact .sr hid hr (Nat.zero_le _) hb (by rw [← hcl, Nat.sub_self]; simp)
        · exact .srE hid hr ho
      · rw [if_neg hcl, Option.map_some, Addr.add_lit, ← Nat.add_mul]
        exact .sr hid hr (by omega) hb (Nat.le_trans (Nat.mul_le_mul_right _ (by omega)) hcc)
  | srE hid hr ho =>
    rename_i sz blk o cap
    obtain rfl : h = 0 := by omega
    obtain rfl : l = 0 := by omega
    have hs := run_sliceBounds (P := P) h1 h2 true (len := 0) (cap := cap) hl hh hle (Nat.zero_le _)
    refine ⟨.slice (if cap = 0 then some ⟨blk, o, none⟩ else (some (⟨blk, o, none⟩ : Addr)).map (·.add (0 * te.size))) (0 - 0) (cap - 0), ?_, ?_⟩
    · simp only [Instr.sliceAt, Sem.run_bind, hu, Result.andThen_ok, Instr.slice, hs, F2.run_size, Sem.run_pure]
    · have : (if cap = 0 then some ⟨blk, o, none⟩ else (some (⟨blk, o, none⟩ : Addr)).map (·.add (0 * te.size))) = some ⟨blk, o, none⟩ := by split <;> simp [Addr.add]
      rw [this]
      exact .srE hid hr ho

def LenInv (d : TD) : AV → Prop
  | .str _ => d = .str
  | .sl _ => ∃ e, d = .slice e
  | .snil => ∃ e, d = .slice e
  | .sr .. => ∃ e, d = .slice e
  | _ => ∃ k e, d = .map k e
theorem lenTD_inv {d : TD} {x : AV} (h : lenTD d x = true) : LenInv d x := by
  cases d <;> cases x <;> first
    | (cases h; done)
    | rfl
    | exact ⟨_, rfl⟩
    | exact ⟨_, _, rfl⟩
theorem run_len {x : AV} {n : Nat} {v : Value} (inv : Inv G) (hx : Rep G x v) (h : lenOf G.σ x = some n) {t : TypeId} {ti : TI} (ht : tiOf P t = some ti) (hk : lenTD ti.d x = true)
    (ty : TypeId) : (Builtin.len_ #[t] ty #[v]).run P G.w = .ok (.int .i64 n) G.w := by
  obtain ⟨ii, d, z, F⟩ := tiOf_facts ht
  have hu := F.run_und G.w
  have repE_len : ∀ {es : List (AV × AV)} {ents : List MapEntry}, RepE G es ents → es.length = ents.length := by
    intro es
    induction es with
    | nil => intro ents h; cases h; rfl
    | cons a es ih => intro ents h; cases h with | cons _ _ _ t => simp [ih t]
  have hf := lenTD_inv hk
  cases hx <;> simp only [lenOf] at h <;> try (cases h; done)
  all_goals simp only [LenInv] at hf
  · cases h
    rw [F.d] at hf
    obtain rfl := tdOf_str hf
    simp [Builtin.len_, hu, goInt, ba_len]
  · cases h
    obtain ⟨e, he⟩ := hf
    obtain rfl := tdOf_slice (F.d ▸ he)
    simp [Builtin.len_, hu, goInt]
  · cases h
    obtain ⟨e, he⟩ := hf
    obtain rfl := tdOf_slice (F.d ▸ he)
    simp [Builtin.len_, hu, goInt]
  · cases h
    obtain ⟨e, he⟩ := hf
    obtain rfl := tdOf_slice (F.d ▸ he)
    simp [Builtin.len_, hu, goInt]
  · cases h
    obtain ⟨e, he⟩ := hf
    obtain rfl := tdOf_slice (F.d ▸ he)
    simp [Builtin.len_, hu, goInt]
  · cases h
    obtain ⟨e, he⟩ := hf
    obtain rfl := tdOf_slice (F.d ▸ he)
    simp [Builtin.len_, hu, goInt]
  · cases h
    obtain ⟨e, he⟩ := hf
    obtain rfl := tdOf_slice (F.d ▸ he)
    simp [Builtin.len_, hu, goInt]
  · cases h
    obtain ⟨k, e, he⟩ := hf
    obtain rfl := tdOf_map (F.d ▸ he)
    simp [Builtin.len_, hu, goInt]
  · rename_i es blk ents ck hb hff hE
    cases h
    obtain ⟨k, e, he⟩ := hf
    obtain rfl := tdOf_map (F.d ▸ he)
    have := repE_len hE
    simp [Builtin.len_, hu, goInt, getObj, Sem.run, hb]
    have h2 : ents.size = es.length := by simpa using this.symm
    omega
  · cases h
    obtain ⟨k, e, he⟩ := hf
    obtain rfl := tdOf_map (F.d ▸ he)
    simp [Builtin.len_, hu, goInt]
  · rename_i b blk hid hr
    split at h
    · rename_i es hes
      cases h
      obtain ⟨blk', ents, ck, q1, q2, q3, q4⟩ := inv.maps b es hes
      rw [hr] at q1
      cases q1
      obtain ⟨k, e, he⟩ := hf
      obtain rfl := tdOf_map (F.d ▸ he)
      have := repE_len q3
      simp [Builtin.len_, hu, goInt, getObj, Sem.run, q2]
      have h2 : ents.size = es.length := by simpa using this.symm
      omega
    · cases h
end
end Go.Proofs.YtbjgepnkakcjaaaDoor.Lift
