/-
  LIFT, 9: operators; conversions; places; slices of slices and strings; len.
-/
import Derived.Test.YtbjgepnkakcjaaaDoorL8
namespace Go.Proofs.YtbjgepnkakcjaaaDoor.Lift
open Go

section
variable {P : Program} {G : Gh}

theorem evBin_int_inv {op : BinOp} {ti : TI} {x y v : AV} (h : evBin op ti x y = some v) (h1 : op ≠ .eql) (h2 : op ≠ .neq) :
    (∃ k a k' b, x = .int k a ∧ y = .int k' b) ∨ (∃ a b, x = .str a ∧ y = .str b ∧ (op = .add ∨ op = .lss)) := by
  cases op <;> first
    | exact absurd rfl h1
    | exact absurd rfl h2
    | (cases x with
       | int k a => cases y with
         | int k' b => exact .inl ⟨_, _, _, _, rfl, rfl⟩
         | _ => cases h
       | str a => cases y with
         | str b => first | exact .inr ⟨_, _, rfl, rfl, .inl rfl⟩ | exact .inr ⟨_, _, rfl, rfl, .inr rfl⟩ | cases h
         | _ => cases h
       | _ => cases h)

theorem run_evBin (op : BinOp) {t : TypeId} {ti : TI} (ht : tiOf P t = some ti) {x y v : AV} {vx vy : Value} (hx : Rep G x vx) (hy : Rep G y vy) (h : evBin op ti x y = some v) (ox oy : Operand) :
    ∃ u, (do eqGuard op t ox oy vx vy; binOp op t vx vy : Sem Value).run P G.w = .ok u G.w ∧ Rep G v u := by
  by_cases e1 : op = .eql
  · subst e1
    simp only [evBin] at h
    cases he : eqv ti x y with
    | none => rw [he] at h; cases h
    | some b =>
      rw [he] at h; cases h
      obtain ⟨h1, h2, _⟩ := run_eqv (P := P) ht hx hy he ox oy .eql
      exact ⟨.bool b, by simp only [Sem.run_bind, h1, Result.andThen_ok, h2], .bool b⟩
  by_cases e2 : op = .neq
  · subst e2
    simp only [evBin] at h
    cases he : eqv ti x y with
    | none => rw [he] at h; cases h
    | some b =>
      rw [he] at h; cases h
      obtain ⟨h1, _, h2⟩ := run_eqv (P := P) ht hx hy he ox oy .neq
      exact ⟨.bool (!b), by simp only [Sem.run_bind, h1, Result.andThen_ok, h2], .bool (!b)⟩
  rcases evBin_int_inv h e1 e2 with ⟨k, a, k', b, rfl, rfl⟩ | ⟨a, b, rfl, rfl, hop⟩
  · cases hx
    cases hy
    simp only [eqGuard_at_int, Sem.run_bind, Sem.run_pure, Result.andThen_ok]
    cases op <;> simp only [evBin] at h <;> first
      | exact absurd rfl e1
      | exact absurd rfl e2
      | (split at h
         · rename_i hk
           cases h
           first
             | (subst hk
                refine ⟨_, ?_, .int _ _⟩
                simp [binOp, Op.intArith, Op.intBits]; done)
             | (subst hk
                refine ⟨_, ?_, .bool _⟩
                simp [binOp, Op.intCmp]; done)
             | (obtain ⟨rfl, hb⟩ := hk
                refine ⟨_, ?_, .int _ _⟩
                simp [binOp, Op.intDiv, hb]; done)
             | (refine ⟨_, ?_, .int _ _⟩
                simp [binOp, Op.shift, show ¬ b < 0 by omega]; done)
         · cases h)
  · generalize ha : a = a' at hx
    generalize hb : b = b' at hy
    cases hx
    cases hy
    subst ha hb
    simp only [eqGuard_at_string, Sem.run_bind, Sem.run_pure, Result.andThen_ok]
    rcases hop with rfl | rfl
    · rename_i sa sb
      simp only [evBin] at h
      split at h
      · rename_i hl
        cases h
        refine ⟨.string (sa ++ sb), ?_, by rw [← ba_append]; exact .str _⟩
        have : ¬ (((sa.size + sb.size : Nat) : Int) > IntKind.i64.max) := by
          rw [ba_len, ba_len] at hl
          rw [IntKind.max_i64]
          omega
        simp only [binOp, Op.stringOp, this, if_false, Sem.run_pure]
      · cases h
    · simp only [evBin] at h
      cases h
      refine ⟨_, ?_, .bool _⟩
      simp only [binOp, Op.stringOp, Sem.run_pure, ByteArray.toList_eq]

theorem run_evUn (op : UnOp) {x v : AV} {vx : Value} (hx : Rep G x vx) (h : evUn op x = some v) : ∃ u, (Op.unary op vx).run P G.w = .ok u G.w ∧ Rep G v u := by
  cases op <;> cases x <;> first
    | (cases h; done)
    | (cases hx
       cases h
       exact ⟨_, rfl, by constructor⟩)

def ptrAdd (x : AV) (n : Nat) : Option AV := match x with
  | .ptr b g i off => some (.ptr b g i (off + n))
  | .rp y off => some (.rp y (off + n))
  | _ => none

/-- a place within a slice, an array, a struct -/
theorem run_fieldAt {t : TypeId} {ti : TI} (ht : tiOf P t = some ti) {fs : List (Nat × Nat)} (hd : ti.d = .struct fs) {f o ft : Nat} (hf : fs[f]? = some (o, ft)) {fti : TI} (hft : tiOf P ft = some fti) (hs : fti.size ≠ 0)
    {x v : AV} {vx : Value} (hx : Rep G x vx) (h : ptrAdd x o = some v) :
    ∃ u, (Instr.fieldAt t vx f).run P G.w = .ok u G.w ∧ Rep G v u := by
  obtain ⟨i, d, z, F⟩ := tiOf_facts ht
  obtain ⟨i2, d2, z2, F2⟩ := tiOf_facts hft
  have hD : ∃ gs : Array Field, d = .struct gs ∧ ∃ fl, gs[f]? = some fl ∧ fl.offset = o ∧ fl.type = ft := by
    rw [F.d] at hd
    cases d <;> simp [tdOf] at hd
    rename_i gs
    refine ⟨gs, rfl, ?_⟩
    rw [← hd, List.getElem?_map, Array.getElem?_toList] at hf
    cases hg : gs[f]? with
    | none => rw [hg] at hf; cases hf
    | some fl => rw [hg] at hf; cases hf; exact ⟨fl, rfl, rfl, rfl⟩
  obtain ⟨gs, rfl, fl, hfl, rfl, rfl⟩ := hD
  have hu := F.run_und G.w
  cases hx <;> cases h
  · rename_i b g i off sz blk hid hr
    refine ⟨.pointer (some ⟨blk, i * sz + (off + fl.offset), none⟩), ?_, .ptr hid hr⟩
    simp only [Instr.fieldAt, Sem.run_bind, hu, Result.andThen_ok, hfl, Instr.sureAddr, Sem.run_pure, fieldPlace, F2.run_size, hs, if_false, Addr.add_lit, Nat.add_assoc]
  · rename_i y off blk oo hc
    refine ⟨.pointer (some ⟨blk, oo + (off + fl.offset), none⟩), ?_, .rp hc⟩
    simp only [Instr.fieldAt, Sem.run_bind, hu, Result.andThen_ok, hfl, Instr.sureAddr, Sem.run_pure, fieldPlace, F2.run_size, hs, if_false, Addr.add_lit, Nat.add_assoc]

theorem run_field {t : TypeId} {ti : TI} (ht : tiOf P t = some ti) {fs : List (Nat × Nat)} (hd : ti.d = .struct fs) {f o ft : Nat} (hf : fs[f]? = some (o, ft)) {fti : TI} (hft : tiOf P ft = some fti)
    {cs : List AV} {v : AV} {vx : Value} (hx : Rep G (.agg cs) vx) (h : part fti (.agg cs) o = some v) : ∃ u, (Instr.field t vx f).run P G.w = .ok u G.w ∧ Rep G v u := by
  obtain ⟨i, d, z, F⟩ := tiOf_facts ht
  have hD : ∃ gs : Array Field, d = .struct gs ∧ ∃ fl, gs[f]? = some fl ∧ fl.offset = o ∧ fl.type = ft := by
    rw [F.d] at hd
    cases d <;> simp [tdOf] at hd
    rename_i gs
    refine ⟨gs, rfl, ?_⟩
    rw [← hd, List.getElem?_map, Array.getElem?_toList] at hf
    cases hg : gs[f]? with
    | none => rw [hg] at hf; cases hf
    | some fl => rw [hg] at hf; cases hf; exact ⟨fl, rfl, rfl, rfl⟩
  obtain ⟨gs, rfl, fl, hfl, rfl, rfl⟩ := hD
  have hu := F.run_und G.w
  cases hx with
  | agg hl =>
    obtain ⟨u, h1, h2⟩ := run_part (P := P) hft hl h
    exact ⟨u, by simp only [Instr.field, Sem.run_bind, hu, Result.andThen_ok, hfl, asAgg, Sem.run_pure, h1], h2⟩

theorem tdOf_slice {d : TypeDesc} {e : Nat} (h : tdOf d = .slice e) : d = .slice e := by cases d <;> simp [tdOf] at h; subst h; rfl
theorem tdOf_array {d : TypeDesc} {n e : Nat} (h : tdOf d = .array n e) : d = .array n e := by
  cases d <;> simp [tdOf] at h; obtain ⟨rfl, rfl⟩ := h; rfl
theorem tdOf_str {d : TypeDesc} (h : tdOf d = .str) : d = .string := by cases d <;> simp [tdOf] at h; rfl
theorem tdOf_int {d : TypeDesc} {k : IntKind} (h : tdOf d = .int k) : d = .int k := by cases d <;> simp [tdOf] at h; subst h; rfl
theorem tdOf_map {d : TypeDesc} {k e : Nat} (h : tdOf d = .map k e) : d = .map k e := by
  cases d <;> simp [tdOf] at h; obtain ⟨rfl, rfl⟩ := h; rfl

/-- a slice's elements are of the size that its type says (asked of the frozen ones at each index) -/
theorem run_indexAt_sl {t e : TypeId} {ti te : TI} (ht : tiOf P t = some ti) (hd : ti.d = .slice e) (he : tiOf P e = some te) {k : IntKind} {i : Int} (h0 : 0 ≤ i) {xs : List AV} {v : AV} (hv : xs[i.toNat]? = some v) (hsz : v.cells.length = te.size)
    {vx : Value} (hx : Rep G (.sl xs) vx) : ∃ u, (Instr.indexAt t vx (.int k i)).run P G.w = .ok u G.w ∧ Rep G (.rp v 0) u := by
  obtain ⟨ii, d, z, F⟩ := tiOf_facts ht
  obtain ⟨i2, d2, z2, F2⟩ := tiOf_facts he
  obtain rfl := tdOf_slice (F.d ▸ hd)
  have hu := F.run_und G.w
  cases hx with
  | sl0 a cap => simp at hv
  | sl hl hE =>
    rename_i blk o sz cap
    obtain ⟨h1, h2⟩ := hE.get hv
    have hlt : i.toNat < xs.length := by
      rcases Nat.lt_or_ge i.toNat xs.length with h | h
      · exact h
      · rw [List.getElem?_eq_none h] at hv; cases hv
    refine ⟨.pointer (some ⟨blk, o + i.toNat * sz + 0, none⟩), ?_, .rp h2⟩
    have hin : (0 : Int) ≤ i ∧ i < (xs.length : Int) := ⟨h0, by omega⟩
    simp only [Instr.indexAt, asIntOf, Sem.run_bind, Sem.run_pure, Result.andThen_ok, hu, hin, and_self, if_true, F2.run_size, Addr.add_lit, ← hsz, h1, Nat.add_zero]

theorem run_indexAt_sr {t e : TypeId} {ti te : TI} (ht : tiOf P t = some ti) (hd : ti.d = .slice e) (he : tiOf P e = some te) {k : IntKind} {i : Int} {b g off len : Nat} (h0 : 0 ≤ i) (h1 : i < (len : Int)) (hsz : ∃ kk, G.σ[b]? = some kk ∧ kk.sz = some te.size)
    {vx : Value} (hx : Rep G (.sr b g off len) vx) : ∃ u, (Instr.indexAt t vx (.int k i)).run P G.w = .ok u G.w ∧ Rep G (.ptr b g (off + i.toNat) 0) u := by
  obtain ⟨ii, d, z, F⟩ := tiOf_facts ht
  obtain ⟨i2, d2, z2, F2⟩ := tiOf_facts he
  obtain rfl := tdOf_slice (F.d ▸ hd)
  have hu := F.run_und G.w
  cases hx with
  | sr0 => omega
  | srE => omega
  | sr hid hr hl hb hc =>
    rename_i sz blk cap c e2 fz
    have hs : sz = te.size := by
      obtain ⟨kk, q1, q2⟩ := hsz
      obtain ⟨k2, p1, _, p2⟩ := hid
      rw [q1] at p1; cases p1
      rw [q2] at p2; cases p2; rfl
    subst hs
    refine ⟨.pointer (some ⟨blk, (off + i.toNat) * te.size + 0, none⟩), ?_, .ptr hid hr⟩
    have hin : (0 : Int) ≤ i ∧ i < (len : Int) := ⟨h0, h1⟩
    simp only [Instr.indexAt, asIntOf, Sem.run_bind, Sem.run_pure, Result.andThen_ok, hu, hin, and_self, if_true, F2.run_size, Addr.add_lit, Nat.add_zero, Nat.add_mul]

theorem run_indexAt_arr {t n e : TypeId} {ti te : TI} (ht : tiOf P t = some ti) (hd : ti.d = .array n e) (he : tiOf P e = some te) {k : IntKind} {i : Int} (h0 : 0 ≤ i) (h1 : i < (n : Int)) {x v : AV}
    {vx : Value} (hx : Rep G x vx) (h : ptrAdd x (i.toNat * te.size) = some v) :
    ∃ u, (Instr.indexAt t vx (.int k i)).run P G.w = .ok u G.w ∧ Rep G v u := by
  obtain ⟨ii, d, z, F⟩ := tiOf_facts ht
  obtain ⟨i2, d2, z2, F2⟩ := tiOf_facts he
  obtain rfl := tdOf_array (F.d ▸ hd)
  have hu := F.run_und G.w
  have hin : (0 : Int) ≤ i ∧ i < (n : Int) := ⟨h0, h1⟩
  cases hx <;> cases h
  · rename_i b g j off sz blk hid hr
    refine ⟨.pointer (some ⟨blk, j * sz + (off + i.toNat * te.size), none⟩), ?_, .ptr hid hr⟩
    simp only [Instr.indexAt, asIntOf, Instr.sureAddr, Sem.run_bind, Sem.run_pure, Result.andThen_ok, hu, hin, and_self, if_true, F2.run_size, Addr.add_lit, Nat.add_assoc]
  · rename_i y off blk oo hc
    refine ⟨.pointer (some ⟨blk, oo + (off + i.toNat * te.size), none⟩), ?_, .rp hc⟩
    simp only [Instr.indexAt, asIntOf, Instr.sureAddr, Sem.run_bind, Sem.run_pure, Result.andThen_ok, hu, hin, and_self, if_true, F2.run_size, Addr.add_lit, Nat.add_assoc]

theorem run_index_str {t : TypeId} {ti : TI} (ht : tiOf P t = some ti) (hd : ti.d = .str) {k : IntKind} {i : Int} (h0 : 0 ≤ i) {b : List UInt8} {c : UInt8} (hc : b[i.toNat]? = some c) {vx : Value} (hx : Rep G (.str b) vx) :
    (Instr.index t vx (.int k i)).run P G.w = .ok (.int .u8 c.toNat) G.w := by
  obtain ⟨ii, d, z, F⟩ := tiOf_facts ht
  obtain rfl := tdOf_str (F.d ▸ hd)
  have hu := F.run_und G.w
  generalize hb : b = b' at hx
  cases hx with
  | str s =>
    subst hb
    rw [← ba_get] at hc
    simp only [Instr.index, asIntOf, Sem.run_bind, Sem.run_pure, Result.andThen_ok, hu, h0, if_true, hc]

theorem run_index_arr {t n e : TypeId} {ti te : TI} (ht : tiOf P t = some ti) (hd : ti.d = .array n e) (he : tiOf P e = some te) {k : IntKind} {i : Int} (h0 : 0 ≤ i) (h1 : i < (n : Int)) {cs : List AV} {v : AV} {vx : Value} (hx : Rep G (.agg cs) vx)
    (h : part te (.agg cs) (i.toNat * te.size) = some v) : ∃ u, (Instr.index t vx (.int k i)).run P G.w = .ok u G.w ∧ Rep G v u := by
  obtain ⟨ii, d, z, F⟩ := tiOf_facts ht
  obtain ⟨i2, d2, z2, F2⟩ := tiOf_facts he
  obtain rfl := tdOf_array (F.d ▸ hd)
  have hu := F.run_und G.w
  have hin : (0 : Int) ≤ i ∧ i < (n : Int) := ⟨h0, h1⟩
  cases hx with
  | agg hl =>
    obtain ⟨u, h1, h2⟩ := run_part (P := P) he hl h
    exact ⟨u, by simp only [Instr.index, asIntOf, Sem.run_bind, Sem.run_pure, Result.andThen_ok, hu, hin, and_self, if_true, F2.run_size, h1], h2⟩
end
end Go.Proofs.YtbjgepnkakcjaaaDoor.Lift
