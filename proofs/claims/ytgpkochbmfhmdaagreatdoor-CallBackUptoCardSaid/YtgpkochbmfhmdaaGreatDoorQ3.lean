/-
  LIFT, 12: append of slices and strings; composite literals; make; conversions; maps.
  LIFT, 13: make; conversions; maps.
  LIFT, 14: maps.
  LIFT, 15: EVERY OPERATION OF THE EVALUATOR IS AS THE MACHINE's.
  LIFT, 16: EVERY OPERATION OF THE EVALUATOR IS AS THE MACHINE's (calls of function values apart).
  LIFT, 17: CALLS of function values (a function that has a contract), and a straight region.
-/
import Derived.Test.YtgpkochbmfhmdaaGreatDoorQ2
import Derived.Lib.ConvBytes
import Derived.Laws.BytesString
import Derived.Laws.BytesArg
import Derived.Laws.MakeOwn
import Derived.RangeFuncCalls
import Derived.RangeFuncSeq
namespace Go.Proofs.YtgpkochbmfhmdaaGreatDoor.Lift
open Go

section
variable {P : Program} {G : Gh}

theorem does_append_slice (inv : Inv G) {t t2 e e2 : TypeId} {ti ti2 te : TI} (ht : tiOf P t = some ti) (hd : ti.d = .slice e) (he : tiOf P e = some te) (ht2 : tiOf P t2 = some ti2) (hd2 : ti2.d = .slice e2)
    {x y : AV} {ys : List AV} {vx vy : Value} (hx : Rep G x vx) (hy : Rep G y vy) (hys : elemsOf G.σ y = some ys) {v : AV} {st : Sto} (h : appendTo te.size te.bytes G.σ x ys = some (v, st)) (ty : TypeId) :
    Does P G (Builtin.append_ #[t, t2] ty #[vx, vy]) v st :=
  does_append inv ht hd he ht2 (fun k hk => by rw [hd2] at hk; cases hk) hx (run_lenOf_slice hy hys) (fun hs => run_firstCells (P := P) inv hy hys hs) h ty

theorem bytes_cells (s : List UInt8) : (s.map fun b => AV.int .u8 b.toNat).flatMap AV.cells = s.map fun b => AV.int .u8 b.toNat := by
  induction s with
  | nil => rfl
  | cons b s ih => rw [List.map_cons, List.flatMap_cons, ih]; rfl
theorem bytes_rep (s : List UInt8) : RepL G (s.map fun b => AV.int .u8 b.toNat) (s.map fun b => Value.int .u8 b.toNat) := by
  induction s with
  | nil => exact .nil
  | cons b s ih => exact .cons (.int _ _) ih

theorem does_append_str (inv : Inv G) {t t2 e : TypeId} {ti ti2 te : TI} (ht : tiOf P t = some ti) (hd : ti.d = .slice e) (he : tiOf P e = some te) (ht2 : tiOf P t2 = some ti2) (hd2 : ti2.d = .str)
    {x : AV} {s : List UInt8} {vx vy : Value} (hx : Rep G x vx) (hy : Rep G (.str s) vy) {v : AV} {st : Sto} (h : appendTo te.size te.bytes G.σ x (s.map fun b => .int .u8 b.toNat) = some (v, st)) (ty : TypeId) :
    Does P G (Builtin.append_ #[t, t2] ty #[vx, vy]) v st := by
  generalize hb : s = s' at hy
  cases hy with
  | str b =>
    subst hb
    refine does_append inv ht hd he ht2 (fun k hk => by rw [hd2] at hk; cases hk) hx (by rw [List.length_map, ba_len]; rfl) (fun hs => ?_) h ty
    refine ⟨b.data.toList.map fun b => Value.int .u8 b.toNat, fun w' _ => ?_, by rw [bytes_cells]; exact bytes_rep _⟩
    simp only [Builtin.firstCells, Sem.run_pure, List.length_map, ba_len]
    congr 1
    apply Array.ext'
    simp [Lib.extract_data, ba_len]

theorem rep_list_map {xs : List Operand} {f : Operand → AV} {g : Operand → Value} (h : ∀ x, Rep G (f x) (g x)) : RepL G (xs.map f) (xs.map g) := by
  induction xs with
  | nil => exact .nil
  | cons a xs ih => exact .cons (h a) ih

/-- the parts of a literal are laid over cells, in memory as here -/
theorem fill_rep {place : Nat → Option (Nat × Nat)} {place' : Nat → Option (Nat × Nat)} (hp : ∀ i o s, place i = some (o, s) → place' i = some (o, s)) : ∀ {ps : List (Nat × AV)} {vs : List (Nat × Value)} {cells out : List AV} {cs : Array Value},
    (∀ (i : Nat) (p : Nat × AV), ps[i]? = some p → ∃ v, vs[i]? = some (p.1, v) ∧ Rep G p.2 v ∧ p.2 ≠ .undef) → ps.length = vs.length → RepL G cells cs.toList → fillParts place cells ps = some out → ∃ cs', Instr.fill place' cs vs = some cs' ∧ RepL G out cs'.toList
  | [], [], cells, out, cs, _, _, hc, h => by cases h; exact ⟨cs, rfl, hc⟩
  | (i, x) :: ps, (j, v) :: vs, cells, out, cs, hv, hl, hc, h => by
    obtain ⟨v', h1, h2, h3⟩ := hv 0 (i, x) rfl
    simp only [List.getElem?_cons_zero, Option.some.injEq, Prod.mk.injEq] at h1
    obtain ⟨rfl, rfl⟩ := h1
    simp only [fillParts] at h
    split at h
    · rename_i off size hpl
      split at h
      · rename_i hs
        have hvc := h2.cells h3
        have hsz : v.cells.size = x.cells.length := by have := hvc.length; simpa using this.symm
        have hcl : cells.length = cs.size := by have := hc.length; simpa using this
        have key : RepL G (splice cells off x.cells) (v.cells.zipIdx.foldl (fun cs (c, j) => cs.setIfInBounds (off + j) c) cs).toList := by
          have hput : v.cells.zipIdx.foldl (fun cs (c, j) => cs.setIfInBounds (off + j) c) cs = putCells cs off v.cells.toList := by
            rw [← Array.foldl_toList, Array.toList_zipIdx]
            have gen : ∀ (l : List Value) (k : Nat) (cs : Array Value), (l.zipIdx k).foldl (fun cs (p : Value × Nat) => cs.setIfInBounds (off + p.2) p.1) cs = putCells cs (off + k) l := by
              intro l
              induction l with
              | nil => intro k cs; rfl
              | cons a l ih => intro k cs; rw [List.zipIdx_cons, List.foldl_cons, ih, putCells, Nat.add_assoc]
            exact gen v.cells.toList 0 cs
          rw [hput]
          refine RepL.of_get ?_ fun k y u hy hu => ?_
          · show (splice cells off x.cells).length = (putCells cs off v.cells.toList).size
            rw [putCells_size]
            simp only [splice, List.length_append, List.length_take, List.length_drop]
            omega
          · rw [splice_get _ _ _ _ (by omega)] at hy
            rw [Array.getElem?_toList, putCells_get _ _ _ _ (by simp; omega)] at hu
            have hvl : v.cells.toList.length = x.cells.length := by simpa using hsz
            by_cases hk : off ≤ k ∧ k < off + x.cells.length
            · rw [if_pos hk] at hy
              rw [if_pos (by omega)] at hu
              obtain ⟨u', q1, q2⟩ := hvc.get hy
              rw [hu] at q1; cases q1; exact q2
            · rw [if_neg hk] at hy
              rw [if_neg (by omega)] at hu
              obtain ⟨u', q1, q2⟩ := hc.get hy
              rw [Array.getElem?_toList, hu] at q1; cases q1; exact q2
        obtain ⟨cs', r1, r2⟩ := fill_rep hp (fun k p hk => hv (k + 1) p hk) (by simpa using hl) key h
        refine ⟨cs', ?_, r2⟩
        simp only [Instr.fill, hp _ _ _ hpl]
        rw [if_neg (by simp; omega)]
        exact r1
      · cases h
    · cases h
  | [], _ :: _, _, _, _, _, hl, _, _ => by simp at hl
  | _ :: _, [], _, _, _, _, hl, _, _ => by simp at hl

theorem tdOf_struct {d : TypeDesc} {fs : List (Nat × Nat)} (h : tdOf d = .struct fs) : ∃ gs : Array Field, d = .struct gs ∧ fs = gs.toList.map fun f => (f.offset, f.type) := by
  cases d <;> simp [tdOf] at h
  exact ⟨_, rfl, h.symm⟩

theorem run_build' (inv : Inv G) {t : TypeId} {ti : TI} (ht : tiOf P t = some ti) {fs : List (Nat × Nat)} (hd : ti.d = .struct fs) (hall : fs.all (fun f => (tiOf P f.2).isSome) = true) {ps : List (Nat × AV)} {vs : Array (Nat × Value)} {cs : List AV}
    (hv : ∀ (i : Nat) (p : Nat × AV), ps[i]? = some p → ∃ v, vs.toList[i]? = some (p.1, v) ∧ Rep G p.2 v ∧ p.2 ≠ .undef) (hl : ps.length = vs.toList.length)
    (h : fillParts (fun i => match fs[i]? with | some (off, ft) => (match tiOf P ft with | some fti => some (off, fti.size) | none => none) | none => none) ti.zero ps = some cs) :
    Does P G (Instr.build t vs) (.agg cs) G.σ := by
  obtain ⟨i, d, z, F⟩ := tiOf_facts ht
  obtain ⟨gs, rfl, rfl⟩ := tdOf_struct (F.d ▸ hd)
  have hplaces : ∀ (l : List Field), (l.map fun f => (f.offset, f.type)).all (fun f => (tiOf P f.2).isSome) = true → l.mapM (fun f => (P.info? f.type).map fun i => (f.offset, i.size)) = some (l.map fun f => (f.offset, P.cellsOf f.type)) := by
    intro l
    induction l with
    | nil => intro _; rfl
    | cons f l ih =>
      intro h
      simp only [List.map_cons, List.all_cons, Bool.and_eq_true] at h
      obtain ⟨fti, hft⟩ := Option.isSome_iff_exists.1 h.1
      obtain ⟨i2, _, _, F2⟩ := tiOf_facts hft
      rw [List.mapM_cons, F2.info, ih h.2]
      simp [Program.cellsOf, F2.info]
  have hp := hplaces gs.toList hall
  have hz : RepL G ti.zero z.cells.toList := F.rep_zero G
  obtain ⟨cs', h1, h2⟩ := fill_rep (G := G) (place' := fun x => ((gs.toList.map fun f => (f.offset, P.cellsOf f.type)).toArray)[x]?) (fun k o s hk => by
    simp only [List.getElem?_map] at hk
    cases hg : gs.toList[k]? with
    | none => rw [hg] at hk; cases hk
    | some fl =>
      rw [hg] at hk
      simp only [Option.map_some] at hk
      split at hk
      · rename_i fti hft
        cases hk
        obtain ⟨i2, _, _, F2⟩ := tiOf_facts hft
        simp [hg, Program.cellsOf, F2.info, F2.size]
      · cases hk) hv hl hz h
  refine does_pure inv (r := .agg cs') (run_build G.w t vs cs' ?_) (.agg h2)
  unfold Program.built
  simp only [F.info, F.und, F.zero, hp]
  exact h1

theorem run_build_arr (inv : Inv G) {t n e : TypeId} {ti te : TI} (ht : tiOf P t = some ti) (hd : ti.d = .array n e) (he : tiOf P e = some te) {ps : List (Nat × AV)} {vs : Array (Nat × Value)} {cs : List AV}
    (hv : ∀ (i : Nat) (p : Nat × AV), ps[i]? = some p → ∃ v, vs.toList[i]? = some (p.1, v) ∧ Rep G p.2 v ∧ p.2 ≠ .undef) (hl : ps.length = vs.toList.length)
    (h : fillParts (fun i => some (i * te.size, te.size)) ti.zero ps = some cs) :
    Does P G (Instr.build t vs) (.agg cs) G.σ := by
  obtain ⟨i, d, z, F⟩ := tiOf_facts ht
  obtain ⟨i2, _, _, F2⟩ := tiOf_facts he
  have hda := tdOf_array (F.d ▸ hd)
  subst hda
  have hz : RepL G ti.zero z.cells.toList := F.rep_zero G
  obtain ⟨cs', h1, h2⟩ := fill_rep (G := G) (place' := fun i => some (i * i2.size, i2.size)) (fun k o s hk => by
    simp only [Option.some.injEq, Prod.mk.injEq] at hk
    obtain ⟨rfl, rfl⟩ := hk
    rw [F2.size]) hv hl hz h
  refine does_pure inv (r := .agg cs') (run_build G.w t vs cs' ?_) (.agg h2)
  unfold Program.built
  simp only [F.info, F.und, F.zero, F2.info]
  exact h1

theorem run_buildSlice' (inv : Inv G) {t e : TypeId} {ti te : TI} (ht : tiOf P t = some ti) (hd : ti.d = .slice e) (he : tiOf P e = some te) {len : Nat} {xs : List AV} {vs : Array (Nat × Value)}
    (hv : ∀ (i : Nat) (x : AV), xs[i]? = some x → ∃ v, vs.toList[i]? = some (i, v) ∧ Rep G x v) (hl : xs.length = vs.toList.length) (hlen : xs.length = len) (hall : xs.all (fun v => decide (v.cells.length = te.size ∧ v.whole = true)) = true) (hb : len * te.size ≤ 16777216)
    {v : AV} {st : Sto} (K : ∀ (w : World) (c : Array Value) (ty : TypeId), (∃ w1 : World, w1.heap = G.w.heap ∧ w1.os = G.w.os ∧ w1.tape = G.w.tape ∧ w1.output = G.w.output ∧ w = w1.alloc (.cells c ty)) → RowAt G xs c te.size → len * te.size ≤ c.size →
      ∃ G', G'.w = w ∧ G'.σ = st ∧ Ext G G' ∧ Inv G' ∧ Rep G' v (.slice (some ⟨G.w.heap.size, 0, none⟩) len len)) : Does P G (Instr.buildSlice t len vs) v st := by
  obtain ⟨i, d, z, F⟩ := tiOf_facts ht
  obtain ⟨i2, d2, z2, F2⟩ := tiOf_facts he
  obtain rfl := tdOf_slice (F.d ▸ hd)
  -- the cells, laid one after the other
  have hsz := all_size hall
  have hundef : ∀ x ∈ xs, x ≠ .undef := fun x hx => by
    have := List.all_eq_true.1 hall x hx
    simp only [decide_eq_true_eq] at this
    exact whole_ne_undef this.2
  obtain ⟨us, hus, hrus⟩ : ∃ us : List Value, vs.toList = us.zipIdx.map (fun p => (p.2, p.1)) ∧ RepL G xs us := by
    refine ⟨vs.toList.map (·.2), ?_, ?_⟩
    · apply List.ext_getElem?
      intro k
      rw [List.getElem?_map, List.getElem?_zipIdx, List.getElem?_map]
      cases hk : vs.toList[k]? with
      | none => rfl
      | some p =>
        have hkl : k < xs.length := by
          rw [hl]
          rcases Nat.lt_or_ge k vs.toList.length with h | h
          · exact h
          · rw [List.getElem?_eq_none h] at hk; cases hk
        obtain ⟨v, h1, _⟩ := hv k _ (List.getElem?_eq_getElem hkl)
        rw [hk] at h1; cases h1
        simp
    · exact RepL.of_get (by simp [hl]) fun k x u hx hu => by
        obtain ⟨v, h1, h2⟩ := hv k x hx
        rw [List.getElem?_map, h1] at hu
        cases hu; exact h2
  have hflat := repL_flat hrus hundef
  have hfill : ∀ (us : List Value) (xs : List AV) (k : Nat) (pre : List Value) (cs : Array Value), RepL G xs us → (∀ x ∈ xs, x.cells.length = te.size) → (∀ x ∈ xs, x ≠ .undef) → cs.size = (k + us.length) * te.size → cs.toList.take (k * te.size) = pre →
      Instr.fill (fun i => some (i * te.size, te.size)) cs ((us.zipIdx k).map fun p => (p.2, p.1)) = some ((pre ++ us.flatMap fun v => v.cells.toList).toArray) := by
    intro us
    induction us with
    | nil =>
      intro xs k pre cs hr _ _ hc ht
      simp only [List.zipIdx_nil, List.map_nil, Instr.fill, List.flatMap_nil, List.append_nil]
      congr 1
      apply Array.ext'
      simp only [← ht]
      rw [List.take_of_length_le]
      simp at hc ⊢; omega
    | cons u us ih =>
      intro xs k pre cs hr hs hn hc ht
      cases hr with
      | cons hu hr =>
        rename_i x xs
        have hx := hs x List.mem_cons_self
        have hcl := (hu.cells (hn x List.mem_cons_self)).length
        have hus : u.cells.size = te.size := by simp at hcl; simp at hx; omega
        simp only [List.zipIdx_cons, List.map_cons, Instr.fill]
        simp only [List.length_cons, Nat.add_mul] at hc
        rw [if_neg (by simp [hus, hc] <;> omega)]
        have hput : u.cells.zipIdx.foldl (fun cs (c, j) => cs.setIfInBounds (k * te.size + j) c) cs = putCells cs (k * te.size) u.cells.toList := by
          rw [← Array.foldl_toList, Array.toList_zipIdx]
          have gen : ∀ (l : List Value) (j : Nat) (cs : Array Value), (l.zipIdx j).foldl (fun cs (p : Value × Nat) => cs.setIfInBounds (k * te.size + p.2) p.1) cs = putCells cs (k * te.size + j) l := by
            intro l
            induction l with
            | nil => intro j cs; rfl
            | cons a l ih => intro j cs; rw [List.zipIdx_cons, List.foldl_cons, ih, putCells, Nat.add_assoc]
          exact gen u.cells.toList 0 cs
        rw [hput]
        have := ih xs (k + 1) (pre ++ u.cells.toList) (putCells cs (k * te.size) u.cells.toList) hr (fun y hy => hs y (List.mem_cons_of_mem _ hy)) (fun y hy => hn y (List.mem_cons_of_mem _ hy)) (by rw [putCells_size, hc]; simp only [Nat.add_mul]; omega) ?_
        · rw [this, List.flatMap_cons, List.append_assoc]
        · have hpl : pre.length = k * te.size := by rw [← ht, List.length_take]; simp; omega
          have hul : u.cells.toList.length = te.size := by simpa using hus
          apply List.ext_getElem?
          intro j
          rw [Nat.add_mul, Nat.one_mul]
          by_cases hj : j < k * te.size + te.size
          · rw [List.getElem?_take_of_lt hj, Array.getElem?_toList, putCells_get _ _ _ _ (by rw [hul, hc]; omega)]
            by_cases hj2 : j < k * te.size
            · rw [if_neg (by omega), List.getElem?_append_left (by omega), ← ht, List.getElem?_take_of_lt hj2, Array.getElem?_toList]
            · rw [if_pos (by omega), List.getElem?_append_right (by omega), hpl]
          · rw [List.getElem?_eq_none (by simp; omega), List.getElem?_eq_none (by rw [List.length_append]; omega)]
  have hzc : ((Array.range (len * te.size)).map fun k => (if len * te.size = 0 then #[] else z2.cells)[k % (if len * te.size = 0 then #[] else z2.cells).size]!).size = (0 + us.length) * te.size := by
    rw [Nat.zero_add, ← hrus.length, hlen]
    simp
  have hf := hfill us xs 0 [] _ hrus hsz hundef hzc (by simp)
  have hrow := rowAt_flat (G := G) hsz hflat []
  have hcsz : len * te.size ≤ (us.flatMap fun v => v.cells.toList).toArray.size := by
    have := hflat.length
    rw [flat_len hsz, hlen] at this
    simp only [List.size_toArray]
    omega
  obtain ⟨G', g1, g2, g3, g4, g5⟩ := K (G.w.alloc (.cells (us.flatMap fun v => v.cells.toList).toArray e)) _ _ ⟨G.w, rfl, rfl, rfl, rfl, rfl⟩ (by simpa using hrow) hcsz
  refine ⟨.slice (some ⟨G.w.heap.size, 0, none⟩) len len, G', ?_, g2, g3, g4, g5⟩
  rw [← hus] at hf
  simp only [List.nil_append] at hf
  have hb' : ¬ (len * te.size > 2 ^ 24) := by omega
  by_cases h0 : len * te.size = 0
  · simp only [h0, if_true] at hf
    simp only [Instr.buildSlice, Sem.run_bind, F.run_und, Result.andThen_ok, F2.run_size, Sem.run_ite, h0, if_true, Sem.run_pure, hb', if_false, hf, newRow, run_newObj]
    rw [if_neg (by omega)]
    rw [g1]; rfl
  · simp only [h0, if_false] at hf
    simp only [Instr.buildSlice, Sem.run_bind, F.run_und, Result.andThen_ok, F2.run_size, Sem.run_ite, h0, if_false, Sem.run_pure, hb', F2.run_zero, hf, newRow, run_newObj]
    rw [g1]; rfl
theorem run_buildSlice (inv : Inv G) {t e : TypeId} {ti te : TI} (ht : tiOf P t = some ti) (hd : ti.d = .slice e) (he : tiOf P e = some te) {len : Nat} {xs : List AV} {vs : Array (Nat × Value)}
    (hv : ∀ (i : Nat) (x : AV), xs[i]? = some x → ∃ v, vs.toList[i]? = some (i, v) ∧ Rep G x v) (hl : xs.length = vs.toList.length) (hlen : xs.length = len) (hall : xs.all (fun v => decide (v.cells.length = te.size ∧ v.whole = true)) = true) (hb : len * te.size ≤ 16777216) :
    Does P G (Instr.buildSlice t len vs) (.sr G.σ.length 0 0 len) (G.σ ++ [.row te.size 0 0 xs]) :=
  run_buildSlice' inv ht hd he hv hl hlen hall hb fun w c ty hw hrow hc => by
    obtain ⟨G', g1, g2, g3, g4, g5⟩ := new_slice (G := G) (cap := len) inv w hw (unfrozen0 _) hrow (Nat.le_of_eq hlen) hc
    exact ⟨G', g1, g2, g3, g4, by rw [hlen] at g5; exact g5⟩
theorem run_buildSlice_fz (inv : Inv G) {t e : TypeId} {ti te : TI} (ht : tiOf P t = some ti) (hd : ti.d = .slice e) (he : tiOf P e = some te) {len : Nat} {xs : List AV} {vs : Array (Nat × Value)}
    (hv : ∀ (i : Nat) (x : AV), xs[i]? = some x → ∃ v, vs.toList[i]? = some (i, v) ∧ Rep G x v) (hl : xs.length = vs.toList.length) (hlen : xs.length = len) (hall : xs.all (fun v => decide (v.cells.length = te.size ∧ v.whole = true)) = true) (hb : len * te.size ≤ 16777216) :
    Does P G (Instr.buildSlice t len vs) (.sl xs) G.σ :=
  run_buildSlice' inv ht hd he hv hl hlen hall hb fun w c ty hw hrow hc => by
    obtain ⟨G', g1, g2, g3, g4, g5⟩ := new_slice_fz (G := G) (cap := len) inv w hw hrow (Nat.le_of_eq hlen)
    exact ⟨G', g1, g2, g3, g4, by rw [hlen] at g5; exact g5⟩
theorem run_buildSlice_at (inv : Inv G) {t e : TypeId} {ti te : TI} (ht : tiOf P t = some ti) (hd : ti.d = .slice e) (he : tiOf P e = some te) {len k : Nat} {xs : List AV} {vs : Array (Nat × Value)} (hk : G.σ[k]? = some (.row te.size 0 0 []))
    (hv : ∀ (i : Nat) (x : AV), xs[i]? = some x → ∃ v, vs.toList[i]? = some (i, v) ∧ Rep G x v) (hl : xs.length = vs.toList.length) (hlen : xs.length = len) (hall : xs.all (fun v => decide (v.cells.length = te.size ∧ v.whole = true)) = true) (hb : len * te.size ≤ 16777216) :
    Does P G (Instr.buildSlice t len vs) (.sr k 1 0 len) (G.σ.set k (.row te.size 1 0 xs)) :=
  run_buildSlice' inv ht hd he hv hl hlen hall hb fun w c ty hw hrow hc => by
    obtain ⟨G', g1, g2, g3, g4, g5⟩ := new_slice_at (G := G) (cap := len) inv w hk hw (unfrozen0 _) hrow (Nat.le_of_eq hlen) hc
    exact ⟨G', g1, g2, g3, g4, by rw [hlen] at g5; exact g5⟩
end
end Go.Proofs.YtgpkochbmfhmdaaGreatDoor.Lift
namespace Go.Proofs.YtgpkochbmfhmdaaGreatDoor.Lift
open Go

section
variable {P : Program} {G : Gh}

theorem TFacts.mkv_cells {t : TypeId} {ti : TI} {i : TypeInfo} {d : TypeDesc} {z : Value} (F : TFacts P t ti i d z) : (mkv ti.agg ti.zero).cells = ti.zero := by
  rw [F.zero_mkv]
  split
  · rfl
  · rename_i ha
    have hzz := F.zagg
    rw [← F.agg] at hzz
    have ha' : isAggV z = false := by rw [hzz]; simpa using ha
    have hv : ti.zero = [ofConst z] := by rw [F.zs]; cases z <;> simp_all [isAggV, Value.cells]
    have hok := F.okz
    have hz : okc z = true := by cases z <;> simp_all [isAggV, Value.cells]
    have hs := ofConst_scal z hz
    rw [hv]
    generalize ofConst z = q at hs
    cases q <;> first | rfl | (simp at hs; done)

theorem run_makeSlice' (inv : Inv G) {t e : TypeId} {ti te : TI} (ht : tiOf P t = some ti) (hd : ti.d = .slice e) (he : tiOf P e = some te) {kl kc : IntKind} {n m : Int} (h0 : 0 ≤ n) (h1 : n ≤ m) (hb : m * te.bytes ≤ 140737488355328) (h63 : m ≤ 140737488355328) :
    Does P G (Instr.makeSlice t (.int kl n) (.int kc m)) (.sr G.σ.length 0 0 n.toNat) (G.σ ++ [.row te.size 0 0 (List.replicate n.toNat (mkv te.agg te.zero))]) := by
  obtain ⟨i, d, z, F⟩ := tiOf_facts ht
  obtain ⟨i2, d2, z2, F2⟩ := tiOf_facts he
  obtain rfl := tdOf_slice (F.d ▸ hd)
  have hr := run_make (P := P) G.w t e i2 z2 F.und F2.info F2.zero kl kc n m h0 h1 (by rw [← F2.bytes, Int.mul_comm]; omega) (by omega)
  have hzl : te.zero.length = z2.cells.size := by rw [F2.zero_len, F2.size, F2.zsize]
  have hrow : RowAt G (List.replicate n.toNat (mkv te.agg te.zero)) (madeCells z2.cells (m.toNat * i2.size)) te.size := by
    intro k x hx
    rw [List.getElem?_replicate] at hx
    split at hx
    · rename_i hk
      cases hx
      refine ⟨by rw [F2.mkv_cells]; exact F2.zero_len, fun j y hy => ?_⟩
      rw [F2.mkv_cells] at hy
      obtain ⟨u, q1, q2⟩ := (F2.rep_zero G).get hy
      have hj : j < te.size := by
        rw [← F2.zero_len]
        rcases Nat.lt_or_ge j te.zero.length with h | h
        · exact h
        · rw [List.getElem?_eq_none h] at hy; cases hy
      refine ⟨u, ?_, q2⟩
      have hkm : k * te.size + j < m.toNat * i2.size := by
        rw [← F2.size]
        have : (k + 1) * te.size ≤ m.toNat * te.size := Nat.mul_le_mul_right _ (by omega)
        rw [Nat.add_mul] at this
        omega
      have hmod : (k * te.size + j) % z2.cells.size = j := by
        rw [← hzl, F2.zero_len, Nat.add_comm, Nat.add_mul_mod_self_right, Nat.mod_eq_of_lt hj]
      simp only [madeCells, Array.getElem?_map, Array.getElem?_range, hkm, if_true, Option.map_some, hmod]
      rw [Array.getElem?_toList] at q1
      have hj2 : j < z2.cells.size := by rw [← hzl, F2.zero_len]; exact hj
      rw [Array.getElem?_eq_getElem hj2] at q1
      rw [getElem!_pos z2.cells j hj2]
      exact q1
    · cases hx
  obtain ⟨G', g1, g2, g3, g4, g5⟩ := new_slice (G := G) inv (G.w.alloc (.cells (madeCells z2.cells (m.toNat * i2.size)) e)) ⟨G.w, rfl, rfl, rfl, rfl, rfl⟩ (unfrozen0 _) (xs := List.replicate n.toNat (mkv te.agg te.zero)) (sz := te.size) (cap := m.toNat) hrow (by simp; omega)
    (by rw [size_madeCells, F2.size]; exact Nat.le_refl _)
  rw [List.length_replicate] at g5
  exact ⟨_, G', by rw [g1]; exact hr, g2, g3, g4, g5⟩

/-! append of a slice just made -/
theorem zeros_rep {t : TypeId} {ti : TI} {i : TypeInfo} {d : TypeDesc} {z : Value} (F : TFacts P t ti i d z) (m : Nat) : RepL G ((List.replicate m (mkv ti.agg ti.zero)).flatMap AV.cells) (Builtin.zeroCells z.cells m).toList := by
  have hzl : ti.zero.length = z.cells.size := by rw [F.zero_len, F.size, F.zsize]
  have hsz : ∀ x ∈ List.replicate m (mkv ti.agg ti.zero), x.cells.length = ti.size := fun x hx => by
    rw [List.eq_of_mem_replicate hx, F.mkv_cells]; exact F.zero_len
  have hfl := flat_len hsz
  rw [List.length_replicate] at hfl
  refine RepL.of_get (by rw [hfl, Array.length_toList, size_zeroCells', ← hzl, F.zero_len]) fun j y u hy hu => ?_
  obtain ⟨i', k, x, h1, h2, rfl, h4⟩ := flat_get hsz hy
  have hx : x = mkv ti.agg ti.zero := List.eq_of_mem_replicate (List.mem_of_getElem? h1)
  subst hx
  rw [F.mkv_cells] at h2
  obtain ⟨u', q1, q2⟩ := (F.rep_zero G).get h2
  have hk : k < ti.size := by
    rw [← F.zero_len]
    rcases Nat.lt_or_ge k ti.zero.length with h | h
    · exact h
    · rw [List.getElem?_eq_none h] at h2; cases h2
  have hmod : (i' * ti.size + k) % z.cells.size = k := by
    rw [← hzl, F.zero_len, Nat.add_comm, Nat.add_mul_mod_self_right, Nat.mod_eq_of_lt hk]
  have hj2 : k < z.cells.size := by rw [← hzl, F.zero_len]; exact hk
  rw [Array.getElem?_toList] at hu q1
  rw [Array.getElem?_eq_getElem hj2] at q1
  cases q1
  have hlt : i' * ti.size + k < m * z.cells.size := by
    rcases Nat.lt_or_ge (i' * ti.size + k) (m * z.cells.size) with h | h
    · exact h
    · rw [Array.getElem?_eq_none (by rw [size_zeroCells']; exact h)] at hu; cases hu
  simp only [Builtin.zeroCells, Array.getElem?_map, Array.getElem?_range, hlt, if_true, Option.map_some, hmod] at hu
  cases hu
  rw [getElem!_pos z.cells k hj2]
  exact q2

theorem wrap63 {n : Int} (h1 : -9223372036854775808 ≤ n) (h2 : n < 9223372036854775808) : IntKind.wrap .i64 n = n := by
  simp [IntKind.wrap, IntKind.bits, IntKind.signed]; omega

theorem zeros_empty {z : Array Value} {m sz : Nat} (hz : z.size = sz) (h : m * sz = 0) : Builtin.zeroCells z m = #[] := by
  apply Array.eq_empty_of_size_eq_zero
  rw [size_zeroCells', hz, h]

section
variable {t t2 e : TypeId} {te : TI} {i : TypeInfo} {de : TypeDesc} {z : Value} (Fe : TFacts P e te i de z) {k2 : IntKind} (hu : P.underlying t = some (.slice e)) (hu2 : P.underlying t2 = some (.int k2))
    (w : World) (base : Option Addr) (sLen sCap : Nat) {k : IntKind} {m : Nat} (hm : m * te.bytes ≤ 140737488355328) (hm' : m ≤ 140737488355328) (ty : TypeId)
include Fe hu hu2 hm hm'

omit hu hu2 hm hm' in
theorem make_app (w' : World) : (if m * te.size = 0 then (pure #[] : Sem (Array Value)) else do let v ← zeroValue e; pure (Builtin.zeroCells v.cells m)).run P w' = .ok (Builtin.zeroCells z.cells m) w' := by
  split
  · rename_i h; rw [zeros_empty (Fe.zsize.trans Fe.size.symm) h]; rfl
  · simp only [Sem.run_bind, Fe.run_zero, Result.andThen_ok, Sem.run_pure]

theorem make_room {w2 : World} (hroom : sLen + m ≤ sCap) (hst : ∀ a, base = some a → (storeCells (a.add (sLen * te.size)) (Builtin.zeroCells z.cells m).toList).run P w = .ok () w2) (hn : base = none → w2 = w) :
    (Builtin.append_ #[t, t2] ty #[.slice base sLen sCap, .int k (m : Int)]).run P w = .ok (.slice base (sLen + m) sCap) w2 := by
  have hib : i.bytes = te.bytes := Fe.bytes.symm
  have hw : IntKind.i64.wrap (m : Int) = m := wrap63 (by omega) (by omega)
  have hneg : ¬ ((m : Int) < 0) := by omega
  have hbig : ¬ ((m : Int) * i.bytes > 2 ^ 48) := by rw [hib]; exact_mod_cast (show ¬ (m * te.bytes > 2 ^ 48) by omega)
  have ha := make_app (m := m) Fe w
  simp only [Builtin.append_, List.getElem?_toArray, List.getElem?_cons_zero, List.getElem?_cons_succ, Sem.run_bind, run_underlying hu, run_underlying hu2, Result.andThen_ok, Sem.run_pure, Fe.run_size, Bool.false_eq_true, if_false, Sem.run_ite, Bool.not_false, if_true, asInt, asIntOf, hw, hneg, Fe.run_info, hbig, Int.toNat_natCast, Bool.not_true] at ha ⊢
  rw [if_pos hroom, ha]
  simp only [Result.andThen_ok]
  cases base with
  | none => rw [hn rfl]; rfl
  | some a =>
    simp only [Sem.run_bind, hst a rfl, Result.andThen_ok, Sem.run_pure]

theorem make_grow {old : List Value} (hroom : ¬ sLen + m ≤ sCap) (hb0 : 0 < te.bytes) (hb : (sLen + m) * te.bytes ≤ 140737488355328) (ho : ∀ w' : World, w'.heap = w.heap → (Builtin.firstCells te.size sLen (.slice base sLen sCap)).run P w' = .ok old.toArray w') :
    ∃ cap, sLen + m ≤ cap ∧ (Builtin.append_ #[t, t2] ty #[.slice base sLen sCap, .int k (m : Int)]).run P w = .ok (.slice (some ⟨w.heap.size, 0, none⟩) (sLen + m) cap)
      (w.drew.alloc (.cells (old.toArray ++ Builtin.zeroCells z.cells m ++ Builtin.zeroCells z.cells (cap - (sLen + m))) e)) := by
  have hib : i.bytes = te.bytes := Fe.bytes.symm
  have hw : IntKind.i64.wrap (m : Int) = m := wrap63 (by omega) (by omega)
  have hneg : ¬ ((m : Int) < 0) := by omega
  have hbig : ¬ ((m : Int) * i.bytes > 2 ^ 48) := by rw [hib]; exact_mod_cast (show ¬ (m * te.bytes > 2 ^ 48) by omega)
  have h48 := growslice_fits (need := sLen + m) (old := sCap) (bytes := te.bytes) (by omega) hb
  have hnext : ¬ (Builtin.nextslicecap (sLen + m) sCap * i.bytes > 2 ^ 48) := by rw [hib]; omega
  have hle : sLen + m ≤ 140737488355328 := Nat.le_trans (Nat.le_mul_of_pos_right _ hb0) hb
  have hbz : ¬ (((sLen + m : Nat) : Int) > IntKind.i64.max) := by
    have : IntKind.i64.max = 9223372036854775807 := by decide
    omega
  refine ⟨sLen + m + w.tape w.drawn (.appendCap (sLen + m) sCap e) % (2 ^ 63 - (sLen + m)), by omega, ?_⟩
  have ha := make_app (m := m) Fe { w with drawn := w.drawn + 1 }
  simp only [Builtin.append_, List.getElem?_toArray, List.getElem?_cons_zero, List.getElem?_cons_succ, Sem.run_bind, run_underlying hu, run_underlying hu2, Result.andThen_ok, Sem.run_pure, Fe.run_size, Bool.false_eq_true, if_false, Fe.run_info, run_askRoom, run_choose, Question.forced, Question.cut, Fe.run_zero, Sem.run_ite, Bool.not_false, if_true, false_or, newRow, run_newObj, asInt, asIntOf, hw, hneg, hbig, Int.toNat_natCast, Bool.not_true, hbz, false_and] at ha ⊢
  rw [if_neg hroom, if_neg hnext, ho { w with drawn := w.drawn + 1 } rfl]
  simp only [Result.andThen_ok]
  rw [ha]
  rfl
end

theorem does_append_make (inv : Inv G) {t t2 e : TypeId} {ti ti2 te : TI} {k2 : IntKind} (ht : tiOf P t = some ti) (hd : ti.d = .slice e) (he : tiOf P e = some te) (ht2 : tiOf P t2 = some ti2) (hd2 : ti2.d = .int k2)
    {x : AV} {k : IntKind} {n : Int} {vx vy : Value} (hx : Rep G x vx) (hy : Rep G (.int k n) vy) (h0 : 0 ≤ n) (hb : n.toNat * te.bytes ≤ 140737488355328) (hn : n.toNat ≤ 140737488355328) {v : AV} {st : Sto}
    (h : appendTo te.size te.bytes G.σ x (List.replicate n.toNat (mkv te.agg te.zero)) = some (v, st)) (ty : TypeId) : Does P G (Builtin.append_ #[t, t2] ty #[vx, vy]) v st := by
  obtain ⟨it, dt, zt, F⟩ := tiOf_facts ht
  obtain ⟨i, de, z, Fe⟩ := tiOf_facts he
  obtain ⟨i2, d2, z2, F2⟩ := tiOf_facts ht2
  obtain rfl := tdOf_slice (F.d ▸ hd)
  obtain rfl : d2 = .int k2 := tdOf_int (F2.d ▸ hd2)
  cases hy
  obtain ⟨m, rfl⟩ := Int.eq_ofNat_of_zero_le h0
  rw [Int.toNat_natCast] at h hb hn
  refine does_appG (e := e) inv hx ty (fun hs => ?_) h
  refine ⟨_, zeros_rep Fe m, ⟨fun base sLen sCap w2 hroom hst hn' => ?_, fun base sLen sCap old hroom hb0 hb' ho => ?_⟩⟩
  · rw [List.length_replicate] at hroom ⊢
    exact make_room (P := P) Fe F.und F2.und G.w base sLen sCap hb hn ty hroom hst hn'
  · rw [List.length_replicate] at hroom hb' ⊢
    obtain ⟨cap, hcap, hr⟩ := make_grow (P := P) Fe F.und F2.und G.w base sLen sCap (k := k) hb hn ty hroom hb0 hb' ho
    exact ⟨cap, _, hcap, by rw [size_zeroCells', Fe.zsize, ← Fe.size], by simpa using hr⟩

theorem run_makeSlice_at (inv : Inv G) {k0 : Nat} {t e : TypeId} {ti te : TI} (ht : tiOf P t = some ti) (hd : ti.d = .slice e) (he : tiOf P e = some te) {kl kc : IntKind} {n m : Int} (h0 : 0 ≤ n) (h1 : n ≤ m) (hb : m * te.bytes ≤ 140737488355328) (h63 : m ≤ 140737488355328) (hk : G.σ[k0]? = some (.row te.size 0 0 [])) :
    Does P G (Instr.makeSlice t (.int kl n) (.int kc m)) (.sr k0 1 0 n.toNat) (G.σ.set k0 (.row te.size 1 0 (List.replicate n.toNat (mkv te.agg te.zero)))) := by
  obtain ⟨i, d, z, F⟩ := tiOf_facts ht
  obtain ⟨i2, d2, z2, F2⟩ := tiOf_facts he
  obtain rfl := tdOf_slice (F.d ▸ hd)
  have hr := run_make (P := P) G.w t e i2 z2 F.und F2.info F2.zero kl kc n m h0 h1 (by rw [← F2.bytes, Int.mul_comm]; omega) (by omega)
  have hzl : te.zero.length = z2.cells.size := by rw [F2.zero_len, F2.size, F2.zsize]
  have hrow : RowAt G (List.replicate n.toNat (mkv te.agg te.zero)) (madeCells z2.cells (m.toNat * i2.size)) te.size := by
    intro k x hx
    rw [List.getElem?_replicate] at hx
    split at hx
    · rename_i hk
      cases hx
      refine ⟨by rw [F2.mkv_cells]; exact F2.zero_len, fun j y hy => ?_⟩
      rw [F2.mkv_cells] at hy
      obtain ⟨u, q1, q2⟩ := (F2.rep_zero G).get hy
      have hj : j < te.size := by
        rw [← F2.zero_len]
        rcases Nat.lt_or_ge j te.zero.length with h | h
        · exact h
        · rw [List.getElem?_eq_none h] at hy; cases hy
      refine ⟨u, ?_, q2⟩
      have hkm : k * te.size + j < m.toNat * i2.size := by
        rw [← F2.size]
        have : (k + 1) * te.size ≤ m.toNat * te.size := Nat.mul_le_mul_right _ (by omega)
        rw [Nat.add_mul] at this
        omega
      have hmod : (k * te.size + j) % z2.cells.size = j := by
        rw [← hzl, F2.zero_len, Nat.add_comm, Nat.add_mul_mod_self_right, Nat.mod_eq_of_lt hj]
      simp only [madeCells, Array.getElem?_map, Array.getElem?_range, hkm, if_true, Option.map_some, hmod]
      rw [Array.getElem?_toList] at q1
      have hj2 : j < z2.cells.size := by rw [← hzl, F2.zero_len]; exact hj
      rw [Array.getElem?_eq_getElem hj2] at q1
      rw [getElem!_pos z2.cells j hj2]
      exact q1
    · cases hx
  obtain ⟨G', g1, g2, g3, g4, g5⟩ := new_slice_at (G := G) inv (G.w.alloc (.cells (madeCells z2.cells (m.toNat * i2.size)) e)) hk ⟨G.w, rfl, rfl, rfl, rfl, rfl⟩ (unfrozen0 _) (xs := List.replicate n.toNat (mkv te.agg te.zero)) (sz := te.size) (cap := m.toNat) hrow (by simp; omega)
    (by rw [size_madeCells, F2.size]; exact Nat.le_refl _)
  rw [List.length_replicate] at g5
  exact ⟨_, G', by rw [g1]; exact hr, g2, g3, g4, g5⟩

theorem run_convert_int {src dst : TypeId} {ts td : TI} (hs : tiOf P src = some ts) (hd : tiOf P dst = some td) {k : IntKind} (hk : td.d = .int k) (j : IntKind) (n : Int) (w : World) : (convert src dst (.int j n)).run P w = .ok (.int k (k.wrap n)) w := by
  obtain ⟨i, d, z, F⟩ := tiOf_facts hs
  obtain ⟨i2, d2, z2, F2⟩ := tiOf_facts hd
  obtain rfl := tdOf_int (F2.d ▸ hk)
  simp only [convert, Sem.run_bind, F.run_und, F2.run_und, Result.andThen_ok, Conv.intToInt, Sem.run_pure]

theorem run_convert_str {src dst : TypeId} {ts td : TI} (hs : tiOf P src = some ts) (hd : tiOf P dst = some td) (hk1 : ts.d = .str) (hk : td.d = .str) (s : ByteArray) (w : World) : (convert src dst (.string s)).run P w = .ok (.string s) w := by
  obtain ⟨i, d, z, F⟩ := tiOf_facts hs
  obtain ⟨i2, d2, z2, F2⟩ := tiOf_facts hd
  obtain rfl := tdOf_str (F2.d ▸ hk)
  obtain rfl := tdOf_str (F.d ▸ hk1)
  simp only [convert, Sem.run_bind, F.run_und, F2.run_und, Result.andThen_ok, Sem.run_pure]

theorem does_convert_sb (inv : Inv G) {src dst e : TypeId} {ts td te : TI} (hs : tiOf P src = some ts) (hd : tiOf P dst = some td) (hk : td.d = .slice e) (he : tiOf P e = some te) (hke : te.d = .int .u8) {b : List UInt8} {v : Value} (hb : Rep G (.str b) v) :
    Does P G (convert src dst v) (.sr G.σ.length 0 0 b.length) (G.σ ++ [.row 1 0 0 (b.map fun c => .int .u8 c.toNat)]) := by
  obtain ⟨i, d, z, F⟩ := tiOf_facts hs
  obtain ⟨i2, d2, z2, F2⟩ := tiOf_facts hd
  obtain ⟨i3, d3, z3, F3⟩ := tiOf_facts he
  obtain rfl := tdOf_slice (F2.d ▸ hk)
  obtain rfl := tdOf_int (F3.d ▸ hke)
  generalize hbb : b = b' at hb
  cases hb with
  | str s =>
    subst hbb
    have hr := Lib.run_convert_string_bytes (P := P) G.w src dst e s F.und F2.und F3.und
    have hge := grownCap_ge G.w s.size 0 e
    have hrow : RowAt G (s.data.toList.map fun c => AV.int .u8 c.toNat) (Lib.bytesCells G.w e s) 1 := by
      have h := rowAt_flat (G := G) (xs := s.data.toList.map fun c => AV.int .u8 c.toNat) (l := s.data.toList.map fun c => Value.int .u8 c.toNat) (sz := 1) (fun x hx => by
        obtain ⟨c, _, rfl⟩ := List.mem_map.1 hx; rfl) (by rw [bytes_cells]; exact bytes_rep _) (List.replicate (grownCap G.w s.size 0 e - s.size) (.int .u8 0))
      have e1 : Lib.bytesCells G.w e s = ((s.data.toList.map fun (c : UInt8) => Value.int .u8 c.toNat) ++ List.replicate (grownCap G.w s.size 0 e - s.size) (Value.int .u8 0)).toArray := by
        apply Array.ext'
        simp [Lib.bytesCells]
      rw [e1]; exact h
    have hsz : (Lib.bytesCells G.w e s).size = grownCap G.w s.size 0 e := by
      simp only [Lib.bytesCells, Array.size_append, Array.size_map, Array.size_replicate]
      have : s.data.size = s.size := rfl
      omega
    have h5 : ∀ j, j < G.w.heap.size → (Lib.bytesWorld G.w e s).heap[j]? = G.w.heap[j]? := fun j hj => Lib.bytesWorld_at_old G.w e s j hj
    have hw : (Lib.bytesWorld G.w e s).os = G.w.os ∧ (Lib.bytesWorld G.w e s).tape = G.w.tape ∧ (Lib.bytesWorld G.w e s).output = G.w.output := by
      simp only [Lib.bytesWorld, World.freeze]
      split <;> exact ⟨rfl, rfl, rfl⟩
    have x := ext_grow inv (Lib.bytesWorld G.w e s) (some G.w.heap.size) (.row 1 0 0 (s.data.toList.map fun c => AV.int .u8 c.toNat)) hw.1 hw.2.1 hw.2.2 (by rw [Lib.bytesWorld_size]; omega) h5 (fun j hj => by cases hj; omega)
    have hun : Unfrozen (Lib.bytesCells G.w e s).size ((Lib.bytesCells G.w e s).size, (Lib.bytesCells G.w e s).size + 1) := fun o ho => by simp; omega
    have iv := inv_grow_row inv _ _ 1 _ x h5 (fun j hj => by
      cases hj
      exact ⟨Nat.le_refl _, _, e, _, Lib.bytesWorld_at_new G.w e s, hun, hrow⟩) (fun h => by cases h)
    refine ⟨_, G.grow (Lib.bytesWorld G.w e s) (some G.w.heap.size) (.row 1 0 0 (s.data.toList.map fun c => AV.int .u8 c.toNat)), hr, rfl, x, iv, ?_⟩
    have := Rep.sr (G := G.grow (Lib.bytesWorld G.w e s) (some G.w.heap.size) (.row 1 0 0 (s.data.toList.map fun c => AV.int .u8 c.toNat))) (off := 0) (len := s.data.toList.length) (cap := grownCap G.w s.size 0 e)
      (hasId_new G _ (some G.w.heap.size) 1 0 _) (blk := G.w.heap.size) (by simp [Gh.grow]) (by rw [ba_len]; exact hge) (Lib.bytesWorld_at_new G.w e s) (by rw [hsz]; simp)
    rw [ba_len] at this ⊢
    simpa using this

theorem bytesOf_map : ∀ {xs : List AV} {b : List UInt8}, bytesOf xs = some b → ∃ ns : List Int, xs = ns.map (AV.int .u8) ∧ b = ns.map fun n => UInt8.ofNat n.toNat
  | [], b, h => by cases h; exact ⟨[], rfl, rfl⟩
  | x :: xs, b, h => by
    cases x with
    | int k n => cases k <;> first
        | (cases h; done)
        | (simp only [bytesOf] at h
           cases hb : bytesOf xs with
           | none => rw [hb] at h; cases h
           | some b' =>
             rw [hb] at h; cases h
             obtain ⟨ns, rfl, rfl⟩ := bytesOf_map hb
             exact ⟨n :: ns, rfl, rfl⟩)
    | _ => cases h

theorem run_convert_bs (inv : Inv G) {src dst e : TypeId} {ts td te : TI} (hs : tiOf P src = some ts) (hks : ts.d = .slice e) (hd : tiOf P dst = some td) (hk : td.d = .str) (he : tiOf P e = some te) (hke : te.d = .int .u8) (hsz : te.size = 1) {x : AV} {v : Value} (hx : Rep G x v) {xs : List AV} (hxs : elemsOf G.σ x = some xs)
    {b : List UInt8} (hb : bytesOf xs = some b) : ∃ u, (convert src dst v).run P G.w = .ok u G.w ∧ Rep G (.str b) u := by
  obtain ⟨i, d, z, F⟩ := tiOf_facts hs
  obtain ⟨i2, d2, z2, F2⟩ := tiOf_facts hd
  obtain ⟨i3, d3, z3, F3⟩ := tiOf_facts he
  obtain rfl := tdOf_slice (F.d ▸ hks)
  obtain rfl := tdOf_int (F3.d ▸ hke)
  obtain rfl := tdOf_str (F2.d ▸ hk)
  obtain ⟨ns, rfl, rfl⟩ := bytesOf_map hb
  obtain ⟨l, hl, hrl⟩ := run_firstCells (P := P) inv hx hxs (esz := 1) (fun x hx => by obtain ⟨n, _, rfl⟩ := List.mem_map.1 hx; rfl)
  have hlen := run_lenOf_slice (P := P) hx hxs
  have hcells : (ns.map (AV.int .u8)).flatMap AV.cells = ns.map (AV.int .u8) := by
    clear hb hxs hl hrl hlen
    induction ns with
    | nil => rfl
    | cons n ns ih => rw [List.map_cons, List.flatMap_cons, ih]; rfl
  rw [hcells] at hrl
  have hll : l = ns.map (Value.int .u8) := by
    clear hb hxs hl hlen hcells
    induction ns generalizing l with
    | nil => cases hrl; rfl
    | cons n ns ih =>
      cases hrl with
      | cons h t => cases h; rw [ih _ t]; rfl
  subst hll
  have hv : ∃ a len cap, v = .slice a len cap := by
    cases hx <;> first
      | exact ⟨_, _, _, rfl⟩
      | (simp [elemsOf] at hxs; done)
  obtain ⟨a, len, cap, rfl⟩ := hv
  simp only [Builtin.lenOf, Sem.run_pure, List.length_map, Result.ok.injEq, and_true] at hlen
  refine ⟨.string (strOfNums ns), ?_, ?_⟩
  · rw [run_convert_bytes_string G.w src dst e a len cap F.und F3.und F2.und]
    have hl := hl G.w rfl
    simp only [Builtin.firstCells, List.length_map, Nat.mul_one] at hl
    cases a with
    | none =>
      simp only [Sem.run_pure, Result.ok.injEq, and_true] at hl
      have : ns = [] := by
        have := congrArg Array.size hl
        simp at this
        exact List.eq_nil_of_length_eq_zero this.symm
      subst this
      simp only [Conv.bytesToString, Sem.run_pure]
      rfl
    | some a =>
      rw [← hlen] at hl
      rw [run_bytesToString G.w a len cap ns hl, foldl_push_bytes]
      simp [strOfNums, ByteArray.empty, ByteArray.emptyWithCapacity]
      rfl
  · rw [← strOfNums_data]; exact .str _
end
end Go.Proofs.YtgpkochbmfhmdaaGreatDoor.Lift
namespace Go.Proofs.YtgpkochbmfhmdaaGreatDoor.Lift
open Go

theorem ext_mput {G : Gh} (inv : Inv G) {w : World} {b : Nat} {es es' : List (AV × AV)} {blk : Nat} {ents ents' : Array MapEntry} {ck ck' : Nat}
    (hb : G.σ[b]? = some (.map es)) (hr : G.ρ b 1 = some blk) (hc : G.w.heap[blk]? = some (.map ents ck)) (hw : w = { G.w with heap := G.w.heap.setIfInBounds blk (.map ents' ck') }) : Ext G (G.turn w b (.map es') (some blk)) := by
  have hlt := (Array.getElem?_eq_some_iff.1 hc).1
  have hother : ∀ j, j ≠ blk → w.heap[j]? = G.w.heap[j]? := fun j hj => by rw [hw]; simp only; rw [Array.getElem?_setIfInBounds_ne (by omega)]
  have hφ : ∀ o, ¬ G.φ blk o := by
    obtain ⟨blk', _, _, q1, _, _, q4⟩ := inv.maps b es hb
    rw [hr] at q1; cases q1; exact q4
  have hρ : ∀ b' g', (G.turn w b (.map es') (some blk)).ρ b' g' = G.ρ b' g' := fun b' g' => by
    show (if b' = b ∧ g' = 1 then some blk else G.ρ b' g') = G.ρ b' g'
    by_cases h : b' = b ∧ g' = 1
    · rw [if_pos h]; obtain ⟨rfl, rfl⟩ := h; exact hr.symm
    · rw [if_neg h]
  refine { os := by rw [Gh.turn, hw], tape := by rw [Gh.turn, hw], output := by rw [Gh.turn, hw], size := by simp [Gh.turn, hw], old := ?_, shape := ?_, frozen := fun _ _ h => h, cell := ?_, fmap := ?_, thaw := fun _ _ h _ => .inl h, len := by simp [Gh.turn], id := ?_, at_ := fun b' _ g' _ _ => hρ b' g', own := ?_, time := Nat.le_refl _, zin := fun _ h => .inr h, zout := fun _ h => h, foe := rfl }
  · intro k hk ho _
    exact hother k fun e => ho (e ▸ ⟨b, _, hb, rfl, hr⟩)
  · intro k d e' fz' hk
    by_cases ek : k = blk
    · subst ek; rw [hc] at hk; cases hk
    · exact ⟨d, (hother k ek).trans hk, rfl⟩
  · intro k o ho
    by_cases ek : k = blk
    · subst ek; exact absurd ho (hφ o)
    · exact World.cell?_of_block (a := ⟨k, o, none⟩) (hother k ek)
  · intro k ents ck ho hk
    by_cases ek : k = blk
    · subst ek; exact absurd ho (hφ 0)
    · exact (hother k ek).trans hk
  · intro b' k' hk'
    by_cases eb : b' = b
    · subst eb
      rw [hb] at hk'
      cases hk'
      exact ⟨_, sto_set_same hb, Nat.le_refl _, rfl⟩
    · exact ⟨k', (sto_set_other eb).trans hk', Nat.le_refl _, rfl⟩
  · rintro k ⟨b', k', hk', hr'⟩
    rw [hρ] at hr'
    rcases sto_set_cases hk' with ⟨_, h⟩ | ⟨h1, h2, _⟩
    · exact .inr ⟨b', k', h, hr'⟩
    · subst h1 h2
      exact .inr ⟨b', _, hb, hr'⟩

theorem inv_mput {G : Gh} (inv : Inv G) {w : World} {b : Nat} {es es' : List (AV × AV)} {blk : Nat} {ents ents' : Array MapEntry} {ck ck' : Nat}
    (hb : G.σ[b]? = some (.map es)) (hr : G.ρ b 1 = some blk) (hc : G.w.heap[blk]? = some (.map ents ck)) (hw : w = { G.w with heap := G.w.heap.setIfInBounds blk (.map ents' ck') })
    (x : Ext G (G.turn w b (.map es') (some blk))) (hE : RepE G es' ents'.toList) : Inv (G.turn w b (.map es') (some blk)) := by
  have hlt := (Array.getElem?_eq_some_iff.1 hc).1
  have hsame : w.heap[blk]? = some (.map ents' ck') := by rw [hw]; simp [hlt]
  have hother : ∀ j, j ≠ blk → w.heap[j]? = G.w.heap[j]? := fun j hj => by rw [hw]; simp only; rw [Array.getElem?_setIfInBounds_ne (by omega)]
  have hρ : ∀ b' g', (G.turn w b (.map es') (some blk)).ρ b' g' = G.ρ b' g' := fun b' g' => by
    show (if b' = b ∧ g' = 1 then some blk else G.ρ b' g') = G.ρ b' g'
    by_cases h : b' = b ∧ g' = 1
    · rw [if_pos h]; obtain ⟨rfl, rfl⟩ := h; exact hr.symm
    · rw [if_neg h]
  have hne : ∀ b' k' blk', b' ≠ b → G.σ[b']? = some k' → G.ρ b' k'.gen = some blk' → blk' ≠ blk := fun b' k' blk' hne hk' hr' e => hne (inv.inj b' b k' _ blk hk' hb (e ▸ hr') hr)
  refine { rows := ?_, maps := ?_, inj := ?_, lt := fun k o h => Nat.lt_of_lt_of_le (inv.lt k o h) x.size, held := inv.held_ext x rfl, stab := inv.stab, zlt := fun blk h => Nat.lt_of_lt_of_le (inv.zlt blk h) x.size, znone := inv.znone, deads := (fun b' sz' g' blk' h hr => by
            rcases sto_set_cases h with ⟨hb', h⟩ | ⟨h1, h2, _⟩
            · rw [hρ] at hr
              exact Nat.lt_of_lt_of_le (inv.deads b' sz' g' blk' h hr) x.size
            · cases h2), its := (fun b' s i h => by
            rcases sto_set_cases h with ⟨hb', h⟩ | ⟨h1, h2, _⟩
            · obtain ⟨blk', q1, q2⟩ := inv.its b' s i h
              exact ⟨blk', (hρ _ _).trans q1, (hother blk' (hne b' _ blk' hb' h q1)).trans q2⟩
            · cases h2), tks := fun b' n h => by
            rcases sto_set_cases h with ⟨hb', h⟩ | ⟨h1, h2, _⟩
            · obtain ⟨q1, q2⟩ := inv.tks b' n h
              exact ⟨q1, fun g' => (hρ b' g').trans (q2 g')⟩
            · cases h2 }
  · intro b' s g' lo' zs hk'
    rcases sto_set_cases hk' with ⟨hb', hk'⟩ | ⟨h1, h2, _⟩
    · obtain ⟨r1, r2, r3⟩ := inv.rows b' s g' lo' zs hk'
      refine ⟨r1, fun blk' hblk => ?_, fun hn => r3 ((hρ _ _).symm.trans hn)⟩
      rw [hρ] at hblk
      obtain ⟨d, e', fz', q1, q2, q3, q4⟩ := r2 blk' hblk
      exact ⟨d, e', fz', (hother blk' (hne b' _ blk' hb' hk' hblk)).trans q1, q2, q3.ext x, q4⟩
    · cases h2
  · intro b' es2 hk'
    rcases sto_set_cases hk' with ⟨hb', hk'⟩ | ⟨h1, h2, _⟩
    · obtain ⟨blk', ents2, ck2, q1, q2, q3, q4⟩ := inv.maps b' es2 hk'
      exact ⟨blk', ents2, ck2, (hρ _ _).trans q1, (hother blk' (hne b' _ blk' hb' hk' q1)).trans q2, q3.ext x, q4⟩
    · cases h2
      subst h1
      obtain ⟨blk', ents2, ck2, q1, q2, q3, q4⟩ := inv.maps b' es hb
      rw [hr] at q1; cases q1
      exact ⟨blk, ents', ck', (hρ _ _).trans hr, hsame, hE.ext x, q4⟩
  · intro b1 b2 k1 k2 bk h1 h2 hr1 hr2
    rw [hρ] at hr1 hr2
    rcases sto_set_cases h1 with ⟨e1, q1⟩ | ⟨e1, f1, _⟩ <;> rcases sto_set_cases h2 with ⟨e2, q2⟩ | ⟨e2, f2, _⟩
    · exact inv.inj b1 b2 k1 k2 bk q1 q2 hr1 hr2
    · subst e2 f2
      exact inv.inj b1 b2 k1 _ bk q1 hb hr1 hr2
    · subst e1 f1
      exact inv.inj b1 b2 _ k2 bk hb q2 hr1 hr2
    · omega

/-! what a range over a text stands at -/
theorem ext_iput {G : Gh} (inv : Inv G) {w : World} {b : Nat} {t : List UInt8} {i i' : Nat} {blk : Nat}
    (hb : G.σ[b]? = some (.iter t i)) (hr : G.ρ b 0 = some blk) (hc : G.w.heap[blk]? = some (.stringIter ⟨t.toArray⟩ i)) (hw : w = { G.w with heap := G.w.heap.setIfInBounds blk (.stringIter ⟨t.toArray⟩ i') }) : Ext G (G.turn w b (.iter t i') (some blk)) := by
  have hlt := (Array.getElem?_eq_some_iff.1 hc).1
  have hother : ∀ j, j ≠ blk → w.heap[j]? = G.w.heap[j]? := fun j hj => by rw [hw]; simp only; rw [Array.getElem?_setIfInBounds_ne (by omega)]
  have hsame : w.heap[blk]? = some (.stringIter ⟨t.toArray⟩ i') := by rw [hw]; simp [hlt]
  have hρ : ∀ b' g', (G.turn w b (.iter t i') (some blk)).ρ b' g' = G.ρ b' g' := fun b' g' => by
    show (if b' = b ∧ g' = 0 then some blk else G.ρ b' g') = G.ρ b' g'
    by_cases h : b' = b ∧ g' = 0
    · rw [if_pos h]; obtain ⟨rfl, rfl⟩ := h; exact hr.symm
    · rw [if_neg h]
  refine { os := by rw [Gh.turn, hw], tape := by rw [Gh.turn, hw], output := by rw [Gh.turn, hw], size := by simp [Gh.turn, hw], old := ?_, shape := ?_, frozen := fun _ _ h => h, cell := ?_, fmap := ?_, thaw := fun _ _ h _ => .inl h, len := by simp [Gh.turn], id := ?_, at_ := fun b' _ g' _ _ => hρ b' g', own := ?_, time := Nat.le_refl _, zin := fun _ h => .inr h, zout := fun _ h => h, foe := rfl }
  · intro k hk ho _
    exact hother k fun e => ho (e ▸ ⟨b, _, hb, rfl, hr⟩)
  · intro k d e' fz' hk
    by_cases ek : k = blk
    · subst ek; rw [hc] at hk; cases hk
    · exact ⟨d, (hother k ek).trans hk, rfl⟩
  · intro k o ho
    by_cases ek : k = blk
    · subst ek; simp only [Gh.turn, World.cell?, hsame, hc]
    · exact World.cell?_of_block (a := ⟨k, o, none⟩) (hother k ek)
  · intro k ents ck ho hk
    by_cases ek : k = blk
    · subst ek; rw [hc] at hk; cases hk
    · exact (hother k ek).trans hk
  · intro b' k' hk'
    by_cases eb : b' = b
    · subst eb
      rw [hb] at hk'
      cases hk'
      exact ⟨_, sto_set_same hb, Nat.le_refl _, rfl⟩
    · exact ⟨k', (sto_set_other eb).trans hk', Nat.le_refl _, rfl⟩
  · rintro k ⟨b', k', hk', hr'⟩
    rw [hρ] at hr'
    rcases sto_set_cases hk' with ⟨_, h⟩ | ⟨h1, h2, _⟩
    · exact .inr ⟨b', k', h, hr'⟩
    · subst h1 h2
      exact .inr ⟨b', _, hb, hr'⟩

theorem inv_iput {G : Gh} (inv : Inv G) {w : World} {b : Nat} {t : List UInt8} {i i' : Nat} {blk : Nat}
    (hb : G.σ[b]? = some (.iter t i)) (hr : G.ρ b 0 = some blk) (hc : G.w.heap[blk]? = some (.stringIter ⟨t.toArray⟩ i)) (hw : w = { G.w with heap := G.w.heap.setIfInBounds blk (.stringIter ⟨t.toArray⟩ i') })
    (x : Ext G (G.turn w b (.iter t i') (some blk))) : Inv (G.turn w b (.iter t i') (some blk)) := by
  have hlt := (Array.getElem?_eq_some_iff.1 hc).1
  have hsame : w.heap[blk]? = some (.stringIter ⟨t.toArray⟩ i') := by rw [hw]; simp [hlt]
  have hother : ∀ j, j ≠ blk → w.heap[j]? = G.w.heap[j]? := fun j hj => by rw [hw]; simp only; rw [Array.getElem?_setIfInBounds_ne (by omega)]
  have hρ : ∀ b' g', (G.turn w b (.iter t i') (some blk)).ρ b' g' = G.ρ b' g' := fun b' g' => by
    show (if b' = b ∧ g' = 0 then some blk else G.ρ b' g') = G.ρ b' g'
    by_cases h : b' = b ∧ g' = 0
    · rw [if_pos h]; obtain ⟨rfl, rfl⟩ := h; exact hr.symm
    · rw [if_neg h]
  have hne : ∀ b' k' blk', b' ≠ b → G.σ[b']? = some k' → G.ρ b' k'.gen = some blk' → blk' ≠ blk := fun b' k' blk' hne hk' hr' e => hne (inv.inj b' b k' _ blk hk' hb (e ▸ hr') hr)
  refine { rows := ?_, maps := ?_, inj := ?_, lt := fun k o h => Nat.lt_of_lt_of_le (inv.lt k o h) x.size, held := inv.held_ext x rfl, stab := inv.stab, zlt := fun blk h => Nat.lt_of_lt_of_le (inv.zlt blk h) x.size, znone := inv.znone, deads := (fun b' sz' g' blk' h hr => by
            rcases sto_set_cases h with ⟨hb', h⟩ | ⟨h1, h2, _⟩
            · rw [hρ] at hr
              exact Nat.lt_of_lt_of_le (inv.deads b' sz' g' blk' h hr) x.size
            · cases h2), its := (fun b' s i h => by
            rcases sto_set_cases h with ⟨hb', h⟩ | ⟨h1, h2, _⟩
            · obtain ⟨blk', q1, q2⟩ := inv.its b' s i h
              exact ⟨blk', (hρ _ _).trans q1, (hother blk' (hne b' _ blk' hb' h q1)).trans q2⟩
            · cases h2
              subst h1
              exact ⟨blk, (hρ _ _).trans hr, hsame⟩), tks := fun b' n h => by
            rcases sto_set_cases h with ⟨hb', h⟩ | ⟨h1, h2, _⟩
            · obtain ⟨q1, q2⟩ := inv.tks b' n h
              exact ⟨q1, fun g' => (hρ b' g').trans (q2 g')⟩
            · cases h2 }
  · intro b' s g' lo' zs hk'
    rcases sto_set_cases hk' with ⟨hb', hk'⟩ | ⟨h1, h2, _⟩
    · obtain ⟨r1, r2, r3⟩ := inv.rows b' s g' lo' zs hk'
      refine ⟨r1, fun blk' hblk => ?_, fun hn => r3 ((hρ _ _).symm.trans hn)⟩
      rw [hρ] at hblk
      obtain ⟨d, e', fz', q1, q2, q3, q4⟩ := r2 blk' hblk
      exact ⟨d, e', fz', (hother blk' (hne b' _ blk' hb' hk' hblk)).trans q1, q2, q3.ext x, q4⟩
    · cases h2
  · intro b' es2 hk'
    rcases sto_set_cases hk' with ⟨hb', hk'⟩ | ⟨h1, h2, _⟩
    · obtain ⟨blk', ents2, ck2, q1, q2, q3, q4⟩ := inv.maps b' es2 hk'
      exact ⟨blk', ents2, ck2, (hρ _ _).trans q1, (hother blk' (hne b' _ blk' hb' hk' q1)).trans q2, q3.ext x, q4⟩
    · cases h2
  · intro b1 b2 k1 k2 bk h1 h2 hr1 hr2
    rw [hρ] at hr1 hr2
    rcases sto_set_cases h1 with ⟨e1, q1⟩ | ⟨e1, f1, _⟩ <;> rcases sto_set_cases h2 with ⟨e2, q2⟩ | ⟨e2, f2, _⟩
    · exact inv.inj b1 b2 k1 k2 bk q1 q2 hr1 hr2
    · subst e2 f2
      exact inv.inj b1 b2 k1 _ bk q1 hb hr1 hr2
    · subst e1 f1
      exact inv.inj b1 b2 _ k2 bk hb q2 hr1 hr2
    · omega

section
variable {P : Program} {G : Gh}

/-- a key's kind -/
def keyD : TypeDesc → Value → Bool
  | .int k, .int j _ => decide (j = k)
  | .string, .string _ => true
  | .bool, .bool _ => true
  | _, _ => false

theorem keyTD_rep {d : TypeDesc} {x : AV} {v : Value} (hx : Rep G x v) (h : keyTD (tdOf d) x = true) : keyD d v = true ∧ isKey x = true := by
  cases d <;> simp only [tdOf] at h <;> cases x <;> first
    | (cases h; done)
    | (cases hx; exact ⟨h, rfl⟩)
    | (cases hx; exact ⟨rfl, rfl⟩)

theorem sameNow_rep {d : TypeDesc} {k x : AV} {vk vx : Value} (hk : Rep G k vk) (hx : Rep G x vx) (hd : keyD d vx = true) {b : Bool} (h : keyEq k x = some b) : Instr.sameNow d vx vk = some b ∧ (b = true → vk = vx) := by
  cases hk <;> cases hx <;> simp only [keyEq] at h <;> first
    | (cases h; done)
    | skip
  · cases h
    cases d <;> first
      | (cases hd; done)
      | (refine ⟨?_, fun hb => by simp at hb; rw [hb]⟩
         simp only [Instr.sameNow]
         rename_i a c
         cases a <;> cases c <;> rfl)
  · split at h
    · rename_i hk
      subst hk
      cases h
      cases d <;> first
        | (cases hd; done)
        | (refine ⟨?_, fun hb => by simp at hb; rw [hb]⟩
           simp only [Instr.sameNow, if_true]
           rw [beq_decide]
           congr 2
           exact propext eq_comm)
    · cases h
  · cases h
    rename_i s1 s2
    cases d <;> first
      | (cases hd; done)
      | (refine ⟨?_, fun hb => ?_⟩
         · simp only [Instr.sameNow]
           rw [beq_toListBytes, ByteArray.toList_eq, ByteArray.toList_eq, beq_decide]
           congr 2
           exact propext eq_comm
         · simp only [decide_eq_true_eq] at hb
           obtain ⟨⟨l1⟩⟩ := s1
           obtain ⟨⟨l2⟩⟩ := s2
           simp at hb
           rw [hb])

theorem findNow_get {d : TypeDesc} {x : AV} {vx : Value} (hx : Rep G x vx) (hd : keyD d vx = true) : ∀ {es : List (AV × AV)} {ents : List MapEntry} {r : Option AV} (i : Nat), RepE G es ents → mget es x = some r →
    match r with
    | none => Instr.findNow d vx ents i = some none
    | some v => ∃ j u, Instr.findNow d vx ents i = some (some (i + j, u)) ∧ Rep G v u
  | [], [], r, i, _, h => by cases h; rfl
  | (k, v) :: es, e :: ents, r, i, hE, h => by
    cases hE with
    | cons hk h1 h2 t =>
      simp only [mget] at h
      split at h
      · rename_i hq
        cases h
        obtain ⟨q, _⟩ := sameNow_rep h1 hx hd hq
        exact ⟨0, e.val, by simp only [Instr.findNow, q, Nat.add_zero], h2⟩
      · rename_i hq
        obtain ⟨q, _⟩ := sameNow_rep h1 hx hd hq
        have := findNow_get hx hd (i + 1) t h
        cases r with
        | none => simp only [Instr.findNow, q]; exact this
        | some v' =>
          obtain ⟨j, u, p1, p2⟩ := this
          exact ⟨j + 1, u, by simp only [Instr.findNow, q, p1]; congr 3; omega, p2⟩
      · cases h
  | [], _ :: _, _, _, hE, _ => by cases hE
  | _ :: _, [], _, _, hE, _ => by cases hE

theorem findNow_set {d : TypeDesc} {x : AV} {vx : Value} (hx : Rep G x vx) (hik : isKey x = true) (hd : keyD d vx = true) {v : AV} {u : Value} (hv : Rep G v u) : ∀ {es es' : List (AV × AV)} {ents : List MapEntry} (i : Nat), RepE G es ents → mset es x v = some es' →
    (Instr.findNow d vx ents i = some none ∧ ∀ c, RepE G es' (ents ++ [{ key := vx, val := u, born := c }])) ∨
    (∃ j o e, Instr.findNow d vx ents i = some (some (i + j, o)) ∧ ents[j]? = some e ∧ e.key = vx ∧ RepE G es' (ents.modify j fun e => { e with key := vx, val := u }))
  | [], es', [], i, _, h => by cases h; exact .inl ⟨rfl, fun c => .cons hik hx hv .nil⟩
  | (k, w) :: es, es', e :: ents, i, hE, h => by
    cases hE with
    | cons hk h1 h2 t =>
      simp only [mset] at h
      split at h
      · rename_i hq
        cases h
        obtain ⟨q, q2⟩ := sameNow_rep h1 hx hd hq
        have hkv := q2 rfl
        refine .inr ⟨0, e.val, e, by simp only [Instr.findNow, q, Nat.add_zero], rfl, hkv, ?_⟩
        simp only [List.modify_zero_cons]
        exact .cons hk (by simpa [hkv] using h1) hv t
      · rename_i hq
        obtain ⟨q, _⟩ := sameNow_rep h1 hx hd hq
        cases hm : mset es x v with
        | none => rw [hm] at h; cases h
        | some es2 =>
          rw [hm] at h; cases h
          rcases findNow_set hx hik hd hv (i + 1) t hm with ⟨p1, p2⟩ | ⟨j, o, e2, p1, p2, p3, p4⟩
          · exact .inl ⟨by simp only [Instr.findNow, q]; exact p1, fun c => .cons hk h1 h2 (p2 c)⟩
          · exact .inr ⟨j + 1, o, e2, by simp only [Instr.findNow, q, p1]; congr 3; omega, by simpa using p2, p3, by simpa using RepE.cons hk h1 h2 p4⟩
      · cases h
  | [], _, _ :: _, _, hE, _ => by cases hE
  | _ :: _, _, [], _, hE, _ => by cases hE

theorem run_checkKey (w : World) {kt : TypeId} {d : TypeDesc} (hu : P.underlying kt = some d) {v : Value} (hd : keyD d v = true) (b : Bool) (n : Nat) : (Instr.checkKey b (n + 1) kt v).run P w = .ok () w := by
  cases d <;> cases v <;> first
    | (cases hd; done)
    | simp [Instr.checkKey, run_underlying hu]

theorem run_ents (inv : Inv G) {x : AV} {v : Value} (hx : Rep G x v) {es : List (AV × AV)} (h : entsOf G.σ x = some es) : (v = .map none ∧ es = []) ∨ (∃ blk ents ck, v = .map (some blk) ∧ G.w.heap[blk]? = some (.map ents ck) ∧ RepE G es ents.toList) := by
  cases hx <;> simp only [entsOf] at h <;> try (cases h; done)
  · cases h; exact .inl ⟨rfl, rfl⟩
  · cases h; exact .inr ⟨_, _, _, rfl, ‹_›, ‹_›⟩
  · cases h; exact .inl ⟨rfl, rfl⟩
  · split at h
    · rename_i hid hr _ es' hb
      cases h
      obtain ⟨blk', ents, ck, q1, q2, q3, _⟩ := inv.maps _ _ hb
      rw [hr] at q1; cases q1
      exact .inr ⟨_, ents, ck, rfl, q2, q3⟩
    · cases h

theorem run_lookup (inv : Inv G) {t kt e : TypeId} {ti tk te : TI} (ht : tiOf P t = some ti) (hd : ti.d = .map kt e) (hk : tiOf P kt = some tk) (he : tiOf P e = some te) {m x : AV} {vm vx : Value} (hm : Rep G m vm) (hx : Rep G x vx)
    {es : List (AV × AV)} (hes : entsOf G.σ m = some es) (hkey : keyTD tk.d x = true) {r : Option AV} (hg : mget es x = some r) (ok : Bool) :
    ∃ u, (Instr.lookup t vm vx ok).run P G.w = .ok u G.w ∧ Rep G (if ok then .tup [r.getD (mkv te.agg te.zero), .bool r.isSome] else r.getD (mkv te.agg te.zero)) u := by
  obtain ⟨i, d, z, F⟩ := tiOf_facts ht
  obtain ⟨i2, d2, z2, F2⟩ := tiOf_facts hk
  obtain ⟨i3, d3, z3, F3⟩ := tiOf_facts he
  obtain rfl := tdOf_map (F.d ▸ hd)
  obtain ⟨hkd, hik⟩ := keyTD_rep hx (F2.d ▸ hkey)
  have hzr : Rep G (mkv te.agg te.zero) z3 := by
    rw [F3.zero_mkv]
    split
    · rename_i ha
      have hzz := F3.zagg
      rw [← F3.agg, ha] at hzz
      cases z3 <;> first
        | (cases hzz; done)
        | exact .agg (F3.rep_zero G)
    · exact rep_const G z3
  have fin : ∀ (ents : Array MapEntry), RepE G es ents.toList → ∃ u, (do
      Instr.checkKey ents.isEmpty 10000 kt vx
      let (v, ok') ← match ← Instr.findKey kt vx ents.toList with
        | some (_, v) => pure (v, true)
        | none => pure (← zeroValue e, false)
      pure (if ok = true then .tuple #[v, .bool ok'] else v) : Sem Value).run P G.w = .ok u G.w ∧ Rep G (if ok then .tup [r.getD (mkv te.agg te.zero), .bool r.isSome] else r.getD (mkv te.agg te.zero)) u := fun ents hE => by
    have hck := run_checkKey (P := P) G.w F2.und hkd ents.isEmpty 9999
    have hf := findNow_get hx hkd 0 hE hg
    have wrap : ∀ (v : AV) (u : Value) (b : Bool), Rep G v u → Rep G (if ok then AV.tup [v, .bool b] else v) (if ok = true then Value.tuple #[u, .bool b] else u) := fun v u b hv => by
      cases ok
      · exact hv
      · exact .tup (.cons hv (.cons (.bool b) .nil))
    cases r with
    | none =>
      simp only at hf
      refine ⟨if ok = true then .tuple #[z3, .bool false] else z3, ?_, wrap _ _ _ hzr⟩
      simp only [Sem.run_bind, hck, Result.andThen_ok, Instr.findKey, F2.run_und, hf, Sem.run_pure, F3.run_zero]
    | some v =>
      obtain ⟨j, u, h1, h2⟩ := hf
      refine ⟨if ok = true then .tuple #[u, .bool true] else u, ?_, wrap _ _ _ h2⟩
      simp only [Sem.run_bind, hck, Result.andThen_ok, Instr.findKey, F2.run_und, h1, Sem.run_pure]
  rcases run_ents inv hm hes with ⟨rfl, rfl⟩ | ⟨blk, ents, ck, rfl, hb, hE⟩
  · obtain ⟨u, h1, h2⟩ := fin #[] .nil
    refine ⟨u, ?_, h2⟩
    simp only [Instr.lookup, Sem.run_bind, F.run_und, Result.andThen_ok, Sem.run_pure] at h1 ⊢
    exact h1
  · obtain ⟨u, h1, h2⟩ := fin ents hE
    refine ⟨u, ?_, h2⟩
    have hgo : (getObj blk).run P G.w = .ok (.map ents ck) G.w := by simp [getObj, Sem.run, hb]
    simp only [Instr.lookup, Sem.run_bind, F.run_und, Result.andThen_ok, hgo, Sem.run_pure] at h1 ⊢
    exact h1

theorem run_mapUpdate (inv : Inv G) {t kt e : TypeId} {ti tk : TI} (ht : tiOf P t = some ti) (hd : ti.d = .map kt e) (hk : tiOf P kt = some tk) {b : Nat} {x v : AV} {vm vx u : Value} (hm : Rep G (.mr b) vm) (hx : Rep G x vx) (hv : Rep G v u)
    {es es' : List (AV × AV)} (hes : G.σ[b]? = some (.map es)) (hkey : keyTD tk.d x = true) (hs : mset es x v = some es') :
    ∃ G', (Instr.mapUpdate t vm vx u).run P G.w = .ok () G'.w ∧ G'.σ = G.σ.set b (.map es') ∧ Ext G G' ∧ Inv G' := by
  obtain ⟨i, d, z, F⟩ := tiOf_facts ht
  obtain ⟨i2, d2, z2, F2⟩ := tiOf_facts hk
  obtain rfl := tdOf_map (F.d ▸ hd)
  obtain ⟨hkd, hik⟩ := keyTD_rep hx (F2.d ▸ hkey)
  cases hm with
  | mr hid hr =>
    rename_i blk
    obtain ⟨blk', ents, ck, q1, q2, q3, q4⟩ := inv.maps b es hes
    rw [hr] at q1; cases q1
    have hlt := (Array.getElem?_eq_some_iff.1 q2).1
    have hgo : (getObj blk).run P G.w = .ok (.map ents ck) G.w := by simp [getObj, Sem.run, q2]
    have hso : ∀ o, (setObj blk o).run P G.w = .ok () { G.w with heap := G.w.heap.setIfInBounds blk o } := fun o => by simp [setObj, Sem.run, q2]
    have hck := run_checkKey (P := P) G.w F2.und hkd false 9999
    rcases findNow_set hx hik hkd hv 0 q3 hs with ⟨h1, h2⟩ | ⟨j, o, e0, h1, h2, h3, h4⟩
    · have hE : RepE G es' (ents.push { key := vx, val := u, born := ck }).toList := by simpa using h2 ck
      have x1 := ext_mput (G := G) (es' := es') inv hes hr q2 rfl (ents' := ents.push { key := vx, val := u, born := ck }) (ck' := ck + 1)
      refine ⟨_, ?_, rfl, x1, inv_mput inv hes hr q2 rfl x1 hE⟩
      simp only [Instr.mapUpdate, Sem.run_bind, F.run_und, Result.andThen_ok, hgo, hck, Instr.findKey, F2.run_und, h1, Sem.run_pure, hso]
      rfl
    · rw [Nat.zero_add] at h1
      have hE : RepE G es' (ents.modify j fun e => { e with key := vx, val := u }).toList := by simpa using h4
      have x1 := ext_mput (G := G) (es' := es') inv hes hr q2 rfl (ents' := ents.modify j fun e => { e with key := vx, val := u }) (ck' := ck)
      refine ⟨_, ?_, rfl, x1, inv_mput inv hes hr q2 rfl x1 hE⟩
      have hej : ents[j]? = some e0 := by rw [← Array.getElem?_toList]; exact h2
      have hsb : Instr.sameBits 10000 vx vx = true := by
        cases d2 <;> cases vx <;> first
          | (cases hkd; done)
          | simp [Instr.sameBits, beq_toListBytes]
      have hst : (Instr.keyThatStays (((ents[j]?).map (·.key)).getD vx) vx).run P G.w = .ok vx G.w := by
        rw [hej]
        simp only [Option.map_some, Option.getD_some, h3, Instr.keyThatStays, hsb, if_true, Sem.run_pure]
      simp only [Instr.mapUpdate, Sem.run_bind, F.run_und, Result.andThen_ok, hgo, hck, Instr.findKey, F2.run_und, h1, Sem.run_pure, hst, hso]
      rfl

/-- a range over a text begins -/
theorem run_range (inv : Inv G) {t : TypeId} {ti : TI} (ht : tiOf P t = some ti) (hd : ti.d = .str) {b : List UInt8} {v : Value} (hx : Rep G (.str b) v) : Does P G (Instr.range t v) (.ptr G.σ.length 0 0 0) (G.σ ++ [.iter b 0]) := by
  obtain ⟨i, d, z, F⟩ := tiOf_facts ht
  obtain rfl := tdOf_str (F.d ▸ hd)
  cases hx
  rename_i sb
  have hsb : (⟨sb.data.toList.toArray⟩ : ByteArray) = sb := by cases sb; rfl
  have h5 : ∀ j, j < G.w.heap.size → (G.w.alloc (.stringIter sb 0)).heap[j]? = G.w.heap[j]? := fun j hj => heap_alloc_lt _ _ hj
  have x := ext_grow inv (G.w.alloc (.stringIter sb 0)) (some G.w.heap.size) (.iter sb.data.toList 0) rfl rfl rfl (by rw [World.size_alloc]; omega) h5 (fun j hj => by cases hj; exact Nat.le_refl _)
  have iv := inv_grow_iter inv _ _ sb.data.toList x h5 (Nat.le_refl _) (by rw [hsb]; exact heap_alloc_new _ _)
  refine ⟨.pointer (some ⟨G.w.heap.size, 0, none⟩), G.grow (G.w.alloc (.stringIter sb 0)) (some G.w.heap.size) (.iter sb.data.toList 0), ?_, rfl, x, iv, ?_⟩
  · simp only [Instr.range, Sem.run_bind, F.run_und, Result.andThen_ok, Sem.run_pure]
    rfl
  · exact Rep.ptr (sz := 0) (i := 0) (off := 0) ⟨.iter sb.data.toList 0, by simp [Gh.grow], Nat.le_refl _, rfl⟩ (by simp [Gh.grow])

theorem iter_at (inv : Inv G) {b i : Nat} {l : List UInt8} (hb : G.σ[b]? = some (.iter l i)) {v : Value} (hx : Rep G (.ptr b 0 0 0) v) : ∃ blk, v = .pointer (some ⟨blk, 0, none⟩) ∧ G.ρ b 0 = some blk ∧ G.w.heap[blk]? = some (.stringIter ⟨l.toArray⟩ i) := by
  cases hx with
  | ptr h hr =>
    rename_i sz blk
    obtain ⟨blk', q1, q2⟩ := inv.its b l i hb
    rw [hr] at q1; cases q1
    exact ⟨blk, by rw [Nat.zero_mul], hr, q2⟩

/-- a range over a text goes on -/
theorem run_next (inv : Inv G) {b i : Nat} {l : List UInt8} {ty : TypeId} (hb : G.σ[b]? = some (.iter l i)) (hlt : i < l.length) {v : Value} (hx : Rep G (.ptr b 0 0 0) v) :
    Does P G (Instr.next v true ty) (.tup [.bool true, .int .i64 i, .int .i32 (runeAt l i).1]) (G.σ.set b (.iter l (i + (runeAt l i).2))) := by
  obtain ⟨blk, rfl, hr, q2⟩ := iter_at inv hb hx
  have hgo : (getObj blk).run P G.w = .ok (.stringIter ⟨l.toArray⟩ i) G.w := by simp [getObj, Sem.run, q2]
  have hso : ∀ o, (setObj blk o).run P G.w = .ok () { G.w with heap := G.w.heap.setIfInBounds blk o } := fun o => by simp [setObj, Sem.run, q2]
  have hlt' : i < (⟨l.toArray⟩ : ByteArray).size := by show i < l.toArray.size; simpa using hlt
  have x1 := ext_iput (G := G) (i' := i + (runeAt l i).2) inv hb hr q2 rfl
  refine ⟨.tuple #[.bool true, goInt i, .int .i32 (runeAt l i).1], _, ?_, rfl, x1, inv_iput inv hb hr q2 rfl x1, .tup (.cons (.bool _) (.cons (.int _ _) (.cons (.int _ _) .nil)))⟩
  simp only [Instr.next, Sem.run_bind, hgo, Result.andThen_ok, hlt', if_true]
  simp only [Sem.run_bind, hso, Result.andThen_ok, Sem.run_pure]
  rfl
theorem run_next_over (inv : Inv G) {b i : Nat} {l : List UInt8} {ty : TypeId} (hb : G.σ[b]? = some (.iter l i)) (hlt : ¬ i < l.length) {v : Value} (hx : Rep G (.ptr b 0 0 0) v) :
    Does P G (Instr.next v true ty) (.tup [.bool false]) G.σ := by
  obtain ⟨blk, rfl, hr, q2⟩ := iter_at inv hb hx
  have hgo : (getObj blk).run P G.w = .ok (.stringIter ⟨l.toArray⟩ i) G.w := by simp [getObj, Sem.run, q2]
  have hlt' : ¬ i < (⟨l.toArray⟩ : ByteArray).size := by show ¬ i < l.toArray.size; simpa using hlt
  refine ⟨.tuple #[.bool false], G, ?_, rfl, Ext.refl G, inv, .tup (.cons (.bool _) .nil)⟩
  simp only [Instr.next, Sem.run_bind, hgo, Result.andThen_ok, hlt', if_false]
  rfl
end
end Go.Proofs.YtgpkochbmfhmdaaGreatDoor.Lift
namespace Go.Proofs.YtgpkochbmfhmdaaGreatDoor.Lift
open Go

/-- what lies at the globals that the evaluator knows -/
def Glob (X : Cfg) (G : Gh) : Prop := ∀ g v, X.G g = some v → Rep G (.rp v 0) (.pointer (some ⟨g, 0, none⟩))
theorem Glob.ext {X : Cfg} {G H : Gh} (x : Ext G H) (h : Glob X G) : Glob X H := fun g v hv => (h g v hv).ext x

/-- the slots of a frame -/
def Slots (G : Gh) (s : ASt) (a : Act) : Prop := s.n ≤ a.tmps.size ∧ (∀ t, Rep G (s.fr t) (a.tmps.getD t undef)) ∧ G.σ = s.st

theorem Slots.ev {X : Cfg} {G : Gh} {s : ASt} {a : Act} (hs : Slots G s a) (hg : Glob X G) (x : Operand) : Rep G (s.ev X x) (a.eval x) := by
  cases x with
  | tmp t => exact hs.2.1 t
  | const v => exact rep_const G v
  | func f => exact .fn .nil .nil
  | global g =>
    simp only [ASt.ev]
    split
    · exact hg g _ ‹_›
    · exact .undef _

/-- the operation's outcome: a value, or nothing to keep -/
def OpDone (P : Program) (G : Gh) (x : Sem Next) (v : AV) (st : Sto) : Prop :=
  ∃ G', (∃ r, x.run P G.w = .ok (.value r) G'.w ∧ Rep G' v r) ∧ G'.σ = st ∧ Ext G G' ∧ Inv G' ∨ (x.run P G.w = .ok .skip G'.w ∧ v = .tup [] ∧ G'.σ = st ∧ Ext G G' ∧ Inv G')

theorem opDone_value {P : Program} {G : Gh} {y : Sem Value} {x : Sem Next} {v : AV} {st : Sto} (hx : x = (do pure (.value (← y)))) (h : Does P G y v st) : OpDone P G x v st := by
  obtain ⟨r, G', h1, h2, h3, h4, h5⟩ := h
  refine ⟨G', .inl ⟨⟨r, ?_, h5⟩, h2, h3, h4⟩⟩
  rw [hx]
  simp only [Sem.run_bind, h1, Result.andThen_ok, Sem.run_pure]
theorem opDone_unit {P : Program} {G : Gh} {y : Sem Unit} {x : Sem Next} {st : Sto} (hx : x = (do y; pure .skip)) (h : ∃ G', y.run P G.w = .ok () G'.w ∧ G'.σ = st ∧ Ext G G' ∧ Inv G') : OpDone P G x (.tup []) st := by
  obtain ⟨G', h1, h2, h3, h4⟩ := h
  refine ⟨G', .inr ⟨?_, rfl, h2, h3, h4⟩⟩
  rw [hx]
  simp only [Sem.run_bind, h1, Result.andThen_ok, Sem.run_pure]
theorem does_of {P : Program} {G : Gh} (inv : Inv G) {y : Sem Value} {v : AV} (h : ∃ u, y.run P G.w = .ok u G.w ∧ Rep G v u) : Does P G y v G.σ :=
  let ⟨_, h1, h2⟩ := h; does_pure inv h1 h2

def isCallV : Op → Bool
  | .call c => match c.callee with | .value _ => true | _ => false
  | _ => false

theorem repO_map {X : Cfg} {G : Gh} {s : ASt} {a : Act} (hs : Slots G s a) (hg : Glob X G) (x : Option Operand) : RepO G (x.map (s.ev X)) (x.map a.eval) := by
  cases x with
  | none => trivial
  | some x => exact hs.ev hg x

theorem map2 {f : Operand → AV} {l : List Operand} {x y : AV} (h : l.map f = [x, y]) : ∃ a b, l = [a, b] ∧ f a = x ∧ f b = y := by
  match l, h with
  | [a, b], h => simp at h; exact ⟨a, b, rfl, h.1, h.2⟩
theorem map1 {f : Operand → AV} {l : List Operand} {x : AV} (h : l.map f = [x]) : ∃ a, l = [a] ∧ f a = x := by
  match l, h with
  | [a], h => simp at h; exact ⟨a, rfl, h⟩
theorem arrmap1 {f : Operand → Value} {o : Operand} : (([o] : List Operand).toArray).map f = #[f o] := by simp
theorem arrmap2 {f : Operand → Value} {o o2 : Operand} : (([o, o2] : List Operand).toArray).map f = #[f o, f o2] := by simp
theorem run_min2 {P : Program} (w : World) (ts : Array TypeId) (ty : TypeId) (k : IntKind) (p q : Int) : (Builtin.min_ ts ty #[.int k p, .int k q]).run P w = .ok (.int k (min p q)) w := by
  have : (if q < p then q else p) = min p q := by omega
  simp [Builtin.min_, Builtin.min2, this]
theorem run_max2 {P : Program} (w : World) (ts : Array TypeId) (ty : TypeId) (k : IntKind) (p q : Int) : (Builtin.max_ ts ty #[.int k p, .int k q]).run P w = .ok (.int k (max p q)) w := by
  have : (if q > p then q else p) = max p q := by omega
  simp [Builtin.max_, Builtin.max2]
  omega
theorem arr_of_toList {α : Type} {a : Array α} {l : List α} (h : a.toList = l) : a = l.toArray := by rw [← h]

set_option maxHeartbeats 1000000 in
theorem evBuiltin_sound {P : Program} {X : Cfg} (hT : X.T = tiOf P) {G : Gh} (inv : Inv G) (hg : Glob X G) {s : ASt} {a : Act} (hs : Slots G s a) (b : Builtin) (ats : Array TypeId) (args : Array Operand) {v : AV} {st : Sto}
    (h : evBuiltin X s.st b ats.toList (args.toList.map (s.ev X)) = some (v, st)) (ty : TypeId) (consts : Array Bool) : OpDone P G (builtin b ats ty consts (args.map a.eval)) v st := by
  obtain ⟨_, _, hσ⟩ := id hs
  rw [← hσ] at h
  unfold evBuiltin at h
  split at h
  · -- len
    rename_i t x hats hargs
    obtain ⟨o, ho, rfl⟩ := map1 hargs
    rw [arr_of_toList hats, arr_of_toList ho, arrmap1]
    split at h
    · rename_i ti ht
      split at h
      · rename_i hk
        cases hl : lenOf G.σ (s.ev X o) with
        | none => rw [hl] at h; cases h
        | some n =>
          rw [hl] at h; cases h
          exact opDone_value rfl (does_of inv ⟨_, run_len inv (hs.ev hg o) hl (hT ▸ ht) hk ty, .int _ _⟩)
      · cases h
    · cases h
  · -- append
    rename_i t t2 x y hats hargs
    obtain ⟨o, o2, ho, rfl, rfl⟩ := map2 hargs
    rw [arr_of_toList hats, arr_of_toList ho, arrmap2]
    split at h
    · rename_i ht ht2
      rename_i e q1 q2 q3 q4 q5 q6 q7 q8
      split at h
      · rename_i te str he hy
        split at h
        · exact opDone_value rfl (does_append_str inv (hT ▸ ht) rfl (hT ▸ he) (hT ▸ ht2) rfl (hs.ev hg o) (hy ▸ hs.ev hg o2) h ty)
        · cases h
      · cases h
    · rename_i ht ht2
      split at h
      · rename_i te ys he hy
        exact opDone_value rfl (does_append_slice inv (hT ▸ ht) rfl (hT ▸ he) (hT ▸ ht2) rfl (hs.ev hg o) (hs.ev hg o2) hy h ty)
      · cases h
    · rename_i ht ht2
      split at h
      · rename_i te k n he hy
        split at h
        · rename_i hn
          exact opDone_value rfl (does_append_make inv (hT ▸ ht) rfl (hT ▸ he) (hT ▸ ht2) rfl (hs.ev hg o) (hy ▸ hs.ev hg o2) hn.1 hn.2.1 hn.2.2 h ty)
        · cases h
      · cases h
    · cases h
  · -- min
    rename_i ats' k p k' q hargs
    obtain ⟨o, o2, ho, h1, h2⟩ := map2 hargs
    rw [arr_of_toList ho, arrmap2]
    split at h
    · rename_i hk
      subst hk
      cases h
      have r1 := hs.ev hg o
      have r2 := hs.ev hg o2
      rw [h1] at r1
      rw [h2] at r2
      generalize a.eval o = v1 at r1 ⊢
      generalize a.eval o2 = v2 at r2 ⊢
      cases r1
      cases r2
      exact opDone_value (y := Builtin.min_ ats ty #[.int k p, .int k q]) rfl (does_of inv ⟨.int k (min p q), run_min2 _ _ _ _ _ _, .int _ _⟩)
    · cases h
  · -- max
    rename_i ats' k p k' q hargs
    obtain ⟨o, o2, ho, h1, h2⟩ := map2 hargs
    rw [arr_of_toList ho, arrmap2]
    split at h
    · rename_i hk
      subst hk
      cases h
      have r1 := hs.ev hg o
      have r2 := hs.ev hg o2
      rw [h1] at r1
      rw [h2] at r2
      generalize a.eval o = v1 at r1 ⊢
      generalize a.eval o2 = v2 at r2 ⊢
      cases r1
      cases r2
      exact opDone_value (y := Builtin.max_ ats ty #[.int k p, .int k q]) rfl (does_of inv ⟨.int k (max p q), run_max2 _ _ _ _ _ _, .int _ _⟩)
    · cases h
  · cases h
end Go.Proofs.YtgpkochbmfhmdaaGreatDoor.Lift
namespace Go.Proofs.YtgpkochbmfhmdaaGreatDoor.Lift
open Go

theorem parts_rep {X : Cfg} {G : Gh} {s : ASt} {a : Act} (hs : Slots G s a) (hg : Glob X G) (parts : Array (Nat × Operand)) (i : Nat) (p : Nat × AV) (h : (parts.toList.map fun p => (p.1, s.ev X p.2))[i]? = some p) :
    ∃ v, (parts.map fun (i, x) => (i, a.eval x)).toList[i]? = some (p.1, v) ∧ Rep G p.2 v := by
  rw [List.getElem?_map] at h
  cases hp : parts.toList[i]? with
  | none => rw [hp] at h; cases h
  | some q =>
    rw [hp] at h; cases h
    refine ⟨a.eval q.2, ?_, hs.ev hg q.2⟩
    rw [Array.toList_map, List.getElem?_map, hp]
    rfl

set_option maxHeartbeats 2000000 in
theorem evOper_sound {P : Program} {X : Cfg} (hT : X.T = tiOf P) {G : Gh} (inv : Inv G) (hg : Glob X G) {s : ASt} {a : Act} (hs : Slots G s a) (o : Oper) (hc : isCallV o.op = false) {v : AV} {st : Sto}
    (h : evOper X s o = some (v, st)) : OpDone P G (execOp a.eval o) v st := by
  obtain ⟨_, _, hσ⟩ := id hs
  obtain ⟨dst, op, type, pos, after, guard⟩ := o
  have stay : ∀ {y : Sem Value}, execOp a.eval ⟨dst, op, type, pos, after, guard⟩ = (do pure (.value (← y))) → (∃ u, y.run P G.w = .ok u G.w ∧ Rep G v u) → st = s.st → OpDone P G (execOp a.eval ⟨dst, op, type, pos, after, guard⟩) v st := fun h1 h2 h3 => by
    rw [h3, ← hσ]
    exact opDone_value h1 (does_of inv h2)
  cases op <;> simp only [evOper] at h <;> try (cases h; done)
  case move x =>
    cases h
    exact stay (y := pure (a.eval x)) rfl ⟨_, rfl, hs.ev hg x⟩ rfl
  case assign x =>
    cases h
    exact stay (y := pure (a.eval x)) rfl ⟨_, rfl, hs.ev hg x⟩ rfl
  case pick c p q =>
    split at h
    · rename_i t ht
      cases h
      have hcv := hs.ev hg c
      rw [ht] at hcv
      refine ⟨G, .inl ⟨⟨if t = true then a.eval p else a.eval q, ?_, ?_⟩, hσ, Ext.refl G, inv⟩⟩
      · simp only [execOp]
        generalize a.eval c = vc at hcv ⊢
        cases hcv
        rfl
      · cases t
        · exact hs.ev hg q
        · exact hs.ev hg p
    · cases h
  case alloc t =>
    split at h
    · rename_i ti ht
      split at h
      · cases h
        rw [← hσ]
        exact opDone_value rfl (run_alloc inv (hT ▸ ht))
      · rename_i k hk
        split at h
        · rename_i sz hst
          split at h
          · rename_i hsz
            cases h
            subst hsz
            rw [← hσ] at hst ⊢
            exact opDone_value rfl (run_alloc_at inv (hT ▸ ht) hst)
          · cases h
        · cases h
    · cases h
  case box t x =>
    split at h
    · rename_i hw
      split at h
      · cases h
        rw [← hσ]
        exact opDone_value rfl (run_box inv t (hs.ev hg x) hw)
      · rename_i k hk
        split at h
        · rename_i sz hst
          split at h
          · rename_i hsz
            cases h
            subst hsz
            rw [← hσ] at hst ⊢
            exact opDone_value rfl (run_box_at inv t (hs.ev hg x) hw hst)
          · cases h
        · cases h
    · cases h
  case build t parts =>
    split at h
    · rename_i fs sz z by_ eq_ ht
      split at h
      · rename_i hc1
        obtain ⟨hall, hwh⟩ := hc1
        split at h
        · rename_i cs hf
          cases h
          rw [← hσ]
          rw [hT] at ht hall hf
          refine opDone_value rfl (run_build' inv ht rfl hall (fun i p hp => ?_) (by simp) hf)
          obtain ⟨u, h1, h2⟩ := parts_rep hs hg parts i p hp
          refine ⟨u, h1, h2, whole_ne_undef ?_⟩
          rw [List.getElem?_map] at hp
          cases hq : parts.toList[i]? with
          | none => rw [hq] at hp; cases hp
          | some q =>
            rw [hq] at hp; cases hp
            exact List.all_eq_true.1 hwh _ (List.mem_map.2 ⟨q, List.mem_of_getElem? hq, rfl⟩)
        · cases h
      · cases h
    · rename_i n e sz z by_ eq_ ht
      split at h
      · rename_i te he
        split at h
        · rename_i hwh
          split at h
          · rename_i cs hf
            cases h
            rw [← hσ]
            rw [hT] at ht he
            refine opDone_value rfl (run_build_arr inv ht rfl he (fun i p hp => ?_) (by simp) hf)
            obtain ⟨u, h1, h2⟩ := parts_rep hs hg parts i p hp
            refine ⟨u, h1, h2, whole_ne_undef ?_⟩
            rw [List.getElem?_map] at hp
            cases hq : parts.toList[i]? with
            | none => rw [hq] at hp; cases hp
            | some q =>
              rw [hq] at hp; cases hp
              exact List.all_eq_true.1 hwh _ (List.mem_map.2 ⟨q, List.mem_of_getElem? hq, rfl⟩)
          · cases h
        · cases h
      · cases h
    · cases h
  case buildSlice t len parts =>
    split at h
    · rename_i e sz z by_ eq_ ht
      split at h
      · rename_i te he
        split at h
        · rename_i hc1
          obtain ⟨hidx, hall, hb⟩ := hc1
          rw [hT] at ht he
          have hlen : parts.toList.length = len := by have := congrArg List.length hidx; simpa using this
          have hpart : ∀ (i : Nat) (x : AV), (parts.toList.map fun p => s.ev X p.2)[i]? = some x → ∃ v, (parts.map fun p => (p.1, a.eval p.2)).toList[i]? = some (i, v) ∧ Rep G x v := fun i x hx => by
            rw [List.getElem?_map] at hx
            cases hq : parts.toList[i]? with
            | none => rw [hq] at hx; cases hx
            | some q =>
              rw [hq] at hx; cases hx
              refine ⟨a.eval q.2, ?_, hs.ev hg q.2⟩
              have hi : i < len := by
                rcases Nat.lt_or_ge i len with h | h
                · exact h
                · rw [List.getElem?_eq_none (by omega)] at hq; cases hq
              have : q.1 = i := by
                have := congrArg (·[i]?) hidx
                simp only [List.getElem?_map, hq, Option.map_some, List.getElem?_range hi, Option.some.injEq] at this
                exact this
              rw [Array.toList_map, List.getElem?_map, hq, ← this]
              rfl
          rcases Classical.em (frozenAt X.B dst = true ∧ fzL (parts.toList.map fun p => s.ev X p.2) = true) with hq | hq
          · rw [if_pos hq] at h
            cases h
            rw [← hσ]
            exact opDone_value rfl (run_buildSlice_fz inv ht rfl he hpart (by simp) (by simpa using hlen) hall hb)
          · rw [if_neg hq] at h
            split at h
            · cases h
              rw [← hσ]
              exact opDone_value rfl (run_buildSlice inv ht rfl he hpart (by simp) (by simpa using hlen) hall hb)
            · rename_i k hk
              split at h
              · rename_i sz hst
                split at h
                · rename_i hsz
                  cases h
                  subst hsz
                  rw [← hσ] at hst ⊢
                  exact opDone_value rfl (run_buildSlice_at inv ht rfl he hst hpart (by simp) (by simpa using hlen) hall hb)
                · cases h
              · cases h
        · cases h
      · cases h
    · cases h
  case load t x =>
    split at h
    · rename_i ti ht
      cases hl : loadAt ti s.st (s.ev X x) with
      | none => rw [hl] at h; cases h
      | some u =>
        rw [hl] at h; cases h
        rw [hT] at ht
        exact stay rfl (run_loadAt inv ht (hs.ev hg x) (hσ ▸ hl)) rfl
    · cases h
  case store t x y =>
    split at h
    · rename_i ti ht
      cases hl : storeAt ti s.st (s.ev X x) (s.ev X y) with
      | none => rw [hl] at h; cases h
      | some u =>
        rw [hl] at h; cases h
        rw [hT] at ht
        exact opDone_unit rfl (run_storeAt inv ht (hs.ev hg x) (hs.ev hg y) (hσ ▸ hl))
    · cases h
  case nilCheck x =>
    have hx := hs.ev hg x
    split at h
    · rename_i b g i off he
      cases h
      rw [he] at hx
      refine ⟨G, .inl ⟨⟨a.eval x, ?_, hx⟩, hσ, Ext.refl G, inv⟩⟩
      show (execOp a.eval ⟨dst, .nilCheck x, type, pos, after, guard⟩).run P G.w = _
      simp only [execOp]
      generalize a.eval x = vx at hx ⊢
      cases hx; rfl
    · rename_i y off he
      cases h
      rw [he] at hx
      refine ⟨G, .inl ⟨⟨a.eval x, ?_, hx⟩, hσ, Ext.refl G, inv⟩⟩
      simp only [execOp]
      generalize a.eval x = vx at hx ⊢
      cases hx; rfl
    · rename_i f p q he
      cases h
      rw [he] at hx
      refine ⟨G, .inl ⟨⟨a.eval x, ?_, hx⟩, hσ, Ext.refl G, inv⟩⟩
      simp only [execOp]
      generalize a.eval x = vx at hx ⊢
      cases hx; rfl
    · cases h
  case binOp op t x y yt =>
    split at h
    · rename_i ti ht
      cases hl : evBin op ti (s.ev X x) (s.ev X y) with
      | none => rw [hl] at h; cases h
      | some u =>
        rw [hl] at h; cases h
        rw [hT] at ht
        exact stay (y := do eqGuard op t x y (a.eval x) (a.eval y); binOp op t (a.eval x) (a.eval y)) rfl (run_evBin op ht (hs.ev hg x) (hs.ev hg y) hl x y) rfl
    · cases h
  case unOp op t x =>
    cases hl : evUn op (s.ev X x) with
    | none => rw [hl] at h; cases h
    | some u =>
      rw [hl] at h; cases h
      exact stay rfl (run_evUn op (hs.ev hg x) hl) rfl
  case convert src dt x =>
    have hx := hs.ev hg x
    split at h
    · -- to an integer
      rename_i ts k sz z by_ eq_ j n hts htd he
      cases h
      rw [he] at hx
      rw [hT] at hts htd
      refine stay (y := convert src dt (a.eval x)) rfl ⟨.int k (k.wrap n), ?_, .int _ _⟩ rfl
      generalize a.eval x = vx at hx ⊢
      cases hx
      exact run_convert_int hts htd rfl j n G.w
    · -- string to string
      rename_i q1 q2 q3 q4 q5 q6 q7 q8 b hts htd he
      cases h
      rw [hT] at hts htd
      have hx' := hx
      rw [he] at hx'
      refine stay (y := convert src dt (a.eval x)) rfl ⟨a.eval x, ?_, hx'⟩ rfl
      generalize a.eval x = vx at hx' ⊢
      cases hx'
      exact run_convert_str hts htd rfl rfl _ G.w
    · -- string to bytes
      rename_i q1 q2 q3 q4 e q5 q6 q7 q8 b hts htd he
      split at h
      · rename_i p1 p2 p3 hte
        cases h
        rw [hT] at hts htd hte
        rw [he] at hx
        rw [← hσ]
        exact opDone_value rfl (does_convert_sb inv hts htd rfl hte rfl hx)
      · cases h
    · -- bytes to string
      rename_i e q1 q2 q3 q4 q5 q6 q7 q8 hts htd
      split at h
      · rename_i p1 p2 p3 xs hte hxs
        cases hb : bytesOf xs with
        | none => rw [hb] at h; cases h
        | some b =>
          rw [hb] at h; cases h
          rw [hT] at hts htd hte
          exact stay rfl (run_convert_bs inv hts rfl htd rfl hte rfl rfl hx (hσ ▸ hxs) hb) rfl
      · cases h
    · cases h
  case makeFunc f first cap =>
    cases h
    refine stay (y := Instr.makeFunc f (first.map a.eval) (cap.map a.eval)) rfl ⟨_, rfl, .fn ?_ ?_⟩ rfl
    · rw [Array.toList_map]; exact rep_list_map fun x => hs.ev hg x
    · rw [Array.toList_map]; exact rep_list_map fun x => hs.ev hg x
  case makeMap t r =>
    cases r with
    | some r => cases h
    | none =>
      simp only at h
      split at h
      · split at h
        rotate_left
        · rename_i k hk
          split at h
          · rename_i hst
            cases h
            rw [← hσ] at hst ⊢
            have h5 : ∀ j, j < G.w.heap.size → (G.w.alloc (.map #[] 0)).heap[j]? = G.w.heap[j]? := fun j hj => heap_alloc_lt _ _ hj
            have x := ext_born inv (w := G.w.alloc (.map #[] 0)) (some G.w.heap.size) hst rfl rfl rfl (by rw [World.size_alloc]; omega) h5 (fun j hj => by cases hj; exact Nat.le_refl _)
            have iv := inv_born inv hst x h5 (Nat.le_refl _) (heap_alloc_new _ _)
            exact opDone_value rfl ⟨.map (some G.w.heap.size), G.turn (G.w.alloc (.map #[] 0)) k (.map []) (some G.w.heap.size), rfl, rfl, x, iv, .mr ⟨.map [], sto_set_same hst, Nat.le_refl _, rfl⟩ (if_pos ⟨rfl, rfl⟩)⟩
          · cases h
        cases h
        rw [← hσ]
        have h5 : ∀ j, j < G.w.heap.size → (G.w.alloc (.map #[] 0)).heap[j]? = G.w.heap[j]? := fun j hj => heap_alloc_lt _ _ hj
        have x := ext_grow inv (G.w.alloc (.map #[] 0)) (some G.w.heap.size) (.map []) rfl rfl rfl (by rw [World.size_alloc]; omega) h5 (fun j hj => by cases hj; exact Nat.le_refl _)
        have iv := inv_grow_map inv _ _ x h5 (Nat.le_refl _) (heap_alloc_new _ _)
        refine opDone_value rfl ⟨.map (some G.w.heap.size), G.grow (G.w.alloc (.map #[] 0)) (some G.w.heap.size) (.map []), rfl, rfl, x, iv, .mr ⟨.map [], by simp [Gh.grow], Nat.le_refl _, rfl⟩ (by simp [Gh.grow])⟩
      · cases h
  case range t x =>
    split at h
    · rename_i ti b ht hx
      cases h
      rw [hT] at ht
      rw [← hσ]
      have r1 := hs.ev hg x
      rw [hx] at r1
      refine opDone_value (y := Instr.range t (a.eval x)) rfl ?_
      generalize a.eval x = v at r1 ⊢
      exact run_range inv ht rfl r1
    · cases h
  case next it isS =>
    cases isS with
    | false => cases h
    | true =>
      simp only at h
      split at h
      · rename_i b hx
        have r1 := hs.ev hg it
        rw [hx] at r1
        rw [← hσ] at h
        split at h
        · rename_i l i hb
          refine opDone_value (y := Instr.next (a.eval it) true type) rfl ?_
          generalize a.eval it = v at r1 ⊢
          split at h
          · rename_i hlt
            cases h
            exact run_next inv hb hlt r1
          · rename_i hlt
            cases h
            exact run_next_over inv hb hlt r1
        · cases h
      · cases h
  case makeSlice t l c =>
    split at h
    · rename_i e q1 q2 q3 q4 k1 n k2 m ht hl hcc
      split at h
      · rename_i te he
        split at h
        · rename_i hc1
          obtain ⟨c0, c1, c2, c3⟩ := hc1
          rw [hT] at ht he
          have r1 := hs.ev hg l
          have r2 := hs.ev hg c
          rw [hl] at r1
          rw [hcc] at r2
          split at h
          · cases h
            rw [← hσ]
            refine opDone_value (y := Instr.makeSlice t (a.eval l) (a.eval c)) rfl ?_
            generalize a.eval l = v1 at r1 ⊢
            generalize a.eval c = v2 at r2 ⊢
            cases r1
            cases r2
            exact run_makeSlice' inv ht rfl he c0 c1 c2 c3
          · split at h
            · rename_i sz hst
              split at h
              · rename_i hsz
                cases h
                subst hsz
                rw [← hσ] at hst ⊢
                refine opDone_value (y := Instr.makeSlice t (a.eval l) (a.eval c)) rfl ?_
                generalize a.eval l = v1 at r1 ⊢
                generalize a.eval c = v2 at r2 ⊢
                cases r1
                cases r2
                exact run_makeSlice_at inv ht rfl he c0 c1 c2 c3 hst
              · cases h
            · cases h
        · cases h
      · cases h
    · cases h
  case slice t x lo hi mx =>
    cases mx with
    | some mx =>
      have hx := hs.ev hg x
      cases hi with
      | none => cases h
      | some hi =>
        simp only at h
        split at h
        · rename_i e q1 q2 q3 q4 l hh m ht hl hhi hmm
          split at h
          · rename_i te hte
            rw [hT] at ht hte
            split at h
            · rename_i xs he
              rw [he] at hx
              split at h
              · rename_i hc1
                cases h
                exact stay (y := Instr.sliceAt t (a.eval x) (lo.map a.eval) (some (a.eval hi)) (some (a.eval mx))) rfl (run_sliceAt_sl3 ht rfl hte hx (repO_map hs hg lo) (hs.ev hg hi) (hs.ev hg mx) hl hhi hmm hc1.1 hc1.2.1 hc1.2.2.1 hc1.2.2.2) rfl
              · cases h
            · rename_i b g off len he
              rw [he] at hx
              split at h
              · rename_i kk hkk
                split at h
                · rename_i hc1
                  cases h
                  exact stay (y := Instr.sliceAt t (a.eval x) (lo.map a.eval) (some (a.eval hi)) (some (a.eval mx))) rfl (run_sliceAt_sr3 ht rfl hte hx (repO_map hs hg lo) (hs.ev hg hi) (hs.ev hg mx) hl hhi hmm hc1.1 hc1.2.1 hc1.2.2.1 (hσ ▸ hkk) hc1.2.2.2) rfl
                · cases h
              · cases h
            · cases h
          · cases h
        · cases h
    | none =>
      have hx := hs.ev hg x
      simp only at h
      split at h
      · rename_i b he
        rw [he] at hx
        split at h
        · rename_i l hh ht hl hhi
          split at h
          · rename_i hc1
            cases h
            rw [hT] at ht
            exact stay (y := Instr.sliceAt t (a.eval x) (lo.map a.eval) (hi.map a.eval) none) rfl (run_sliceAt_str ht rfl hx (repO_map hs hg lo) (repO_map hs hg hi) hl hhi hc1.1 hc1.2) rfl
          · cases h
        · cases h
      · rename_i xs he
        rw [he] at hx
        split at h
        · rename_i l hh ht hl hhi
          split at h
          · rename_i te hte
            split at h
            · rename_i hc1
              cases h
              rw [hT] at ht hte
              exact stay (y := Instr.sliceAt t (a.eval x) (lo.map a.eval) (hi.map a.eval) none) rfl (run_sliceAt_sl ht rfl hte hx (repO_map hs hg lo) (repO_map hs hg hi) hl hhi hc1.1 hc1.2.1 hc1.2.2) rfl
            · cases h
          · cases h
        · cases h
      · rename_i b g off len he
        rw [he] at hx
        split at h
        · rename_i l hh ht hl hhi
          split at h
          · rename_i te kk hte hkk
            split at h
            · rename_i hc1
              cases h
              rw [hT] at ht hte
              exact stay (y := Instr.sliceAt t (a.eval x) (lo.map a.eval) (hi.map a.eval) none) rfl (run_sliceAt_sr ht rfl hte hx (repO_map hs hg lo) (repO_map hs hg hi) hl hhi hc1.1 hc1.2.1 (hσ ▸ hkk) hc1.2.2) rfl
            · cases h
          · cases h
        · cases h
      · rename_i he
        rw [he] at hx
        split at h
        · rename_i e q1 q2 q3 q4 ht hl hhi
          split at h
          · rename_i hte
            cases h
            obtain ⟨te, hte⟩ := Option.isSome_iff_exists.1 hte
            rw [hT] at ht hte
            obtain ⟨i, d, z, F⟩ := tiOf_facts ht
            obtain ⟨i2, d2, z2, F2⟩ := tiOf_facts hte
            obtain rfl := tdOf_slice F.d.symm
            have hb := run_sliceBounds (P := P) (repO_map hs hg lo) (repO_map hs hg hi) true (len := 0) (cap := 0) hl hhi (Nat.le_refl _) (Nat.le_refl _)
            refine stay (y := Instr.sliceAt t (a.eval x) (lo.map a.eval) (hi.map a.eval) none) rfl ⟨.slice none 0 0, ?_, .snil⟩ rfl
            generalize a.eval x = vx at hx ⊢
            cases hx
            simp only [Instr.sliceAt, Sem.run_bind, F.run_und, Result.andThen_ok, Instr.slice, hb, F2.run_size, Sem.run_pure, if_true, Nat.sub_self]
          · cases h
        · cases h
      · rename_i v off he
        rw [he] at hx
        split at h
        · rename_i n e q1 q2 q3 q4 ht
          split at h
          · rename_i te hte
            split at h
            · rename_i hc1
              cases h
              rw [hT] at ht hte
              exact stay (y := Instr.sliceAt t (a.eval x) none none none) rfl (run_sliceAt_arr ht rfl hte hx hc1.1 hc1.2) rfl
            · cases h
          · cases h
        · cases h
      · cases h
  case fieldAddr t x f =>
    split at h
    · rename_i fs q1 q2 q3 q4 ht
      split at h
      · rename_i o ft hf
        split at h
        · rename_i fti hft
          split at h
          · cases h
          · rename_i hsz
            rw [hT] at ht hft
            split at h
            · rename_i b g i off he
              cases h
              exact stay rfl (run_fieldAt ht rfl hf hft hsz (hs.ev hg x) (by rw [he]; rfl)) rfl
            · rename_i y off he
              cases h
              exact stay rfl (run_fieldAt ht rfl hf hft hsz (hs.ev hg x) (by rw [he]; rfl)) rfl
            · cases h
        · cases h
      · cases h
    · cases h
  case field t x f =>
    split at h
    · rename_i fs q1 q2 q3 q4 ht
      split at h
      · rename_i o ft hf
        split at h
        · rename_i fti hft
          split at h
          · rename_i cs he
            cases hp : part fti (.agg cs) o with
            | none => rw [hp] at h; cases h
            | some u =>
              rw [hp] at h; cases h
              rw [hT] at ht hft
              exact stay rfl (run_field ht rfl hf hft (he ▸ hs.ev hg x) hp) rfl
          · cases h
        · cases h
      · cases h
    · cases h
  case indexAddr t x ix =>
    split at h
    · rename_i e q1 q2 q3 q4 ht
      split at h
      · rename_i te hte
        split at h
        · rename_i k i hi
          have r1 := hs.ev hg ix
          rw [hi] at r1
          rw [hT] at ht hte
          split at h
          · rename_i xs he
            split at h
            · rename_i h0
              split at h
              · rename_i u hu
                split at h
                · rename_i hsz
                  cases h
                  refine stay (y := Instr.indexAt t (a.eval x) (a.eval ix)) rfl ?_ rfl
                  generalize a.eval ix = v1 at r1 ⊢
                  cases r1
                  exact run_indexAt_sl ht rfl hte h0 hu hsz (he ▸ hs.ev hg x)
                · cases h
              · cases h
            · cases h
          · rename_i b g off len he
            split at h
            · rename_i h0
              split at h
              · rename_i kk hkk
                split at h
                · rename_i hsz
                  cases h
                  refine stay (y := Instr.indexAt t (a.eval x) (a.eval ix)) rfl ?_ rfl
                  generalize a.eval ix = v1 at r1 ⊢
                  cases r1
                  exact run_indexAt_sr ht rfl hte h0.1 h0.2 ⟨kk, hσ ▸ hkk, hsz⟩ (he ▸ hs.ev hg x)
                · cases h
              · cases h
            · cases h
          · cases h
        · cases h
      · cases h
    · rename_i n e q1 q2 q3 q4 ht
      split at h
      · rename_i te hte
        split at h
        · rename_i k i hi
          have r1 := hs.ev hg ix
          rw [hi] at r1
          rw [hT] at ht hte
          split at h
          · rename_i h0
            split at h
            · rename_i b g j off he
              cases h
              refine stay (y := Instr.indexAt t (a.eval x) (a.eval ix)) rfl ?_ rfl
              generalize a.eval ix = v1 at r1 ⊢
              cases r1
              exact run_indexAt_arr ht rfl hte h0.1 h0.2 (hs.ev hg x) (by rw [he]; rfl)
            · rename_i y off he
              cases h
              refine stay (y := Instr.indexAt t (a.eval x) (a.eval ix)) rfl ?_ rfl
              generalize a.eval ix = v1 at r1 ⊢
              cases r1
              exact run_indexAt_arr ht rfl hte h0.1 h0.2 (hs.ev hg x) (by rw [he]; rfl)
            · cases h
          · cases h
        · cases h
      · cases h
    · cases h
  case index t x ix =>
    split at h
    · rename_i q1 q2 q3 q4 ht
      split at h
      · rename_i b k i he hi
        split at h
        · rename_i h0
          split at h
          · rename_i c hcc
            cases h
            rw [hT] at ht
            have r1 := hs.ev hg ix
            rw [hi] at r1
            refine stay (y := Instr.index t (a.eval x) (a.eval ix)) rfl ⟨.int .u8 c.toNat, ?_, .int _ _⟩ rfl
            generalize a.eval ix = v1 at r1 ⊢
            cases r1
            exact run_index_str ht rfl h0 hcc (he ▸ hs.ev hg x)
          · cases h
        · cases h
      · cases h
    · rename_i n e q1 q2 q3 q4 ht
      split at h
      · rename_i te hte
        split at h
        · rename_i cs k i he hi
          split at h
          · rename_i h0
            cases hp : part te (.agg cs) (i.toNat * te.size) with
            | none => rw [hp] at h; cases h
            | some u =>
              rw [hp] at h; cases h
              rw [hT] at ht hte
              have r1 := hs.ev hg ix
              rw [hi] at r1
              refine stay (y := Instr.index t (a.eval x) (a.eval ix)) rfl ?_ rfl
              generalize a.eval ix = v1 at r1 ⊢
              cases r1
              exact run_index_arr ht rfl hte h0.1 h0.2 (he ▸ hs.ev hg x) hp
          · cases h
        · cases h
      · cases h
    · cases h
  case lookup t m k ok =>
    split at h
    · rename_i kt e q1 q2 q3 q4 ht
      split at h
      · rename_i tk te es htk hte hes
        split at h
        · rename_i hkey
          split at h
          · rename_i r hr
            cases h
            rw [hT] at ht htk hte
            exact stay rfl (run_lookup inv ht rfl htk hte (hs.ev hg m) (hs.ev hg k) (hσ ▸ hes) hkey hr ok) rfl
          · cases h
        · cases h
      · cases h
    · cases h
  case mapUpdate t m k x =>
    split at h
    · rename_i kt e q1 q2 q3 q4 ht
      split at h
      · rename_i tk b htk hm
        split at h
        · rename_i es hes
          split at h
          · rename_i hc1
            cases hp : mset es (s.ev X k) (s.ev X x) with
            | none => rw [hp] at h; cases h
            | some es' =>
              rw [hp] at h; cases h
              rw [hT] at ht htk
              rw [← hσ] at hes ⊢
              exact opDone_unit rfl (run_mapUpdate inv ht rfl htk (hm ▸ hs.ev hg m) (hs.ev hg k) (hs.ev hg x) hes hc1.1 hp)
          · cases h
        · cases h
      · cases h
    · cases h
  case insert t m k x =>
    split at h
    · rename_i kt e q1 q2 q3 q4 ht
      split at h
      · rename_i tk b htk hm
        split at h
        · rename_i es hes
          split at h
          · rename_i hc1
            cases hp : mset es (s.ev X k) (s.ev X x) with
            | none => rw [hp] at h; cases h
            | some es' =>
              rw [hp] at h; cases h
              rw [hT] at ht htk
              rw [← hσ] at hes ⊢
              exact opDone_unit rfl (run_mapUpdate inv ht rfl htk (hm ▸ hs.ev hg m) (hs.ev hg k) (hs.ev hg x) hes hc1.1 hp)
          · cases h
        · cases h
      · cases h
    · cases h
  case extract t i =>
    split at h
    · rename_i vs he
      cases hp : vs[i]? with
      | none => rw [hp] at h; cases h
      | some u =>
        rw [hp] at h; cases h
        exact stay rfl (run_extract (he ▸ hs.ev hg t) hp) rfl
    · cases h
  case call c =>
    obtain ⟨callee, args, ats⟩ := c
    simp only at h
    cases callee with
    | value f => simp [isCallV] at hc
    | invoke r n => cases h
    | builtin b =>
      have := evBuiltin_sound hT inv hg hs b ats args h type (args.map fun | .const _ => true | _ => false)
      exact this
end Go.Proofs.YtgpkochbmfhmdaaGreatDoor.Lift
namespace Go.Proofs.YtgpkochbmfhmdaaGreatDoor.Lift
open Go

def GlobG (g : Nat → Option AV) (G : Gh) : Prop := ∀ n v, g n = some v → Rep G (.rp v 0) (.pointer (some ⟨n, 0, none⟩))

/-- what a function's contract says -/
def Ret (G : Gh) (r : AV) (σ' : Sto) : Ending → World → Prop
  | .returned v, w => ∃ G', G'.w = w ∧ G'.σ = σ' ∧ Ext G G' ∧ Inv G' ∧ Rep G' r v
  | _, _ => False

/-- a call of a function: it is entered, or (it has no body) answered at once -/
def CallDone (P : Program) (f : Nat) (args : Array Value) (w : World) (R : Ending → World → Prop) : Prop :=
  ((callFunc f args).run P w = .ok (.enter f args) w ∧ Calls P f args w R) ∨ ∃ v w', (callFunc f args).run P w = .ok (.value v) w' ∧ R (.returned v) w'

structure SoundJ (P : Program) (gl : Nat → Option AV) (J : Foe) (f : Nat) (S : Spec) : Prop where
  calls : ∀ (G : Gh) (args : List AV) (vals : List Value) (r : AV) (σ' : Sto), S args G.σ = some (r, σ') → Inv G → G.J = J → GlobG gl G → RepL G args vals → CallDone P f vals.toArray G.w (Ret G r σ')
/-- a contract where nothing is foreign; and one whatever is -/
abbrev SoundF (P : Program) (gl : Nat → Option AV) (f : Nat) (S : Spec) : Prop := SoundJ P gl noFoe f S
abbrev SoundA (P : Program) (gl : Nat → Option AV) (f : Nat) (S : Spec) : Prop := ∀ J, SoundJ P gl J f S

def FW (F : Fence) : Prop := F = Fence.wide ∨ ∃ l, F = Fence.wide.inRound l
theorem FW.fn {F : Fence} (h : FW F) (f : FuncId) : F.fn f := by
  rcases h with rfl | ⟨l, rfl⟩ <;> exact trivial
theorem FW.depth {F : Fence} (h : FW F) : F.depth = none := by
  rcases h with rfl | ⟨l, rfl⟩ <;> rfl
theorem FW.calls {F : Fence} (h : FW F) {n : Nat} {P : Program} {f : FuncId} {args : Array Value} {w : World} {R : Ending → World → Prop} (hc : Calls P f args w R) : CallsIn F n P f args w R := by
  rcases h with rfl | ⟨l, rfl⟩
  · exact callsIn_wide.2 hc
  · exact CallsIn.inRound l (callsIn_wide.2 hc)

theorem FW.inRound {F : Fence} (h : FW F) (l : Nat) : FW (F.inRound l) := by
  rcases h with rfl | ⟨l', rfl⟩
  · exact .inr ⟨l, rfl⟩
  · exact .inr ⟨l, rfl⟩
/-- what a round does, as the function that is ranged over sees it -/
structure SoundY (P : Program) (gl : Nat → Option AV) (J : Foe) (l : Nat) (S : Spec) : Prop where
  round : ∀ (F : Fence) (n : Nat) (G : Gh) (args : List AV) (vals : List Value) (r : AV) (σ' : Sto), FW F → S args G.σ = some (r, σ') → Inv G → G.J = J → GlobG gl G → RepL G args vals → YieldAt F n P l vals.toArray G.w (Ret G r σ')

/-- the configuration fits the program -/
structure OkX (P : Program) (X : Cfg) : Prop where
  T : X.T = tiOf P
  E : ∀ f S, X.E.look f = some S → SoundJ P X.G X.J f S
  Y : ∀ l S, X.Y.look l = some S → SoundY P X.G X.J l S

theorem run_callFunc {P : Program} {f : Nat} {fn : Func} (hf : P.funcs[f]? = some fn) (hb : fn.body.isNone = false) (hn : (fn.name == "runtime.NumGoroutine") = false) (args : Array Value) (w : World) :
    (callFunc f args).run P w = .ok (.enter f args) w := by
  unfold callFunc
  have hb' : fn.body ≠ none := by intro h; rw [h] at hb; cases hb
  simp only [beq_eq_false_iff_ne, ne_eq] at hn
  simp only [Sem.run_bind, run_program, Result.andThen_ok, hf]
  simp [hb', hn]

/-- the outcome of a call -/
theorem evCall_sound {P : Program} {X : Cfg} (ok : OkX P X) {G : Gh} (inv : Inv G) (hg : Glob X G) (hJ : G.J = X.J) {s : ASt} {a : Act} (hs : Slots G s a) (o : Oper) (hc : isCallV o.op = true) {v : AV} {st : Sto}
    (h : evOper X s o = some (v, st)) : (∃ f args, (execOp a.eval o).run P G.w = .ok (.enter f args) G.w ∧ Calls P f args G.w (Ret G v st)) ∨ (∃ u w', (execOp a.eval o).run P G.w = .ok (.value u) w' ∧ Ret G v st (.returned u) w') ∨
      ∀ (F : Fence) (n : Nat), FW F → ∃ l fn tmps assign body, (execOp a.eval o).run P G.w = .ok (.round l fn tmps assign body) G.w ∧ RoundIn F n P l fn tmps assign body G.w (Ret G v st) := by
  obtain ⟨_, _, hσ⟩ := id hs
  obtain ⟨dst, op, type, pos, after, guard⟩ := o
  cases op <;> simp only [isCallV, Bool.false_eq_true] at hc
  rename_i c
  obtain ⟨callee, args, ats⟩ := c
  cases callee <;> simp only [Bool.false_eq_true] at hc
  rename_i fo
  simp only [evOper, callV] at h
  have hargs : RepL G (args.toList.map (s.ev X)) (args.map a.eval).toList := by
    refine RepL.of_get (by simp) fun i x u hx hu => ?_
    simp only [Array.toList_map, List.getElem?_map] at hx hu
    cases hq : args.toList[i]? with
    | none => rw [hq] at hx; cases hx
    | some q => rw [hq] at hx hu; cases hx; cases hu; exact hs.ev hg q
  split at h
  · rename_i k first cap hf
    split at h
    · rename_i S hS
      have sf := ok.E k S hS
      have hr := hs.ev hg fo
      rw [hf] at hr
      generalize hv : a.eval fo = fv at hr
      cases hr
      rename_i fa ca hfa hca
      rw [← hσ] at h
      have hrun : (execOp a.eval ⟨dst, .call ⟨.value fo, args, ats⟩, type, pos, after, guard⟩).run P G.w = (callFunc k (fa ++ args.map a.eval ++ ca)).run P G.w := by
        simp only [execOp, resolve, hv, Deferred.ofValue, Sem.run_bind, Sem.run_pure, Result.andThen_ok, invoke]
      have hcd := sf.calls G _ ((fa ++ args.map a.eval ++ ca).toList) v st h inv hJ (fun n u hu => hg n u hu) (by
          rw [Array.toList_append, Array.toList_append]
          exact (hfa.append hargs).append hca)
      rw [Array.toArray_toList] at hcd
      rw [hrun]
      rcases hcd with ⟨h1, h2⟩ | ⟨u, w', h1, h2⟩
      · exact .inl ⟨k, _, h1, h2⟩
      · exact .inr (.inl ⟨u, w', h1, h2⟩)
    · cases h
  · rename_i l hf
    split at h
    · rename_i S hS
      have sy := ok.Y l S hS
      have hr := hs.ev hg fo
      rw [hf] at hr
      generalize hv : a.eval fo = fv at hr
      cases hr
      rename_i fa ca hfa hca
      have hfa' : fa = #[] := by
        cases fa with
        | mk l => cases l with
          | nil => rfl
          | cons _ _ => cases hfa
      have hca' : ca = #[] := by
        cases ca with
        | mk l => cases l with
          | nil => rfl
          | cons _ _ => cases hca
      subst hfa' hca'
      rw [← hσ] at h
      refine .inr (.inr fun F n hF => ?_)
      obtain ⟨fn, tmps, assign, body, h1, h2⟩ := sy.round F n G _ _ v st hF h inv hJ (fun n u hu => hg n u hu) hargs
      rw [Array.toArray_toList] at h1
      refine ⟨l, fn, tmps, assign, body, ?_, h2⟩
      rw [← h1]
      simp only [execOp, resolve, hv, Deferred.ofValue, Sem.run_bind, Sem.run_pure, Result.andThen_ok, invoke]
      simp
    · cases h
  · cases h
end Go.Proofs.YtgpkochbmfhmdaaGreatDoor.Lift
