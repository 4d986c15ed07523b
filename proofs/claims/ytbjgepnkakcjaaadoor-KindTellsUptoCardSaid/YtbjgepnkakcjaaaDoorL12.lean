/-
  LIFT, 12: append of slices and strings; composite literals; make; conversions; maps.
-/
import Derived.Test.YtbjgepnkakcjaaaDoorL11
namespace Go.Proofs.YtbjgepnkakcjaaaDoor.Lift
open Go

section
variable {P : Program} {G : Gh}

theorem does_append_slice (inv : Inv G) {t t2 e e2 : TypeId} {ti ti2 te : TI} (ht : tiOf P t = some ti) (hd : ti.d = .slice e) (he : tiOf P e = some te) (ht2 : tiOf P t2 = some ti2) (hd2 : ti2.d = .slice e2)
    {x y : AV} {ys : List AV} {vx vy : Value} (hx : Rep G x vx) (hy : Rep G y vy) (hys : elemsOf G.σ y = some ys) {v : AV} {st : Sto} (h : appendTo te.size te.bytes G.σ x ys = some (v, st)) (ty : TypeId) :
    Does P G (Builtin.append_ #[t, t2] ty #[vx, vy]) v st :=
  does_append inv ht hd he ht2 (fun k hk => by rw [hd2] at hk; cases hk) hx (run_lenOf_slice hy hys) (fun hs => run_firstCells (P := P) inv hy hys hs) h ty

theorem bytes_cells (s : List UInt8) : (s.map fun b => AV.int .u8 b.toNat).flatMap AV.cells = s.map fun b => AV.int .u8 b.toNat := by
  induction s with
  | nil => rfl
  | cons b s ih => rw [List.map_cons, List.flatMap_cons, ih]; rfl
theorem bytes_rep (s : List UInt8) : RepL G (s.map fun b => AV.int .u8 b.toNat) (s.map fun b => Value.int .u8 b.toNat) := by
  induction s with
  | nil => exact .nil
  | cons b s ih => exact .cons (.int _ _) ih

theorem does_append_str (inv : Inv G) {t t2 e : TypeId} {ti ti2 te : TI} (ht : tiOf P t = some ti) (hd : ti.d = .slice e) (he : tiOf P e = some te) (ht2 : tiOf P t2 = some ti2) (hd2 : ti2.d = .str)
    {x : AV} {s : List UInt8} {vx vy : Value} (hx : Rep G x vx) (hy : Rep G (.str s) vy) {v : AV} {st : Sto} (h : appendTo te.size te.bytes G.σ x (s.map fun b => .int .u8 b.toNat) = some (v, st)) (ty : TypeId) :
    Does P G (Builtin.append_ #[t, t2] ty #[vx, vy]) v st := by
  generalize hb : s = s' at hy
  cases hy with
  | str b =>
    subst hb
    refine does_append inv ht hd he ht2 (fun k hk => by rw [hd2] at hk; cases hk) hx (by rw [List.length_map, ba_len]; rfl) (fun hs => ?_) h ty
    refine ⟨b.data.toList.map fun b => Value.int .u8 b.toNat, fun w' _ => ?_, by rw [bytes_cells]; exact bytes_rep _⟩
    simp only [Builtin.firstCells, Sem.run_pure, List.length_map, ba_len]
    congr 1
    apply Array.ext'
    simp [Lib.extract_data, ba_len]

theorem rep_list_map {xs : List Operand} {f : Operand → AV} {g : Operand → Value} (h : ∀ x, Rep G (f x) (g x)) : RepL G (xs.map f) (xs.map g) := by
  induction xs with
  | nil => exact .nil
  | cons a xs ih => exact .cons (h a) ih

/-- the parts of a literal are laid over cells, in memory as here -/
theorem fill_rep {place : Nat → Option (Nat × Nat)} {place' : Nat → Option (Nat × Nat)} (hp : ∀ i o s, place i = some (o, s) → place' i = some (o, s)) : ∀ {ps : List (Nat × AV)} {vs : List (Nat × Value)} {cells out : List AV} {cs : Array Value},
    (∀ (i : Nat) (p : Nat × AV), ps[i]? = some p → ∃ v, vs[i]? = some (p.1, v) ∧ Rep G p.2 v ∧ p.2 ≠ .undef) → ps.length = vs.length → RepL G cells cs.toList → fillParts place cells ps = some out → ∃ cs', Instr.fill place' cs vs = some cs' ∧ RepL G out cs'.toList
  | [], [], cells, out, cs, _, _, hc, h => by cases h; exact ⟨cs, rfl, hc⟩
  | (i, x) :: ps, (j, v) :: vs, cells, out, cs, hv, hl, hc, h => by
    obtain ⟨v', h1, h2, h3⟩ := hv 0 (i, x) rfl
    simp only [List.getElem?_cons_zero, Option.some.injEq, Prod.mk.injEq] at h1
    obtain ⟨rfl, rfl⟩ := h1
    simp only [fillParts] at h
    split at h
    · rename_i off size hpl
      split at h
      · rename_i hs
        have hvc := h2.cells h3
        have hsz : v.cells.size = x.cells.length := by have := hvc.length; simpa using this.symm
        have hcl : cells.length = cs.size := by have := hc.length; simpa using this
        have key : RepL G (splice cells off x.cells) (v.cells.zipIdx.foldl (fun cs (c, j) => cs.setIfInBounds (off + j) c) cs).toList := by
          have hput : v.cells.zipIdx.foldl (fun cs (c, j) => cs.setIfInBounds (off + j) c) cs = putCells cs off v.cells.toList := by
            rw [← Array.foldl_toList, Array.toList_zipIdx]
            have gen : ∀ (l : List Value) (k : Nat) (cs : Array Value), (l.zipIdx k).foldl (fun cs (p : Value × Nat) => cs.setIfInBounds (off + p.2) p.1) cs = putCells cs (off + k) l := by
              intro l
              induction l with
              | nil => intro k cs; rfl
              | cons a l ih => intro k cs; rw [List.zipIdx_cons, List.foldl_cons, ih, putCells, Nat.add_assoc]
            exact gen v.cells.toList 0 cs
          rw [hput]
          refine RepL.of_get ?_ fun k y u hy hu => ?_
          · show (splice cells off x.cells).length = (putCells cs off v.cells.toList).size
            rw [putCells_size]
            simp only [splice, List.length_append, List.length_take, List.length_drop]
            omega
          · rw [splice_get _ _ _ _ (by omega)] at hy
            rw [Array.getElem?_toList, putCells_get _ _ _ _ (by simp; omega)] at hu
            have hvl : v.cells.toList.length = x.cells.length := by simpa using hsz
            by_cases hk : off ≤ k ∧ k < off + x.cells.length
            · rw [if_pos hk] at hy
              rw [if_pos (by omega)] at hu
              obtain ⟨u', q1, q2⟩ := hvc.get hy
              rw [hu] at q1; cases q1; exact q2
            · rw [if_neg hk] at hy
              rw [if_neg (by omega)] at hu
              obtain ⟨u', q1, q2⟩ := hc.get hy
              rw [Array.getElem?_toList, hu] at q1; cases q1; exact q2
        obtain ⟨cs', r1, r2⟩ := fill_rep hp (fun k p hk => hv (k + 1) p hk) (by simpa using hl) key h
        refine ⟨cs', ?_, r2⟩
        simp only [Instr.fill, hp _ _ _ hpl]
        rw [if_neg (by simp; omega)]
        exact r1
      · cases h
    · cases h
  | [], _ :: _, _, _, _, _, hl, _, _ => by simp at hl
  | _ :: _, [], _, _, _, _, hl, _, _ => by simp at hl

theorem tdOf_struct {d : TypeDesc} {fs : List (Nat × Nat)} (h : tdOf d = .struct fs) : ∃ gs : Array Field, d = .struct gs ∧ fs = gs.toList.map fun f => (f.offset, f.type) := by
  cases d <;> simp [tdOf] at h
  exact ⟨_, rfl, h.symm⟩

theorem run_build' (inv : Inv G) {t : TypeId} {ti : TI} (ht : tiOf P t = some ti) {fs : List (Nat × Nat)} (hd : ti.d = .struct fs) (hall : fs.all (fun f => (tiOf P f.2).isSome) = true) {ps : List (Nat × AV)} {vs : Array (Nat × Value)} {cs : List AV}
    (hv : ∀ (i : Nat) (p : Nat × AV), ps[i]? = some p → ∃ v, vs.toList[i]? = some (p.1, v) ∧ Rep G p.2 v ∧ p.2 ≠ .undef) (hl : ps.length = vs.toList.length)
    (h : fillParts (fun i => match fs[i]? with | some (off, ft) => (match tiOf P ft with | some fti => some (off, fti.size) | none => none) | none => none) ti.zero ps = some cs) :
    Does P G (Instr.build t vs) (.agg cs) G.σ := by
  obtain ⟨i, d, z, F⟩ := tiOf_facts ht
  obtain ⟨gs, rfl, rfl⟩ := tdOf_struct (F.d ▸ hd)
  have hplaces : ∀ (l : List Field), (l.map fun f => (f.offset, f.type)).all (fun f => (tiOf P f.2).isSome) = true → l.mapM (fun f => (P.info? f.type).map fun i => (f.offset, i.size)) = some (l.map fun f => (f.offset, P.cellsOf f.type)) := by
    intro l
    induction l with
    | nil => intro _; rfl
    | cons f l ih =>
      intro h
      simp only [List.map_cons, List.all_cons, Bool.and_eq_true] at h
      obtain ⟨fti, hft⟩ := Option.isSome_iff_exists.1 h.1
      obtain ⟨i2, _, _, F2⟩ := tiOf_facts hft
      rw [List.mapM_cons, F2.info, ih h.2]
      simp [Program.cellsOf, F2.info]
  have hp := hplaces gs.toList hall
  have hz : RepL G ti.zero z.cells.toList := F.rep_zero G
  obtain ⟨cs', h1, h2⟩ := fill_rep (G := G) (place' := fun x => ((gs.toList.map fun f => (f.offset, P.cellsOf f.type)).toArray)[x]?) (fun k o s hk => by
    simp only [List.getElem?_map] at hk
    cases hg : gs.toList[k]? with
    | none => rw [hg] at hk; cases hk
    | some fl =>
      rw [hg] at hk
      simp only [Option.map_some] at hk
      split at hk
      · rename_i fti hft
        cases hk
        obtain ⟨i2, _, _, F2⟩ := tiOf_facts hft
        simp [hg, Program.cellsOf, F2.info, F2.size]
      · cases hk) hv hl hz h
  refine does_pure inv (r := .agg cs') (run_build G.w t vs cs' ?_) (.agg h2)
  unfold Program.built
  simp only [F.info, F.und, F.zero, hp]
  exact h1

theorem run_buildSlice (inv : Inv G) {t e : TypeId} {ti te : TI} (ht : tiOf P t = some ti) (hd : ti.d = .slice e) (he : tiOf P e = some te) {len : Nat} {xs : List AV} {vs : Array (Nat × Value)}
    (hv : ∀ (i : Nat) (x : AV), xs[i]? = some x → ∃ v, vs.toList[i]? = some (i, v) ∧ Rep G x v) (hl : xs.length = vs.toList.length) (hlen : xs.length = len) (hall : xs.all (fun v => decide (v.cells.length = te.size ∧ v.whole = true)) = true) (hb : len * te.size ≤ 16777216) :
    Does P G (Instr.buildSlice t len vs) (.sr G.σ.length 0 0 len) (G.σ ++ [.row te.size 0 0 xs]) := by
  obtain ⟨i, d, z, F⟩ := tiOf_facts ht
  obtain ⟨i2, d2, z2, F2⟩ := tiOf_facts he
  obtain rfl := tdOf_slice (F.d ▸ hd)
  -- the cells, laid one after the other
  have hsz := all_size hall
  have hundef : ∀ x ∈ xs, x ≠ .undef := fun x hx => by
    have := List.all_eq_true.1 hall x hx
    simp only [decide_eq_true_eq] at this
    exact whole_ne_undef this.2
  obtain ⟨us, hus, hrus⟩ : ∃ us : List Value, vs.toList = us.zipIdx.map (fun p => (p.2, p.1)) ∧ RepL G xs us := by
    refine ⟨vs.toList.map (·.2), ?_, ?_⟩
    · apply List.ext_getElem?
      intro k
      rw [List.getElem?_map, List.getElem?_zipIdx, List.getElem?_map]
      cases hk : vs.toList[k]? with
      | none => rfl
      | some p =>
        have hkl : k < xs.length := by
          rw [hl]
          rcases Nat.lt_or_ge k vs.toList.length with h | h
          · exact h
          · rw [List.getElem?_eq_none h] at hk; cases hk
        obtain ⟨v, h1, _⟩ := hv k _ (List.getElem?_eq_getElem hkl)
        rw [hk] at h1; cases h1
        simp
    · exact RepL.of_get (by simp [hl]) fun k x u hx hu => by
        obtain ⟨v, h1, h2⟩ := hv k x hx
        rw [List.getElem?_map, h1] at hu
        cases hu; exact h2
  have hflat := repL_flat hrus hundef
  have hfill : ∀ (us : List Value) (xs : List AV) (k : Nat) (pre : List Value) (cs : Array Value), RepL G xs us → (∀ x ∈ xs, x.cells.length = te.size) → (∀ x ∈ xs, x ≠ .undef) → cs.size = (k + us.length) * te.size → cs.toList.take (k * te.size) = pre →
      Instr.fill (fun i => some (i * te.size, te.size)) cs ((us.zipIdx k).map fun p => (p.2, p.1)) = some ((pre ++ us.flatMap fun v => v.cells.toList).toArray) := by
    intro us
    induction us with
    | nil =>
      intro xs k pre cs hr _ _ hc ht
      simp only [List.zipIdx_nil, List.map_nil, Instr.fill, List.flatMap_nil, List.append_nil]
      congr 1
      apply Array.ext'
      simp only [← ht]
      rw [List.take_of_length_le]
      simp at hc ⊢; omega
    | cons u us ih =>
      intro xs k pre cs hr hs hn hc ht
      cases hr with
      | cons hu hr =>
        rename_i x xs
        have hx := hs x List.mem_cons_self
        have hcl := (hu.cells (hn x List.mem_cons_self)).length
        have hus : u.cells.size = te.size := by simp at hcl; simp at hx; omega
        simp only [List.zipIdx_cons, List.map_cons, Instr.fill]
        simp only [List.length_cons, Nat.add_mul] at hc
        rw [if_neg (by simp [hus, hc] <;> omega)]
        have hput : u.cells.zipIdx.foldl (fun cs (c, j) => cs.setIfInBounds (k * te.size + j) c) cs = putCells cs (k * te.size) u.cells.toList := by
          rw [← Array.foldl_toList, Array.toList_zipIdx]
          have gen : ∀ (l : List Value) (j : Nat) (cs : Array Value), (l.zipIdx j).foldl (fun cs (p : Value × Nat) => cs.setIfInBounds (k * te.size + p.2) p.1) cs = putCells cs (k * te.size + j) l := by
            intro l
            induction l with
            | nil => intro j cs; rfl
            | cons a l ih => intro j cs; rw [List.zipIdx_cons, List.foldl_cons, ih, putCells, Nat.add_assoc]
          exact gen u.cells.toList 0 cs
        rw [hput]
        have := ih xs (k + 1) (pre ++ u.cells.toList) (putCells cs (k * te.size) u.cells.toList) hr (fun y hy => hs y (List.mem_cons_of_mem _ hy)) (fun y hy => hn y (List.mem_cons_of_mem _ hy)) (by rw [putCells_size, hc]; simp only [Nat.add_mul]; omega) ?_
        · rw [this, List.flatMap_cons, List.append_assoc]
        · have hpl : pre.length = k * te.size := by rw [← ht, List.length_take]; simp; omega
          have hul : u.cells.toList.length = te.size := by simpa using hus
          apply List.ext_getElem?
          intro j
          rw [Nat.add_mul, Nat.one_mul]
          by_cases hj : j < k * te.size + te.size
          · rw [List.getElem?_take_of_lt hj, Array.getElem?_toList, putCells_get _ _ _ _ (by rw [hul, hc]; omega)]
            by_cases hj2 : j < k * te.size
            · rw [if_neg (by omega), List.getElem?_append_left (by omega), ← ht, List.getElem?_take_of_lt hj2, Array.getElem?_toList]
            · rw [if_pos (by omega), List.getElem?_append_right (by omega), hpl]
          · rw [List.getElem?_eq_none (by simp; omega), List.getElem?_eq_none (by rw [List.length_append]; omega)]
  have hzc : ((Array.range (len * te.size)).map fun k => (if len * te.size = 0 then #[] else z2.cells)[k % (if len * te.size = 0 then #[] else z2.cells).size]!).size = (0 + us.length) * te.size := by
    rw [Nat.zero_add, ← hrus.length, hlen]
    simp
  have hf := hfill us xs 0 [] _ hrus hsz hundef hzc (by simp)
  have hrow := rowAt_flat (G := G) hsz hflat []
  have hcsz : len * te.size ≤ (us.flatMap fun v => v.cells.toList).toArray.size := by
    have := hflat.length
    rw [flat_len hsz, hlen] at this
    simp only [List.size_toArray]
    omega
  obtain ⟨G', g1, g2, g3, g4, g5⟩ := new_slice (G := G) inv (G.w.alloc (.cells (us.flatMap fun v => v.cells.toList).toArray e)) ⟨G.w, rfl, rfl, rfl, rfl, rfl⟩ (unfrozen0 _) (xs := xs) (sz := te.size) (by simpa using hrow) (Nat.le_of_eq hlen) hcsz
  refine ⟨.slice (some ⟨G.w.heap.size, 0, none⟩) len len, G', ?_, g2, g3, g4, by rw [hlen] at g5; exact g5⟩
  rw [← hus] at hf
  simp only [List.nil_append] at hf
  have hb' : ¬ (len * te.size > 2 ^ 24) := by omega
  by_cases h0 : len * te.size = 0
  · simp only [h0, if_true] at hf
    simp only [Instr.buildSlice, Sem.run_bind, F.run_und, Result.andThen_ok, F2.run_size, Sem.run_ite, h0, if_true, Sem.run_pure, hb', if_false, hf, newRow, run_newObj]
    rw [if_neg (by omega)]
    rw [g1]; rfl
  · simp only [h0, if_false] at hf
    simp only [Instr.buildSlice, Sem.run_bind, F.run_und, Result.andThen_ok, F2.run_size, Sem.run_ite, h0, if_false, Sem.run_pure, hb', F2.run_zero, hf, newRow, run_newObj]
    rw [g1]; rfl
end
end Go.Proofs.YtbjgepnkakcjaaaDoor.Lift
