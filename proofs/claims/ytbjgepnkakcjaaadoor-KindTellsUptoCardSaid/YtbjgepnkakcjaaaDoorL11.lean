/-
  LIFT, 11: append.
-/
import Derived.Test.YtbjgepnkakcjaaaDoorL10
namespace Go.Proofs.YtbjgepnkakcjaaaDoor.Lift
open Go

section
variable {P : Program} {G : Gh}

/-- cells that are known, loaded -/
theorem run_loadRep {blk base : Nat} {cs : List AV} (hc : ∀ j y, cs[j]? = some y → ∃ u, G.w.cell? ⟨blk, base + j, none⟩ = some u ∧ Rep G y u) :
    ∃ l : List Value, (∀ w' : World, w'.heap = G.w.heap → (loadCells ⟨blk, base, none⟩ cs.length).run P w' = .ok l.toArray w') ∧ RepL G cs l := by
  have hex : ∀ j, ∃ u, ∀ y, cs[j]? = some y → G.w.cell? ⟨blk, base + j, none⟩ = some u ∧ Rep G y u := fun j => by
    cases hj : cs[j]? with
    | none => exact ⟨undef, fun y hy => by cases hy⟩
    | some y =>
      obtain ⟨u, h⟩ := hc j y hj
      exact ⟨u, fun y' hy' => by cases hy'; exact h⟩
  obtain ⟨f, hf⟩ := Classical.axiomOfChoice hex
  refine ⟨(List.range cs.length).map f, ?_, ?_⟩
  · intro w' hw'
    exact run_loadCells w' ⟨blk, base, none⟩ cs.length f fun j hj => by
      rw [Addr.add_lit, World.cell?_of_block (w := G.w) (w' := w') (by rw [hw'])]
      exact (hf j _ (List.getElem?_eq_getElem hj)).1
  · refine RepL.of_get (by simp) fun j y u hy hu => ?_
    have hj : j < cs.length := by
      rcases Nat.lt_or_ge j cs.length with h | h
      · exact h
      · rw [List.getElem?_eq_none h] at hy; cases hy
    rw [List.getElem?_map, List.getElem?_range hj] at hu
    cases hu
    exact (hf j y hy).2

theorem flat_len {sz : Nat} : ∀ {xs : List AV}, (∀ x ∈ xs, x.cells.length = sz) → (xs.flatMap AV.cells).length = xs.length * sz
  | [], _ => by simp
  | x :: xs, h => by
    rw [List.flatMap_cons, List.length_append, flat_len fun y hy => h y (List.mem_cons_of_mem _ hy), h x List.mem_cons_self, List.length_cons, Nat.add_mul]
    omega
theorem flat_get {sz : Nat} : ∀ {xs : List AV}, (∀ x ∈ xs, x.cells.length = sz) → ∀ {j : Nat} {y : AV}, (xs.flatMap AV.cells)[j]? = some y → ∃ i k x, xs[i]? = some x ∧ x.cells[k]? = some y ∧ j = i * sz + k ∧ k < sz
  | [], _, j, y, hy => by simp at hy
  | x :: xs, h, j, y, hy => by
    have hx := h x List.mem_cons_self
    rw [List.flatMap_cons] at hy
    rcases Nat.lt_or_ge j sz with hj | hj
    · rw [List.getElem?_append_left (by omega)] at hy
      exact ⟨0, j, x, rfl, hy, by simp, hj⟩
    · rw [List.getElem?_append_right (by omega), hx] at hy
      obtain ⟨i, k, x', h1, h2, h3, h4⟩ := flat_get (fun y hy => h y (List.mem_cons_of_mem _ hy)) hy
      exact ⟨i + 1, k, x', h1, h2, by rw [Nat.add_mul]; omega, h4⟩

theorem all_size {ys : List AV} {esz : Nat} (h : ys.all (fun y => decide (y.cells.length = esz ∧ y.whole = true)) = true) : ∀ y ∈ ys, y.cells.length = esz := fun y hy => by
  have := List.all_eq_true.1 h y hy
  simp only [decide_eq_true_eq] at this
  exact this.1
theorem all_scal {ys : List AV} {esz : Nat} (h : ys.all (fun y => decide (y.cells.length = esz ∧ y.whole = true)) = true) : (ys.flatMap AV.cells).all AV.scal = true := by
  rw [List.all_eq_true]
  intro c hc
  obtain ⟨y, hy, hcy⟩ := List.mem_flatMap.1 hc
  have := List.all_eq_true.1 h y hy
  simp only [decide_eq_true_eq] at this
  exact List.all_eq_true.1 this.2 c hcy

/-- the elements of a slice, as its cells are read -/
theorem run_firstCells (inv : Inv G) {y : AV} {v : Value} (hy : Rep G y v) {ys : List AV} (h : elemsOf G.σ y = some ys) {esz : Nat} (hs : ∀ x ∈ ys, x.cells.length = esz) :
    ∃ l : List Value, (∀ w' : World, w'.heap = G.w.heap → (Builtin.firstCells esz ys.length v).run P w' = .ok l.toArray w') ∧ RepL G (ys.flatMap AV.cells) l := by
  have hfl := flat_len hs
  cases hy <;> simp only [elemsOf] at h <;> try (cases h; done)
  · cases h
    exact ⟨[], fun _ _ => by simp [Builtin.firstCells], .nil⟩
  · cases h
    rename_i a cap
    cases a with
    | none => exact ⟨[], fun _ _ => by simp [Builtin.firstCells], .nil⟩
    | some a => exact ⟨[], fun _ _ => by simp [Builtin.firstCells, loadCells, loadCellsFrom], .nil⟩
  · cases h
    rename_i blk o sz cap hl hE
    have := run_loadRep (P := P) (G := G) (blk := blk) (base := o) (cs := ys.flatMap AV.cells) fun j y hj => by
      obtain ⟨i, k, x, h1, h2, rfl, h4⟩ := flat_get hs hj
      obtain ⟨q1, q2⟩ := hE.get h1
      have hsz : sz = esz := by rw [← q1]; exact hs x (List.mem_of_getElem? h1)
      subst hsz
      obtain ⟨u, _, h5, h6⟩ := q2.get h2
      exact ⟨u, by rw [← h5, Nat.add_assoc], h6⟩
    rw [hfl] at this
    simpa [Builtin.firstCells] using this
  · rename_i b g sz hid hr
    split at h
    · rename_i s g' lo xs hb
      split at h
      · rename_i hc
        cases h
        obtain ⟨rfl, _⟩ := hc
        obtain ⟨_, _, r3⟩ := inv.rows b s g lo xs hb
        have := r3 hr
        subst this
        exact ⟨[], fun _ _ => by simp [Builtin.firstCells], by simpa using RepL.nil⟩
      · cases h
    · cases h
  · rename_i b g off len sz blk cap c e fz hid hr hl hbk hcc
    split at h
    · rename_i s g' lo xs hb
      split at h
      · rename_i hc
        cases h
        obtain ⟨rfl, hle⟩ := hc
        obtain ⟨_, r2, _⟩ := inv.rows b s g lo xs hb
        obtain ⟨c', e', fz', q1, q2, q3, q4⟩ := r2 blk hr
        rw [hbk] at q1
        cases q1
        have hss : s = sz := by
          obtain ⟨k2, p1, _, p2⟩ := hid
          rw [hb] at p1; cases p1; simpa using p2
        subst hss
        have hlen : ((xs.drop off).take len).length = len := by rw [List.length_take, List.length_drop]; omega
        have := run_loadRep (P := P) (G := G) (blk := blk) (base := off * s) (cs := ((xs.drop off).take len).flatMap AV.cells) fun j y hj => by
          obtain ⟨i, k, x, h1, h2, rfl, h4⟩ := flat_get hs hj
          have hi : i < len := by
            rcases Nat.lt_or_ge i len with h | h
            · exact h
            · rw [List.getElem?_eq_none (by omega)] at h1; cases h1
          have h1' := h1
          rw [List.getElem?_take_of_lt hi, List.getElem?_drop] at h1
          obtain ⟨p1, p2⟩ := q3 (off + i) x h1
          have hsz : s = esz := by rw [← p1]; exact hs x (List.mem_of_getElem? h1')
          subst hsz
          obtain ⟨u, h5, h6⟩ := p2 k y h2
          refine ⟨u, ?_, h6⟩
          rw [show off * s + (i * s + k) = (off + i) * s + k by rw [Nat.add_mul]; omega]
          simp [World.cell?, hbk, h5]
        rw [hfl, hlen] at this
        rw [hlen]
        by_cases hsz : len = 0
        · subst hsz
          simpa [Builtin.firstCells] using this
        · simpa [Builtin.firstCells] using this
      · cases h
    · cases h
  · rename_i b g off sz blk o cap hid hr ho
    split at h
    · split at h
      · cases h
        exact ⟨[], fun _ _ => by simp [Builtin.firstCells, loadCells, loadCellsFrom], by simpa using RepL.nil⟩
      · cases h
    · cases h

theorem run_lenOf_slice {y : AV} {v : Value} (hy : Rep G y v) {ys : List AV} (h : elemsOf G.σ y = some ys) : (Builtin.lenOf v).run P G.w = .ok ys.length G.w := by
  cases hy <;> simp only [elemsOf] at h <;> try (cases h; done)
  · cases h; rfl
  · cases h; rfl
  · cases h; rfl
  all_goals
    split at h
    · split at h
      · rename_i hc
        cases h
        simp only [Builtin.lenOf, Sem.run_pure]
        exact congrArg (fun k => Result.ok k G.w) (by rw [List.length_take, List.length_drop]; omega)
      · cases h
    · cases h

theorem size_zeroCells' (z : Array Value) (n : Nat) : (Builtin.zeroCells z n).size = n * z.size := by simp [Builtin.zeroCells]

section
variable {t t2 e : TypeId} {d2 : TypeDesc} {te : TI} {i : TypeInfo} {de : TypeDesc} {z : Value} (Fe : TFacts P e te i de z) (hu : P.underlying t = some (.slice e)) (hu2 : P.underlying t2 = some d2) (hd2 : ∀ k, d2 ≠ .int k)
    (w : World) (base : Option Addr) (sLen sCap m : Nat) (vy : Value) (hlen : (Builtin.lenOf vy).run P w = .ok m w) (ty : TypeId) {l : List Value}
    (hl : ∀ w' : World, w'.heap = w.heap → (Builtin.firstCells te.size m vy).run P w' = .ok l.toArray w')
include Fe hu hu2 hd2 hlen hl

theorem append_room {w2 : World} (hroom : sLen + m ≤ sCap) (hst : ∀ a, base = some a → (storeCells (a.add (sLen * te.size)) l).run P w = .ok () w2) (hn : base = none → w2 = w) :
    (Builtin.append_ #[t, t2] ty #[.slice base sLen sCap, vy]).run P w = .ok (.slice base (sLen + m) sCap) w2 := by
  simp only [Builtin.append_, List.getElem?_toArray, List.getElem?_cons_zero, List.getElem?_cons_succ, Sem.run_bind, run_underlying hu, run_underlying hu2, Result.andThen_ok, Sem.run_pure, Fe.run_size, Bool.false_eq_true, if_false, hlen, Sem.run_ite, Bool.not_false, if_true]
  rw [if_pos hroom, hl w rfl]
  simp only [Result.andThen_ok]
  cases base with
  | none => rw [hn rfl]; rfl
  | some a =>
    simp only [Sem.run_bind, hst a rfl, Result.andThen_ok, Sem.run_pure]

theorem append_grow {old : List Value} (hroom : ¬ sLen + m ≤ sCap) (hb0 : 0 < te.bytes) (hb : (sLen + m) * te.bytes ≤ 140737488355328) (ho : ∀ w' : World, w'.heap = w.heap → (Builtin.firstCells te.size sLen (.slice base sLen sCap)).run P w' = .ok old.toArray w') :
    ∃ cap, sLen + m ≤ cap ∧ (Builtin.append_ #[t, t2] ty #[.slice base sLen sCap, vy]).run P w = .ok (.slice (some ⟨w.heap.size, 0, none⟩) (sLen + m) cap)
      (w.drew.alloc (.cells (old.toArray ++ l.toArray ++ Builtin.zeroCells z.cells (cap - (sLen + m))) e)) := by
  have hib : i.bytes = te.bytes := Fe.bytes.symm
  have h48 := growslice_fits (need := sLen + m) (old := sCap) (bytes := te.bytes) (by omega) hb
  have hnext : ¬ (Builtin.nextslicecap (sLen + m) sCap * i.bytes > 2 ^ 48) := by rw [hib]; omega
  have hbz : ¬ (((sLen + m : Nat) : Int) > IntKind.i64.max ∧ i.bytes = 0) := by rw [hib]; omega
  refine ⟨sLen + m + w.tape w.drawn (.appendCap (sLen + m) sCap e) % (2 ^ 63 - (sLen + m)), by omega, ?_⟩
  simp only [Builtin.append_, List.getElem?_toArray, List.getElem?_cons_zero, List.getElem?_cons_succ, Sem.run_bind, run_underlying hu, run_underlying hu2, Result.andThen_ok, Sem.run_pure, Fe.run_size, Bool.false_eq_true, if_false, hlen, Fe.run_info, run_askRoom, run_choose, Question.forced, Question.cut, Fe.run_zero, Sem.run_ite, Bool.not_false, if_true, false_or, newRow, run_newObj]
  rw [if_neg hroom, if_neg hbz, if_neg hnext, ho { w with drawn := w.drawn + 1 } rfl]
  simp only [Result.andThen_ok]
  rw [hl { w with drawn := w.drawn + 1 } rfl]
  rfl
end

/-- the elements in front, those that come, and zeros: a row in a new block -/
theorem rowAt_grown {xs ys : List AV} {old l : List Value} {sz : Nat} (hx : ∀ x ∈ xs, x.cells.length = sz) (hy : ∀ y ∈ ys, y.cells.length = sz) (ho : RepL G (xs.flatMap AV.cells) old) (hl : RepL G (ys.flatMap AV.cells) l) (zs : Array Value) :
    RowAt G (xs ++ ys) (old.toArray ++ l.toArray ++ zs) sz := by
  have := rowAt_flat (G := G) (xs := xs ++ ys) (l := old ++ l) (sz := sz) (fun x h => by rcases List.mem_append.1 h with h | h; exact hx x h; exact hy x h) (by rw [List.flatMap_append]; exact ho.append hl) zs.toList
  have e : (old.toArray ++ l.toArray ++ zs) = (old ++ l ++ zs.toList).toArray := by simp
  rw [e]; exact this

theorem rep_cells_scal {xs : List AV} {vs : List Value} (h : RepL G xs vs) (hs : xs.all AV.scal = true) : ∀ v ∈ vs, v.oneCell' = true := h.oneCells hs

/-- APPEND: what the operation does; 'hsrc': how what comes is read -/
theorem does_append (inv : Inv G) {t t2 e : TypeId} {ti ti2 te : TI} (ht : tiOf P t = some ti) (hd : ti.d = .slice e) (he : tiOf P e = some te) (ht2 : tiOf P t2 = some ti2) (hd2 : ∀ k, ti2.d ≠ .int k)
    {x : AV} {ys : List AV} {vx vy : Value} (hx : Rep G x vx) (hlen : (Builtin.lenOf vy).run P G.w = .ok ys.length G.w)
    (hsrc : (∀ y ∈ ys, y.cells.length = te.size) → ∃ l : List Value, (∀ w' : World, w'.heap = G.w.heap → (Builtin.firstCells te.size ys.length vy).run P w' = .ok l.toArray w') ∧ RepL G (ys.flatMap AV.cells) l)
    {v : AV} {st : Sto} (h : appendTo te.size te.bytes G.σ x ys = some (v, st)) (ty : TypeId) : Does P G (Builtin.append_ #[t, t2] ty #[vx, vy]) v st := by
  obtain ⟨it, dt, zt, F⟩ := tiOf_facts ht
  obtain ⟨i, de, z, Fe⟩ := tiOf_facts he
  obtain ⟨i2, d2, z2, F2⟩ := tiOf_facts ht2
  obtain rfl := tdOf_slice (F.d ▸ hd)
  have hd2' : ∀ k, d2 ≠ .int k := fun k hk => hd2 k (by rw [F2.d, hk]; rfl)
  cases hx <;> simp only [appendTo] at h <;> try (cases h; done)
  · -- nil
    split at h
    · rename_i hc
      obtain ⟨hb0, hb, hall⟩ := hc
      cases h
      obtain ⟨l, hl, hrl⟩ := hsrc (all_size hall)
      by_cases hy : ys = []
      · subst hy
        have hr := append_room (P := P) Fe F.und F2.und hd2' G.w none 0 0 0 vy hlen ty hl (w2 := G.w) (Nat.le_refl _) (fun a ha => by cases ha) (fun _ => rfl)
        have x := ext_grow (G := G) inv G.w none (.row te.size 0 0 []) rfl rfl rfl (Nat.le_refl _) (fun _ _ => rfl) (fun j hj => by cases hj)
        have iv := inv_grow_row inv G.w none te.size [] x (fun _ _ => rfl) (fun j hj => by cases hj) (fun _ => rfl)
        exact ⟨_, G.grow G.w none (.row te.size 0 0 []), hr, rfl, x, iv, .sr0 (hasId_new G G.w none te.size 0 []) (by simp [Gh.grow])⟩
      · have hm : 0 < ys.length := List.length_pos_iff.2 hy
        obtain ⟨cap, hcap, hr⟩ := append_grow (P := P) Fe F.und F2.und hd2' G.w none 0 0 ys.length vy hlen ty hl (old := []) (by omega) hb0 (by simpa using hb) (fun w' _ => by simp [Builtin.firstCells])
        simp only [Nat.zero_add] at hcap hr
        have hrow := rowAt_grown (G := G) (xs := []) (ys := ys) (old := []) (l := l) (sz := te.size) (fun _ h => by cases h) (all_size hall) .nil hrl (Builtin.zeroCells z.cells (cap - ys.length))
        have hcs : cap * te.size ≤ (([] : List Value).toArray ++ l.toArray ++ Builtin.zeroCells z.cells (cap - ys.length)).size := by
          have h1 := hrl.length
          rw [flat_len (all_size hall)] at h1
          simp only [Array.size_append, List.size_toArray, List.length_nil, size_zeroCells', Fe.zsize, ← Fe.size, ← h1]
          rw [Nat.zero_add, ← Nat.add_mul]
          exact Nat.mul_le_mul_right _ (by omega)
        obtain ⟨G', g1, g2, g3, g4, g5⟩ := new_slice (G := G) inv _ ⟨G.w.drew, rfl, rfl, rfl, rfl, rfl⟩ (unfrozen0 _) (by simpa using hrow) hcap hcs
        exact ⟨_, G', by rw [g1]; exact hr, g2, g3, g4, g5⟩
    · cases h
  · -- a row without memory
    rename_i b g sz hid hr0
    split at h
    · rename_i s g' lo xs hb
      split at h
      · rename_i hc
        obtain ⟨hb0, rfl, _, hlo, hle, rfl, hbd, hall⟩ := hc
        cases h
        obtain ⟨l, hl, hrl⟩ := hsrc (all_size hall)
        obtain ⟨_, _, r3⟩ := inv.rows b te.size g lo xs hb
        have hxs := r3 hr0
        subst hxs
        obtain rfl : lo = 0 := by omega
        by_cases hy : ys = []
        · subst hy
          have hr := append_room (P := P) Fe F.und F2.und hd2' G.w none 0 0 0 vy hlen ty hl (w2 := G.w) (Nat.le_refl _) (fun a ha => by cases ha) (fun _ => rfl)
          have x := ext_move (G := G) (ys := ([] : List AV).take 0 ++ []) inv (w := G.w) none hb rfl rfl rfl (Nat.le_refl _) (fun _ _ => rfl) (fun j hj => by cases hj)
          have iv := inv_move inv none hb x (fun _ _ => rfl) (fun j hj => by cases hj) (fun _ => rfl) (Nat.zero_le _)
          exact ⟨_, G.turn G.w b (.row te.size (g + 1) 0 (([] : List AV).take 0 ++ [])) none, hr, rfl, x, iv, .sr0 ⟨_, sto_set_same hb, Nat.le_refl _, rfl⟩ (if_pos ⟨rfl, rfl⟩)⟩
        · have hm : 0 < ys.length := List.length_pos_iff.2 hy
          obtain ⟨cap, hcap, hr⟩ := append_grow (P := P) Fe F.und F2.und hd2' G.w none 0 0 ys.length vy hlen ty hl (old := []) (by omega) hb0 hbd (fun w' _ => by simp [Builtin.firstCells])
          have hrow := rowAt_grown (G := G) (xs := []) (ys := ys) (old := []) (l := l) (sz := te.size) (fun _ h => by cases h) (all_size hall) .nil hrl (Builtin.zeroCells z.cells (cap - (0 + ys.length)))
          have hcs : cap * te.size ≤ (([] : List Value).toArray ++ l.toArray ++ Builtin.zeroCells z.cells (cap - (0 + ys.length))).size := by
            have h1 := hrl.length
            rw [flat_len (all_size hall)] at h1
            simp only [Array.size_append, List.size_toArray, List.length_nil, size_zeroCells', Fe.zsize, ← Fe.size, ← h1]
            rw [Nat.zero_add, ← Nat.add_mul]
            exact Nat.mul_le_mul_right _ (by omega)
          have x := ext_move (G := G) (ys := ([] : List AV).take 0 ++ ys) inv (w := G.w.drew.alloc (.cells (([] : List Value).toArray ++ l.toArray ++ Builtin.zeroCells z.cells (cap - (0 + ys.length))) e)) (some G.w.heap.size) hb rfl rfl rfl (by rw [World.size_alloc]; exact Nat.le_succ _)
            (fun j hj => heap_alloc_lt _ _ hj) (fun j hj => by cases hj; exact Nat.le_refl _)
          have iv := inv_move inv (some G.w.heap.size) hb x (fun j hj => heap_alloc_lt _ _ hj) (fun j hj => by cases hj; exact ⟨Nat.le_refl _, _, e, (0, 0), heap_alloc_new _ _, unfrozen0 _, by simpa using hrow⟩) (fun h => by cases h) (Nat.zero_le _)
          refine ⟨_, _, hr, rfl, x, iv, ?_⟩
          have := Rep.sr (G := G.turn (G.w.drew.alloc (.cells (([] : List Value).toArray ++ l.toArray ++ Builtin.zeroCells z.cells (cap - (0 + ys.length))) e)) b (.row te.size (g + 1) 0 (([] : List AV).take 0 ++ ys)) (some G.w.heap.size)) (off := 0) (len := 0 + ys.length) (cap := cap) (b := b) (g := g + 1)
            ⟨_, sto_set_same hb, Nat.le_refl _, rfl⟩ (blk := G.w.heap.size) (if_pos ⟨rfl, rfl⟩) hcap (heap_alloc_new _ _) (by simpa using hcs)
          simpa using this
      · cases h
    · cases h
  · -- a row in memory
    rename_i b g off len sz blk cap c e0 fz hid hr0 hlc hbk hcc
    split at h
    · rename_i s g' lo xs hb
      split at h
      · rename_i hc
        obtain ⟨hb0, rfl, rfl, hlo, hle, rfl, hbd, hall⟩ := hc
        cases h
        have hsz : sz = te.size := by
          obtain ⟨k2, p1, _, p2⟩ := hid
          rw [hb] at p1; cases p1; simpa using p2.symm
        subst hsz
        obtain ⟨l, hl, hrl⟩ := hsrc (all_size hall)
        obtain ⟨r1, r2, _⟩ := inv.rows b te.size g lo xs hb
        obtain ⟨c', e', fz', q1, q2, q3, q4⟩ := r2 blk hr0
        rw [hbk] at q1
        cases q1
        have hxsz : ∀ x ∈ xs.take len, x.cells.length = te.size := fun x hx => by
          obtain ⟨k, hk⟩ := List.getElem?_of_mem (List.mem_of_mem_take hx)
          exact (q3 k x hk).1
        have hll := hrl.length
        rw [flat_len (all_size hall)] at hll
        have htl : (xs.take len).length = len := by rw [List.length_take]; omega
        by_cases hroom : len + ys.length ≤ cap
        · -- in place
          have hfit : len * te.size + l.length ≤ c.size := by
            rw [← hll, ← Nat.add_mul]
            exact Nat.le_trans (Nat.mul_le_mul_right _ (by omega)) hcc
          have hst := run_storeCells (P := P) l G.w c (len * te.size) 0 hbk q2 (by omega) (hrl.oneCells (all_scal hall))
          rw [Nat.add_zero] at hst
          have hr := append_room (P := P) Fe F.und F2.und hd2' G.w (some ⟨blk, 0 * te.size, none⟩) len cap ys.length vy hlen ty hl hroom (fun a ha => by
            cases ha
            rw [Addr.add_lit, Nat.zero_mul, Nat.zero_add]
            exact hst) (fun h => by cases h)
          have hcs : ∀ j, (putCells c (len * te.size) l)[j]? = if len * te.size ≤ j ∧ j < len * te.size + l.length then l[j - len * te.size]? else c[j]? := fun j => putCells_get _ _ _ _ hfit
          have hrow : RowAt G (xs.take len ++ ys) (putCells c (len * te.size) l) te.size := by
            intro k y hy
            rcases Nat.lt_or_ge k len with hk | hk
            · rw [List.getElem?_append_left (by omega), List.getElem?_take_of_lt hk] at hy
              obtain ⟨p1, p2⟩ := q3 k y hy
              refine ⟨p1, fun j u hu => ?_⟩
              have hj : j < te.size := by
                rcases Nat.lt_or_ge j te.size with h | h
                · exact h
                · rw [List.getElem?_eq_none (by omega)] at hu; cases hu
              have : (k + 1) * te.size ≤ len * te.size := Nat.mul_le_mul_right _ hk
              rw [Nat.add_mul] at this
              rw [hcs, if_neg (by omega)]
              exact p2 j u hu
            · rw [List.getElem?_append_right (by omega), htl] at hy
              have hys := all_size hall y (List.mem_of_getElem? hy)
              refine ⟨hys, fun j u hu => ?_⟩
              have hj : j < te.size := by
                rcases Nat.lt_or_ge j te.size with h | h
                · exact h
                · rw [List.getElem?_eq_none (by omega)] at hu; cases hu
              have hkl : k - len < ys.length := by
                rcases Nat.lt_or_ge (k - len) ys.length with h | h
                · exact h
                · rw [List.getElem?_eq_none h] at hy; cases hy
              have e1 : k * te.size = len * te.size + (k - len) * te.size := by rw [← Nat.add_mul]; congr 1; omega
              have e2 : (k - len + 1) * te.size ≤ ys.length * te.size := Nat.mul_le_mul_right _ hkl
              rw [Nat.add_mul] at e2
              rw [hcs, if_pos (by omega), show k * te.size + j - len * te.size = (k - len) * te.size + j by omega]
              have h2 := (rowAt_flat (G := G) (all_size hall) hrl []) (k - len) y hy
              obtain ⟨u', h3, h4⟩ := h2.2 j u hu
              exact ⟨u', by simpa using h3, h4⟩
          have hloe : lo * te.size ≤ len * te.size := Nat.mul_le_mul_right _ hlo
          have x := ext_put (G := G) (ys := xs.take len ++ ys) inv hb hr0 hbk rfl (putCells_size l c (len * te.size)) (fun o ho => by rw [hcs, if_neg (by omega)]) (g2 := g + 1) (Nat.le_succ g)
          have iv := inv_put (G := G) inv hb hr0 hbk rfl (putCells_size l c (len * te.size)) x hrow (by rw [List.length_append, htl]; omega)
          refine ⟨_, _, hr, rfl, x, iv, ?_⟩
          have hlt := (Array.getElem?_eq_some_iff.1 hbk).1
          exact Rep.sr (off := 0) (len := len + ys.length) (cap := cap) ⟨_, sto_set_same hb, Nat.le_refl _, rfl⟩ (blk := blk) (if_pos ⟨rfl, rfl⟩) hroom (by show (G.w.heap.setIfInBounds blk _)[blk]? = _; rw [Array.getElem?_setIfInBounds_self, if_pos hlt]) (by rw [putCells_size]; exact hcc)
        · -- a new block
          have hold : ∃ old : List Value, (∀ w' : World, w'.heap = G.w.heap → (Builtin.firstCells te.size len (.slice (some ⟨blk, 0 * te.size, none⟩) len cap)).run P w' = .ok old.toArray w') ∧ RepL G ((xs.take len).flatMap AV.cells) old := by
            have hc2 : ∀ j y, ((xs.take len).flatMap AV.cells)[j]? = some y → ∃ u, c[j]? = some u ∧ Rep G y u := fun j y hj => by
              obtain ⟨i, k, x, h1, h2, rfl, h4⟩ := flat_get hxsz hj
              have hi : i < len := by
                rcases Nat.lt_or_ge i len with h | h
                · exact h
                · rw [List.getElem?_eq_none (by omega)] at h1; cases h1
              rw [List.getElem?_take_of_lt hi] at h1
              exact (q3 i x h1).2 k y h2
            obtain ⟨old, h0⟩ : ∃ old : List Value, old.length = len * te.size ∧ ∀ j, j < len * te.size → ∃ y u, ((xs.take len).flatMap AV.cells)[j]? = some y ∧ c[j]? = some u ∧ old[j]? = some u ∧ Rep G y u := by
              have hex : ∀ j : Nat, ∃ u, ∀ y, ((xs.take len).flatMap AV.cells)[j]? = some y → c[j]? = some u ∧ Rep G y u := fun j => by
                cases hj : ((xs.take len).flatMap AV.cells)[j]? with
                | none => exact ⟨undef, fun y hy => by cases hy⟩
                | some y =>
                  obtain ⟨u, h⟩ := hc2 j y hj
                  exact ⟨u, fun y' hy' => by cases hy'; exact h⟩
              obtain ⟨f, hf⟩ := Classical.axiomOfChoice hex
              refine ⟨(List.range (len * te.size)).map f, by simp, fun j hj => ?_⟩
              have hfl := flat_len hxsz
              rw [htl] at hfl
              obtain ⟨h1, h2⟩ := hf j _ (List.getElem?_eq_getElem (by omega))
              exact ⟨_, _, List.getElem?_eq_getElem (by omega), h1, by rw [List.getElem?_map, List.getElem?_range hj]; rfl, h2⟩
            refine ⟨old, fun w' hw' => ?_, ?_⟩
            · have := run_loadCells_list (P := P) w' ⟨blk, 0, none⟩ old fun j v hj => by
                have hj2 : j < len * te.size := by
                  rcases Nat.lt_or_ge j (len * te.size) with h | h
                  · exact h
                  · rw [List.getElem?_eq_none (by omega)] at hj; cases hj
                obtain ⟨y, u, _, h2, h3, _⟩ := h0.2 j hj2
                rw [hj] at h3; cases h3
                rw [Addr.add_lit, Nat.zero_add]
                simp [World.cell?, hw', hbk, h2]
              rw [h0.1] at this
              simpa [Builtin.firstCells] using this
            · have hfl := flat_len hxsz
              rw [htl] at hfl
              refine RepL.of_get (by omega) fun j y u hy hu => ?_
              obtain ⟨y', u', h1, _, h3, h4⟩ := h0.2 j (by
                rcases Nat.lt_or_ge j (len * te.size) with h | h
                · exact h
                · rw [List.getElem?_eq_none (by omega)] at hu; cases hu)
              rw [hy] at h1; cases h1
              rw [hu] at h3; cases h3
              exact h4
          obtain ⟨old, ho, hro⟩ := hold
          obtain ⟨ncap, hcap, hr⟩ := append_grow (P := P) Fe F.und F2.und hd2' G.w (some ⟨blk, 0 * te.size, none⟩) len cap ys.length vy hlen ty hl (old := old) hroom hb0 hbd ho
          have hrow := rowAt_grown (G := G) (xs := xs.take len) (ys := ys) (old := old) (l := l) (sz := te.size) hxsz (all_size hall) hro hrl (Builtin.zeroCells z.cells (ncap - (len + ys.length)))
          have hcs : ncap * te.size ≤ (old.toArray ++ l.toArray ++ Builtin.zeroCells z.cells (ncap - (len + ys.length))).size := by
            have h1 := hro.length
            rw [flat_len hxsz, htl] at h1
            simp only [Array.size_append, List.size_toArray, size_zeroCells', Fe.zsize, ← Fe.size, ← hll, ← h1]
            rw [← Nat.add_mul, ← Nat.add_mul]
            exact Nat.mul_le_mul_right _ (by omega)
          have x := ext_move (G := G) (ys := xs.take len ++ ys) inv (w := G.w.drew.alloc (.cells (old.toArray ++ l.toArray ++ Builtin.zeroCells z.cells (ncap - (len + ys.length))) e)) (some G.w.heap.size) hb rfl rfl rfl (by rw [World.size_alloc]; exact Nat.le_succ _)
            (fun j hj => heap_alloc_lt _ _ hj) (fun j hj => by cases hj; exact Nat.le_refl _)
          have iv := inv_move inv (some G.w.heap.size) hb x (fun j hj => heap_alloc_lt _ _ hj) (fun j hj => by cases hj; exact ⟨Nat.le_refl _, _, e, (0, 0), heap_alloc_new _ _, unfrozen0 _, hrow⟩) (fun h => by cases h) (by rw [List.length_append, htl]; omega)
          refine ⟨_, _, hr, rfl, x, iv, ?_⟩
          have := Rep.sr (G := G.turn (G.w.drew.alloc (.cells (old.toArray ++ l.toArray ++ Builtin.zeroCells z.cells (ncap - (len + ys.length))) e)) b (.row te.size (g + 1) lo (xs.take len ++ ys)) (some G.w.heap.size)) (off := 0) (len := len + ys.length) (cap := ncap) (b := b) (g := g + 1)
            ⟨_, sto_set_same hb, Nat.le_refl _, rfl⟩ (blk := G.w.heap.size) (if_pos ⟨rfl, rfl⟩) hcap (heap_alloc_new _ _) (by simpa using hcs)
          simpa using this
      · cases h
    · cases h
  · rename_i ho
    split at h
    · split at h
      · rename_i hc
        exact absurd hc.2.2.1 ho
      · cases h
    · cases h
end
end Go.Proofs.YtbjgepnkakcjaaaDoor.Lift
