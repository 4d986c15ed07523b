/-
  LIFT, 6: operations that make memory; and those that do not touch it.
  LIFT, 7: operators; conversions; places; slices of slices and strings; len.
  LIFT, 8: operators; conversions; places; slices of slices and strings; len.
  LIFT, 9: operators; conversions; places; slices of slices and strings; len.
  LIFT, 10: slices of slices and strings; len; append.
  LIFT, 11: append.
-/
import Derived.Test.YtgpkochbmfhmdaaGreatDoorQ1
import Derived.Laws.Append
import Derived.Laws.StructEq
import Derived.Laws.Concat
import Derived.ChangeKeysEq
import Derived.Lib.Strings
namespace Go.Proofs.YtgpkochbmfhmdaaGreatDoor.Lift
open Go

/-- an operation comes to an abstract value and store -/
def Does (P : Program) (G : Gh) (x : Sem Value) (v : AV) (st : Sto) : Prop := ∃ r G', x.run P G.w = .ok r G'.w ∧ G'.σ = st ∧ Ext G G' ∧ Inv G' ∧ Rep G' v r

theorem does_pure {P : Program} {G : Gh} (inv : Inv G) {x : Sem Value} {v : AV} {r : Value} (h : x.run P G.w = .ok r G.w) (hr : Rep G v r) : Does P G x v G.σ :=
  ⟨r, G, h, rfl, Ext.refl G, inv, hr⟩

theorem unfrozen0 (n : Nat) : Unfrozen n (0, 0) := fun o _ => by simp

theorem hasId_new (G : Gh) (w : World) (at_ : Option Nat) (sz lo : Nat) (xs : List AV) : HasId (G.grow w at_ (.row sz 0 lo xs)) G.σ.length 0 (some sz) :=
  ⟨.row sz 0 lo xs, by simp [Gh.grow], Nat.le_refl _, rfl⟩

/-- a new row in new memory -/
theorem new_row {G : Gh} (inv : Inv G) (w : World) {sz : Nat} {xs : List AV} {c : Array Value} {e : TypeId} {fz : Nat × Nat} (hw : ∃ w1 : World, w1.heap = G.w.heap ∧ w1.os = G.w.os ∧ w1.tape = G.w.tape ∧ w1.output = G.w.output ∧
      w = w1.alloc (.cells c e fz))
    (hf : Unfrozen c.size fz) (hrow : RowAt G xs c sz) :
    Ext G (G.grow w (some G.w.heap.size) (.row sz 0 0 xs)) ∧ Inv (G.grow w (some G.w.heap.size) (.row sz 0 0 xs)) := by
  obtain ⟨w1, h1, h2, h3, h4, rfl⟩ := hw
  have h5 : ∀ j, j < G.w.heap.size → (w1.alloc (.cells c e fz)).heap[j]? = G.w.heap[j]? := fun j hj => by rw [heap_alloc_lt _ _ (by rw [h1]; exact hj), h1]
  have x := ext_grow inv (w1.alloc (.cells c e fz)) (some G.w.heap.size) (.row sz 0 0 xs) h2 h3 h4 (by rw [World.size_alloc, h1]; omega) h5 (fun j hj => by cases hj; omega)
  exact ⟨x, inv_grow_row inv _ _ sz xs x h5 (fun j hj => by
    cases hj
    exact ⟨Nat.le_refl _, c, e, fz, by rw [← h1]; exact heap_alloc_new _ _, hf, hrow⟩) (fun h => by cases h)⟩

theorem does_alloc_one {P : Program} {G : Gh} (inv : Inv G) (x : AV) (sz : Nat) (c : Array Value) (e : TypeId) (hx : x.cells.length = sz) (hc : RepL G x.cells c.toList) :
    ∃ G', G'.w = G.w.alloc (.cells c e) ∧ G'.σ = G.σ ++ [.row sz 0 0 [x]] ∧ Ext G G' ∧ Inv G' ∧ Rep G' (.ptr G.σ.length 0 0 0) (.pointer (some ⟨G.w.heap.size, 0, none⟩)) := by
  have hrow : RowAt G [x] c sz := fun i y hy => by
    cases i with
    | zero =>
      simp only [List.getElem?_cons_zero] at hy
      cases hy
      refine ⟨hx, fun j z hz => ?_⟩
      obtain ⟨u, h1, h2⟩ := hc.get hz
      exact ⟨u, by simpa using h1, h2⟩
    | succ i => simp at hy
  obtain ⟨x1, iv⟩ := new_row inv (G.w.alloc (.cells c e)) ⟨G.w, rfl, rfl, rfl, rfl, rfl⟩ (unfrozen0 _) hrow
  refine ⟨_, rfl, rfl, x1, iv, ?_⟩
  have := Rep.ptr (i := 0) (off := 0) (hasId_new G (G.w.alloc (.cells c e)) (some G.w.heap.size) sz 0 [x]) (blk := G.w.heap.size) (by simp [Gh.grow])
  simpa using this

theorem run_alloc {P : Program} {G : Gh} (inv : Inv G) {t : TypeId} {ti : TI} (ht : tiOf P t = some ti) :
    Does P G (Instr.alloc t true (.tuple #[])) (.ptr G.σ.length 0 0 0) (G.σ ++ [.row ti.size 0 0 [mkv ti.agg ti.zero]]) := by
  obtain ⟨i, d, z, F⟩ := tiOf_facts ht
  have hz := F.rep_zero G
  have hcells : (mkv ti.agg ti.zero).cells = ti.zero := by
    rw [F.zero_mkv]
    split
    · rfl
    · rename_i ha
      have hzz := F.zagg
      rw [← F.agg] at hzz
      have ha' : isAggV z = false := by rw [hzz]; simpa using ha
      have hv : ti.zero = [ofConst z] := by rw [F.zs]; cases z <;> simp_all [isAggV, Value.cells]
      rw [hv]
      have hok := F.okz
      cases z <;> simp_all [isAggV, Value.cells]
      all_goals (first | rfl | (rename_i a; cases a <;> first | rfl | simp_all) | skip)
      rename_i a n c
      cases a <;> cases n <;> cases c <;> simp_all
  obtain ⟨G', h1, h2, h3, h4, h5⟩ := does_alloc_one (P := P) inv (mkv ti.agg ti.zero) ti.size z.cells t (by rw [hcells]; exact F.zero_len) (by rw [hcells]; exact hz)
  exact ⟨_, G', by simp [Instr.alloc, F.run_zero, newVar, newRow, h1], h2, h3, h4, h5⟩

/-- a new block, by the name of one that was set aside -/
theorem does_alloc_at {P : Program} {G : Gh} (inv : Inv G) (x : AV) (sz k : Nat) (c : Array Value) (e : TypeId) (hx : x.cells.length = sz) (hc : RepL G x.cells c.toList) (hk : G.σ[k]? = some (.row sz 0 0 [])) :
    ∃ G', G'.w = G.w.alloc (.cells c e) ∧ G'.σ = G.σ.set k (.row sz 1 0 [x]) ∧ Ext G G' ∧ Inv G' ∧ Rep G' (.ptr k 1 0 0) (.pointer (some ⟨G.w.heap.size, 0, none⟩)) := by
  have hrow : RowAt G [x] c sz := fun i y hy => by
    cases i with
    | zero =>
      simp only [List.getElem?_cons_zero] at hy
      cases hy
      refine ⟨hx, fun j z hz => ?_⟩
      obtain ⟨u, h1, h2⟩ := hc.get hz
      exact ⟨u, by simpa using h1, h2⟩
    | succ i => simp at hy
  have h5 : ∀ j, j < G.w.heap.size → (G.w.alloc (.cells c e)).heap[j]? = G.w.heap[j]? := fun j hj => heap_alloc_lt _ _ hj
  have x1 := ext_move (w := G.w.alloc (.cells c e)) (ys := [x]) inv (some G.w.heap.size) hk rfl rfl rfl (by rw [World.size_alloc]; omega) h5 (fun j hj => by cases hj; exact Nat.le_refl _)
  have iv := inv_move inv (some G.w.heap.size) hk x1 h5 (fun j hj => by cases hj; exact ⟨Nat.le_refl _, c, e, (0, 0), heap_alloc_new _ _, unfrozen0 _, hrow⟩) (fun h => by cases h) (Nat.zero_le _)
  refine ⟨_, rfl, rfl, x1, iv, ?_⟩
  have := Rep.ptr (G := G.turn (G.w.alloc (.cells c e)) k (.row sz (0 + 1) 0 [x]) (some G.w.heap.size)) (b := k) (g := 1) (i := 0) (off := 0) (sz := sz) (blk := G.w.heap.size) ⟨.row sz 1 0 [x], sto_set_same hk, Nat.le_refl _, rfl⟩ (by simp [Gh.turn])
  simpa using this
theorem run_alloc_at {P : Program} {G : Gh} (inv : Inv G) {t : TypeId} {ti : TI} (ht : tiOf P t = some ti) {k : Nat} (hk : G.σ[k]? = some (.row ti.size 0 0 [])) :
    Does P G (Instr.alloc t true (.tuple #[])) (.ptr k 1 0 0) (G.σ.set k (.row ti.size 1 0 [mkv ti.agg ti.zero])) := by
  obtain ⟨i, d, z, F⟩ := tiOf_facts ht
  have hz := F.rep_zero G
  have hcells : (mkv ti.agg ti.zero).cells = ti.zero := by
    rw [F.zero_mkv]
    split
    · rfl
    · rename_i ha
      have hzz := F.zagg
      rw [← F.agg] at hzz
      have ha' : isAggV z = false := by rw [hzz]; simpa using ha
      have hv : ti.zero = [ofConst z] := by rw [F.zs]; cases z <;> simp_all [isAggV, Value.cells]
      rw [hv]
      have hok := F.okz
      cases z <;> simp_all [isAggV, Value.cells]
      all_goals (first | rfl | (rename_i a; cases a <;> first | rfl | simp_all) | skip)
      rename_i a n c
      cases a <;> cases n <;> cases c <;> simp_all
  obtain ⟨G', h1, h2, h3, h4, h5⟩ := does_alloc_at (P := P) inv (mkv ti.agg ti.zero) ti.size k z.cells t (by rw [hcells]; exact F.zero_len) (by rw [hcells]; exact hz) hk
  exact ⟨_, G', by simp [Instr.alloc, F.run_zero, newVar, newRow, h1], h2, h3, h4, h5⟩

theorem run_box {P : Program} {G : Gh} (inv : Inv G) (t : TypeId) {x : AV} {v : Value} (hx : Rep G x v) (hw : x.whole = true) :
    Does P G (Instr.box t v) (.ptr G.σ.length 0 0 0) (G.σ ++ [.row x.cells.length 0 0 [x]]) := by
  obtain ⟨G', h1, h2, h3, h4, h5⟩ := does_alloc_one (P := P) inv x x.cells.length v.cells t rfl (hx.cells (whole_ne_undef hw))
  exact ⟨_, G', by simp [Instr.box, newVar, newRow, h1], h2, h3, h4, h5⟩

theorem run_box_at {P : Program} {G : Gh} (inv : Inv G) (t : TypeId) {x : AV} {v : Value} (hx : Rep G x v) (hw : x.whole = true) {k : Nat} (hk : G.σ[k]? = some (.row x.cells.length 0 0 [])) :
    Does P G (Instr.box t v) (.ptr k 1 0 0) (G.σ.set k (.row x.cells.length 1 0 [x])) := by
  obtain ⟨G', h1, h2, h3, h4, h5⟩ := does_alloc_at (P := P) inv x x.cells.length k v.cells t rfl (hx.cells (whole_ne_undef hw)) hk
  exact ⟨_, G', by simp [Instr.box, newVar, newRow, h1], h2, h3, h4, h5⟩

/-- a new slice over a new row (nothing spare, or some) -/
theorem new_slice {G : Gh} (inv : Inv G) (w : World) {sz : Nat} {xs : List AV} {c : Array Value} {e : TypeId} {fz : Nat × Nat} {cap : Nat} (hw : ∃ w1 : World, w1.heap = G.w.heap ∧ w1.os = G.w.os ∧ w1.tape = G.w.tape ∧ w1.output = G.w.output ∧
      w = w1.alloc (.cells c e fz))
    (hf : Unfrozen c.size fz) (hrow : RowAt G xs c sz) (hl : xs.length ≤ cap) (hcap : cap * sz ≤ c.size) :
    ∃ G', G'.w = w ∧ G'.σ = G.σ ++ [.row sz 0 0 xs] ∧ Ext G G' ∧ Inv G' ∧ Rep G' (.sr G.σ.length 0 0 xs.length) (.slice (some ⟨G.w.heap.size, 0, none⟩) xs.length cap) := by
  obtain ⟨x1, iv⟩ := new_row inv w hw hf hrow
  refine ⟨_, rfl, rfl, x1, iv, ?_⟩
  obtain ⟨w1, h1, _, _, _, rfl⟩ := hw
  have := Rep.sr (G := G.grow (w1.alloc (.cells c e fz)) (some G.w.heap.size) (.row sz 0 0 xs)) (off := 0) (cap := cap) (hasId_new G _ (some G.w.heap.size) sz 0 xs) (blk := G.w.heap.size) (by simp [Gh.grow]) hl
    (by show (w1.alloc (.cells c e fz)).heap[G.w.heap.size]? = _; rw [← h1]; exact heap_alloc_new _ _) (by simpa using hcap)
  simpa using this

/-- a new slice, by the name of a block that was set aside -/
theorem new_slice_at {G : Gh} (inv : Inv G) (w : World) {sz k : Nat} {xs : List AV} {c : Array Value} {e : TypeId} {fz : Nat × Nat} {cap : Nat} (hk : G.σ[k]? = some (.row sz 0 0 [])) (hw : ∃ w1 : World, w1.heap = G.w.heap ∧ w1.os = G.w.os ∧ w1.tape = G.w.tape ∧ w1.output = G.w.output ∧
      w = w1.alloc (.cells c e fz))
    (hf : Unfrozen c.size fz) (hrow : RowAt G xs c sz) (hl : xs.length ≤ cap) (hcap : cap * sz ≤ c.size) :
    ∃ G', G'.w = w ∧ G'.σ = G.σ.set k (.row sz 1 0 xs) ∧ Ext G G' ∧ Inv G' ∧ Rep G' (.sr k 1 0 xs.length) (.slice (some ⟨G.w.heap.size, 0, none⟩) xs.length cap) := by
  obtain ⟨w1, h1, h2, h3, h4, rfl⟩ := hw
  have h5 : ∀ j, j < G.w.heap.size → (w1.alloc (.cells c e fz)).heap[j]? = G.w.heap[j]? := fun j hj => by rw [heap_alloc_lt _ _ (by rw [h1]; exact hj), h1]
  have h6 : (w1.alloc (.cells c e fz)).heap[G.w.heap.size]? = some (.cells c e fz) := by rw [← h1]; exact heap_alloc_new _ _
  have hsz : G.w.heap.size ≤ (w1.alloc (.cells c e fz)).heap.size := by rw [World.size_alloc, h1]; omega
  have x1 := ext_move (w := w1.alloc (.cells c e fz)) (ys := xs) inv (some G.w.heap.size) hk h2 h3 h4 hsz h5 (fun j hj => by cases hj; exact Nat.le_refl _)
  have iv := inv_move inv (some G.w.heap.size) hk x1 h5 (fun j hj => by cases hj; exact ⟨Nat.le_refl _, c, e, fz, h6, hf, hrow⟩) (fun h => by cases h) (Nat.zero_le _)
  refine ⟨_, rfl, rfl, x1, iv, ?_⟩
  have := Rep.sr (G := G.turn (w1.alloc (.cells c e fz)) k (.row sz (0 + 1) 0 xs) (some G.w.heap.size)) (b := k) (g := 1) (off := 0) (sz := sz) (cap := cap) (blk := G.w.heap.size) ⟨.row sz 1 0 xs, sto_set_same hk, Nat.le_refl _, rfl⟩ (by simp [Gh.turn]) hl h6 (by simpa using hcap)
  simpa using this

/-- a new slice over a new row, frozen at once -/
theorem new_slice_fz {G : Gh} (inv : Inv G) (w : World) {sz : Nat} {xs : List AV} {c : Array Value} {e : TypeId} {fz : Nat × Nat} {cap : Nat} (hw : ∃ w1 : World, w1.heap = G.w.heap ∧ w1.os = G.w.os ∧ w1.tape = G.w.tape ∧ w1.output = G.w.output ∧
      w = w1.alloc (.cells c e fz))
    (hrow : RowAt G xs c sz) (hl : xs.length ≤ cap) :
    ∃ G', G'.w = w ∧ G'.σ = G.σ ∧ Ext G G' ∧ Inv G' ∧ Rep G' (.sl xs) (.slice (some ⟨G.w.heap.size, 0, none⟩) xs.length cap) := by
  obtain ⟨w1, h1, h2, h3, h4, rfl⟩ := hw
  have h5 : ∀ j, j < G.w.heap.size → (w1.alloc (.cells c e fz)).heap[j]? = G.w.heap[j]? := fun j hj => by rw [heap_alloc_lt _ _ (by rw [h1]; exact hj), h1]
  have h6 : (w1.alloc (.cells c e fz)).heap[G.w.heap.size]? = some (.cells c e fz) := by rw [← h1]; exact heap_alloc_new _ _
  have hsz : G.w.heap.size ≤ (w1.alloc (.cells c e fz)).heap.size := by rw [World.size_alloc, h1]; omega
  let G' : Gh := { G with w := w1.alloc (.cells c e fz), φ := fun b o => G.φ b o ∨ (b = G.w.heap.size ∧ o < xs.length * sz) }
  have x : Ext G G' :=
    { os := h2, tape := h3, output := h4, size := hsz, old := fun blk hb _ _ => h5 blk hb
      shape := fun blk c e fz h => ⟨c, (h5 blk (Array.getElem?_eq_some_iff.1 h).1).trans h, rfl⟩
      frozen := fun _ _ h => .inl h
      cell := fun b o h => World.cell?_of_block (a := ⟨b, o, none⟩) (h5 b (inv.lt b o h))
      fmap := fun b ents ck h hb => (h5 b (inv.lt b 0 h)).trans hb
      thaw := fun b o h hb => by
        rcases h with h | ⟨h, _⟩
        · exact .inl h
        · omega
      len := Nat.le_refl _, id := fun _ k h => ⟨k, h, Nat.le_refl _, rfl⟩, at_ := fun _ _ _ _ _ => rfl, own := fun _ h => .inr h
      time := Nat.le_refl _, zin := fun _ h => .inr h, zout := fun _ h => h, foe := rfl }
  refine ⟨G', rfl, rfl, x, ?_, ?_⟩
  · exact
      { rows := fun b s g lo ys h => by
          obtain ⟨r1, r2, r3⟩ := inv.rows b s g lo ys h
          refine ⟨r1, fun blk hblk => ?_, r3⟩
          obtain ⟨c', e', fz', q1, q2, q3, q4⟩ := r2 blk hblk
          have hlt := (Array.getElem?_eq_some_iff.1 q1).1
          refine ⟨c', e', fz', (h5 blk hlt).trans q1, q2, q3.ext x, fun o ho hf => ?_⟩
          rcases hf with hf | ⟨hf, _⟩
          · exact q4 o ho hf
          · omega
        maps := fun b es h => by
          obtain ⟨blk, ents, ck, q1, q2, q3, q4⟩ := inv.maps b es h
          have hlt := (Array.getElem?_eq_some_iff.1 q2).1
          refine ⟨blk, ents, ck, q1, (h5 blk hlt).trans q2, q3.ext x, fun o hf => ?_⟩
          rcases hf with hf | ⟨hf, _⟩
          · exact q4 o hf
          · omega
        inj := inv.inj
        lt := fun b o hf => by
          rcases hf with hf | ⟨hf, _⟩
          · exact Nat.lt_of_lt_of_le (inv.lt b o hf) hsz
          · subst hf; show G.w.heap.size < (w1.alloc (.cells c e fz)).heap.size; rw [World.size_alloc, h1]; omega
        tks := inv.tks
        held := inv.held_ext x rfl
        stab := inv.stab
        zlt := fun blk h => Nat.lt_of_lt_of_le (inv.zlt blk h) hsz
        znone := inv.znone
        its := fun b s i h => by
          obtain ⟨blk, q1, q2⟩ := inv.its b s i h
          exact ⟨blk, q1, (h5 blk (Array.getElem?_eq_some_iff.1 q2).1).trans q2⟩
        deads := fun b s g blk h hr => Nat.lt_of_lt_of_le (inv.deads b s g blk h hr) hsz }
  · by_cases hz : xs = []
    · subst hz
      exact .sl0 _ _ (fun e => by cases e)
    · refine .sl (sz := sz) hl (RepElems.of_get fun i y hy => ?_)
      obtain ⟨q1, q2⟩ := hrow i y hy
      refine ⟨q1, RepCells.of_get fun j q hq => ?_⟩
      obtain ⟨v, q3, q4⟩ := q2 j q hq
      have hi : i < xs.length := (List.getElem?_eq_some_iff.1 hy).1
      have hj : j < sz := by rw [← q1]; exact (List.getElem?_eq_some_iff.1 hq).1
      have hlt : 0 + i * sz + j < xs.length * sz := by
        have : (i + 1) * sz ≤ xs.length * sz := Nat.mul_le_mul_right _ hi
        rw [Nat.add_mul] at this
        omega
      refine ⟨v, .inr ⟨rfl, hlt⟩, ?_, q4.ext x⟩
      show (w1.alloc (.cells c e fz)).cell? _ = _
      unfold World.cell?
      simp only [h6]
      simpa using q3

/-- the elements of a list, laid one behind the other -/
theorem rowAt_flat {G : Gh} {sz : Nat} : ∀ {xs : List AV} {l : List Value}, (∀ x ∈ xs, x.cells.length = sz) → RepL G (xs.flatMap AV.cells) l → ∀ (r : List Value), RowAt G xs (l ++ r).toArray sz
  | [], _, _, _, _ => fun i x hx => by simp at hx
  | x :: xs, l, hs, h, r => by
    rw [List.flatMap_cons] at h
    have hx := hs x List.mem_cons_self
    have h2 : RepL G (xs.flatMap AV.cells) (l.drop sz) := RepL.of_get (by rw [List.length_drop, ← h.length, List.length_append]; omega) fun i y u hy hu => by
      rw [List.getElem?_drop] at hu
      obtain ⟨u', h1, h2⟩ := h.get (i := sz + i) (x := y) (by rw [List.getElem?_append_right (by omega)]; rw [hx, Nat.add_sub_cancel_left]; exact hy)
      rw [hu] at h1; cases h1; exact h2
    have ih := rowAt_flat (fun y hy => hs y (List.mem_cons_of_mem _ hy)) h2 r
    have hl : sz ≤ l.length := by rw [← h.length, List.length_append]; omega
    intro i y hy
    cases i with
    | zero =>
      simp only [List.getElem?_cons_zero] at hy
      cases hy
      refine ⟨hx, fun j z hz => ?_⟩
      have hj : j < sz := by
        rcases Nat.lt_or_ge j sz with h | h
        · exact h
        · rw [List.getElem?_eq_none (by omega)] at hz; cases hz
      obtain ⟨u, h1, h2⟩ := h.get (i := j) (x := z) (by rw [List.getElem?_append_left (by omega)]; exact hz)
      exact ⟨u, by rw [List.getElem?_toArray, List.getElem?_append_left (by omega)]; simpa using h1, h2⟩
    | succ i =>
      simp only [List.getElem?_cons_succ] at hy
      obtain ⟨h1, h2⟩ := ih i y hy
      refine ⟨h1, fun j z hz => ?_⟩
      obtain ⟨u, h3, h4⟩ := h2 j z hz
      refine ⟨u, ?_, h4⟩
      rw [List.getElem?_toArray] at h3 ⊢
      rw [← List.drop_append_of_le_length hl, List.getElem?_drop] at h3
      rwa [show (i + 1) * sz + j = sz + (i * sz + j) by rw [Nat.add_mul]; omega]

theorem repL_flat {G : Gh} : ∀ {xs : List AV} {vs : List Value}, RepL G xs vs → (∀ x ∈ xs, x ≠ .undef) → RepL G (xs.flatMap AV.cells) (vs.flatMap fun v => v.cells.toList)
  | [], _, h, _ => by cases h; exact .nil
  | x :: xs, _, h, hn => by
    cases h with
    | cons h t =>
      rw [List.flatMap_cons, List.flatMap_cons]
      exact (h.cells (hn x List.mem_cons_self)).append (repL_flat t fun y hy => hn y (List.mem_cons_of_mem _ hy))

/-! values -/
theorem run_extract {P : Program} {G : Gh} {vs : List AV} {v : AV} {r : Value} {i : Nat} (hx : Rep G (.tup vs) r) (h : vs[i]? = some v) :
    ∃ u, (Instr.extract r i).run P G.w = .ok u G.w ∧ Rep G v u := by
  cases hx with
  | tup hl =>
    obtain ⟨u, h1, h2⟩ := hl.get h
    exact ⟨u, by simp only [Instr.extract, ← Array.getElem?_toList, h1]; rfl, h2⟩

theorem run_part {P : Program} {G : Gh} {t : TypeId} {ti : TI} (ht : tiOf P t = some ti) {cs : List AV} {a : Array Value} {off : Nat} {v : AV} (hl : RepL G cs a.toList) (h : part ti (.agg cs) off = some v) :
    ∃ u, (Go.part t a off).run P G.w = .ok u G.w ∧ Rep G v u := by
  obtain ⟨i, d, z, F⟩ := tiOf_facts ht
  have sub : ∀ n off, off + n ≤ cs.length → RepL G ((cs.drop off).take n) (a.extract off (off + n)).toList := fun n off hn => by
    refine RepL.of_get (by simp [← Array.length_toList, ← hl.length]) fun j y u hy hu => ?_
    have hj : j < n := by
      rcases Nat.lt_or_ge j n with h | h
      · exact h
      · rw [List.getElem?_eq_none (by simp; omega)] at hy; cases hy
    rw [List.getElem?_take_of_lt hj, List.getElem?_drop] at hy
    obtain ⟨u', h1, h2⟩ := hl.get hy
    have : (a.extract off (off + n)).toList[j]? = a.toList[off + j]? := by
      rw [Array.getElem?_toList, Array.getElem?_toList, Array.getElem?_extract, if_pos (by have := hl.length; simp at this; omega)]
    rw [this, h1] at hu
    cases hu
    exact h2
  simp only [part] at h
  simp only [Go.part, Sem.run_bind, F.run_agg, Result.andThen_ok]
  split at h
  · rename_i hw
    cases h
    obtain ⟨rfl, _, ha, hlen⟩ := hw
    have := sub ti.size 0 (by simpa using Nat.le_of_eq hlen.symm)
    rw [List.drop_zero, List.take_of_length_le (by simpa using Nat.le_of_eq hlen)] at this
    exact ⟨.agg (a.extract 0 (0 + ti.size)), by simp only [ha, if_true, Sem.run_bind, F.run_size, Result.andThen_ok, Sem.run_pure], .agg this⟩
  · split at h
    · rename_i ha
      split at h
      · rename_i hle
        cases h
        exact ⟨.agg (a.extract off (off + ti.size)), by simp only [ha, if_true, Sem.run_bind, F.run_size, Result.andThen_ok, Sem.run_pure], .agg (sub ti.size off hle)⟩
      · cases h
    · rename_i ha
      obtain ⟨u, h1, h2⟩ := hl.get h
      rw [Array.getElem?_toList] at h1
      exact ⟨u, by simp only [ha, Bool.false_eq_true, if_false, h1, Sem.run_pure], h2⟩
end Go.Proofs.YtgpkochbmfhmdaaGreatDoor.Lift
namespace Go.Proofs.YtgpkochbmfhmdaaGreatDoor.Lift
open Go

theorem eqv1_int {k : IntKind} {x y : AV} {b : Bool} (h : eqv1 (.int k) x y = some b) : ∃ n m, x = .int k n ∧ y = .int k m ∧ b = decide (n = m) := by
  cases x with
  | int j n => cases y with
    | int j' m =>
      rw [eqv1] at h
      by_cases hk : j = k ∧ j' = k
      · rw [if_pos hk] at h
        obtain ⟨rfl, rfl⟩ := hk
        exact ⟨n, m, rfl, rfl, (Option.some.inj h).symm⟩
      · rw [if_neg hk] at h; cases h
    | _ => cases h
  | _ => cases h
theorem eqv1_bool {x y : AV} {b : Bool} (h : eqv1 .bool x y = some b) : ∃ n m, x = .bool n ∧ y = .bool m ∧ b = decide (n = m) := by
  cases x with
  | bool n => cases y with
    | bool m => exact ⟨n, m, rfl, rfl, (Option.some.inj h).symm⟩
    | _ => cases h
  | _ => cases h
theorem eqv1_str {x y : AV} {b : Bool} (h : eqv1 .str x y = some b) : ∃ n m, x = .str n ∧ y = .str m ∧ b = decide (n = m) := by
  cases x with
  | str n => cases y with
    | str m => exact ⟨n, m, rfl, rfl, (Option.some.inj h).symm⟩
    | _ => cases h
  | _ => cases h
theorem ok_decide {α : Type} [BEq α] [LawfulBEq α] [DecidableEq α] (a b : α) (w : World) : (Result.ok (a == b) w : Result Bool) = .ok (decide (a = b)) w := by
  by_cases h : a = b
  · subst h; simp
  · simp [h]
theorem eqvs_cons {k : TD} {ks : List TD} {x y : AV} {a a' : List AV} {b : Bool} (h : eqvs (k :: ks) (x :: a) (y :: a') = some b) : ∃ b1 b2, eqv1 k x y = some b1 ∧ eqvs ks a a' = some b2 ∧ b = (b1 && b2) := by
  rw [eqvs] at h
  split at h
  · cases h
    exact ⟨_, _, ‹_›, ‹_›, rfl⟩
  · cases h
theorem eqvs_len : ∀ {ks : List TD} {a a' : List AV} {b : Bool}, eqvs ks a a' = some b → a.length = ks.length ∧ a'.length = ks.length
  | [], [], [], _, _ => ⟨rfl, rfl⟩
  | k :: ks, x :: a, y :: a', b, h => by
    obtain ⟨_, _, _, h2, _⟩ := eqvs_cons h
    have := eqvs_len h2
    exact ⟨congrArg (· + 1) this.1, congrArg (· + 1) this.2⟩
  | [], _ :: _, _, _, h => by simp [eqvs] at h
  | [], [], _ :: _, _, h => by simp [eqvs] at h
  | _ :: _, [], _, _, h => by simp [eqvs] at h
  | _ :: _, _ :: _, [], _, h => by simp [eqvs] at h
theorem eqvs_split : ∀ {ks ks' : List TD} {a a' r r' : List AV} {b : Bool}, a.length = ks.length → a'.length = ks.length → eqvs (ks ++ ks') (a ++ r) (a' ++ r') = some b →
    ∃ b1 b2, eqvs ks a a' = some b1 ∧ eqvs ks' r r' = some b2 ∧ b = (b1 && b2)
  | [], ks', [], [], r, r', b, _, _, h => ⟨true, b, rfl, h, by simp⟩
  | k :: ks, ks', x :: a, y :: a', r, r', b, hl, hl', h => by
    obtain ⟨b1, b2, h1, h2, rfl⟩ := eqvs_cons h
    obtain ⟨c1, c2, g1, g2, rfl⟩ := eqvs_split (by simpa using hl) (by simpa using hl') h2
    exact ⟨b1 && c1, c2, by rw [eqvs, h1, g1], g2, by rw [Bool.and_assoc]⟩
  | [], _, _ :: _, _, _, _, _, hl, _, _ => by simp at hl
  | [], _, [], _ :: _, _, _, _, _, hl, _ => by simp at hl
  | _ :: _, _, [], _, _, _, _, hl, _, _ => by simp at hl
  | _ :: _, _, _ :: _, [], _, _, _, _, hl, _ => by simp at hl

/-- a value of a type, out of its cells -/
def valOf (P : Program) (t : TypeId) (xs : List Value) : Value := match P.underlying t with
  | some (.struct _) => .agg xs.toArray
  | some (.array _ _) => .agg xs.toArray
  | _ => xs.getD 0 undef

theorem run_part_val {P : Program} (w : World) {t : TypeId} {d : TypeDesc} (hd : P.underlying t = some d) (hi : (P.info? t).isSome = true) (xs : List Value) (off : Nat) (h : off + P.cellsOf t ≤ xs.length) (h1 : isAggD d = false → P.cellsOf t = 1) :
    (Go.part t xs.toArray off).run P w = .ok (valOf P t ((xs.drop off).take (P.cellsOf t))) w := by
  obtain ⟨i, hi⟩ := Option.isSome_iff_exists.1 hi
  have hs : (sizeOf t).run P w = .ok (P.cellsOf t) w := by simp [sizeOf, typeInfo, hi, Program.cellsOf]
  have ha : (isAgg t).run P w = .ok (isAggD d) w := by
    simp only [isAgg, Sem.run_bind, run_underlying hd, Result.andThen_ok]
    cases d <;> rfl
  simp only [Go.part, Sem.run_bind, ha, Result.andThen_ok]
  cases hag : isAggD d with
  | true =>
    simp only [if_true, Sem.run_bind, hs, Result.andThen_ok, Sem.run_pure]
    congr 1
    have : xs.toArray.extract off (off + P.cellsOf t) = ((xs.drop off).take (P.cellsOf t)).toArray := by
      simp [List.take_drop, List.extract]
      try rw [Nat.add_sub_cancel_left]
    unfold valOf
    rw [hd, this]
    cases d <;> simp_all [isAggD]
  | false =>
    have h1' := h1 hag
    have hx : xs.toArray[off]? = some (xs[off]'(by omega)) := by simp
    simp only [Bool.false_eq_true, if_false, hx, Sem.run_pure]
    congr 1
    unfold valOf
    rw [hd, h1']
    have hg : (((xs.drop off).take 1).getD 0 undef) = xs[off]'(by omega) := by
      rw [List.getD_eq_getElem?_getD, List.getElem?_take_of_lt (by omega), List.getElem?_drop, Nat.add_zero, List.getElem?_eq_getElem (by omega)]
      rfl
    cases d <;> simp_all [isAggD]

theorem eqKs_info {P : Program} {d : Nat} {t : TypeId} {ks : List TD} (h : eqKs P d t = some ks) : ∃ dd, P.underlying t = some dd ∧ (P.info? t).isSome = true ∧ (isAggD dd = false → P.cellsOf t = 1) := by
  cases d with
  | zero => simp [eqKs] at h
  | succ d =>
    simp only [eqKs] at h
    split at h
    · rename_i hi
      split at h <;> rename_i hu
      · split at h
        · rename_i h1; exact ⟨_, hu, hi, fun _ => h1⟩
        · cases h
      · split at h
        · rename_i h1; exact ⟨_, hu, hi, fun _ => h1⟩
        · cases h
      · split at h
        · rename_i h1; exact ⟨_, hu, hi, fun _ => h1⟩
        · cases h
      · exact ⟨_, hu, hi, fun h => by simp [isAggD] at h⟩
      · exact ⟨_, hu, hi, fun h => by simp [isAggD] at h⟩
      · cases h
    · cases h
theorem run_eqItems_ok {P : Program} {G : Gh} (w : World) {D e : Nat} {ke : List TD} (hlen : ke.length = P.cellsOf e) {dd : TypeDesc} (hud : P.underlying e = some dd) (hi : (P.info? e).isSome = true) (h1 : isAggD dd = false → P.cellsOf e = 1)
    (hE : ∀ (cs cs' : List AV) (xs ys : List Value) (b : Bool), RepL G cs xs → RepL G cs' ys → xs.length = P.cellsOf e → ys.length = P.cellsOf e → eqvs ke cs cs' = some b → (Op.equalIn D e (valOf P e xs) (valOf P e ys)).run P w = .ok b w) :
    ∀ (k i : Nat) (cs cs' : List AV) (xs ys : List Value) (b : Bool), RepL G cs xs → RepL G cs' ys → (i + k) * P.cellsOf e ≤ xs.length → (i + k) * P.cellsOf e ≤ ys.length → eqvs (List.replicate k ke).flatten (cs.drop (i * P.cellsOf e)) (cs'.drop (i * P.cellsOf e)) = some b → (Op.eqItems D e (P.cellsOf e) xs.toArray ys.toArray (List.range' i k)).run P w = .ok b w
  | 0, i, cs, cs', xs, ys, b, hx, hy, hlx, hly, he => by
    simp only [List.replicate_zero, List.flatten_nil] at he
    generalize cs.drop (i * P.cellsOf e) = a at he
    generalize cs'.drop (i * P.cellsOf e) = a' at he
    cases a <;> cases a' <;> simp [eqvs] at he
    subst he
    simp [Op.eqItems]
  | k + 1, i, cs, cs', xs, ys, b, hx, hy, hlx, hly, he => by
    have e1 : i * P.cellsOf e + P.cellsOf e ≤ (i + (k + 1)) * P.cellsOf e := by
      rw [← Nat.succ_mul]
      exact Nat.mul_le_mul_right _ (by omega)
    have lx := hx.length
    have ly := hy.length
    have hsx : cs.drop (i * P.cellsOf e) = (cs.drop (i * P.cellsOf e)).take (P.cellsOf e) ++ cs.drop ((i + 1) * P.cellsOf e) := by
      rw [Nat.succ_mul, ← List.drop_drop, List.take_append_drop]
    have hsy : cs'.drop (i * P.cellsOf e) = (cs'.drop (i * P.cellsOf e)).take (P.cellsOf e) ++ cs'.drop ((i + 1) * P.cellsOf e) := by
      rw [Nat.succ_mul, ← List.drop_drop, List.take_append_drop]
    rw [hsx, hsy, List.replicate_succ, List.flatten_cons] at he
    obtain ⟨b1, b2, q1, q2, rfl⟩ := eqvs_split (by rw [List.length_take, List.length_drop]; omega) (by rw [List.length_take, List.length_drop]; omega) he
    have sub : ∀ {ds : List AV} {vs : List Value}, RepL G ds vs → RepL G ((ds.drop (i * P.cellsOf e)).take (P.cellsOf e)) ((vs.drop (i * P.cellsOf e)).take (P.cellsOf e)) := fun {ds vs} hv => by
      have := hv.length
      refine RepL.of_get (by simp; omega) fun j y u hy hu => ?_
      have hj : j < P.cellsOf e := by
        rcases Nat.lt_or_ge j (P.cellsOf e) with h | h
        · exact h
        · rw [List.getElem?_eq_none (by simp; omega)] at hy; cases hy
      rw [List.getElem?_take_of_lt hj, List.getElem?_drop] at hy hu
      obtain ⟨u', h1, h2⟩ := hv.get hy
      rw [hu] at h1; cases h1; exact h2
    have r1 := run_part_val w hud hi xs (i * P.cellsOf e) (by omega) h1
    have r2 := run_part_val w hud hi ys (i * P.cellsOf e) (by omega) h1
    have r3 := hE _ _ _ _ _ (sub hx) (sub hy) (by rw [List.length_take, List.length_drop]; omega) (by rw [List.length_take, List.length_drop]; omega) q1
    have r4 := run_eqItems_ok w hlen hud hi h1 hE k (i + 1) cs cs' xs ys b2 hx hy (by rw [show i + 1 + k = i + (k + 1) by omega]; exact hlx) (by rw [show i + 1 + k = i + (k + 1) by omega]; exact hly) q2
    rw [List.range'_succ]
    simp only [Op.eqItems, Sem.run_bind, r1, Result.andThen_ok, r2, r3]
    cases b1
    · simp
    · simpa using r4

mutual
theorem run_equalIn_ok {P : Program} {G : Gh} (w : World) : ∀ (d : Nat) (D : Nat) (t : TypeId), d ≤ D → ∀ {ks : List TD}, eqKs P d t = some ks → ∀ (cs cs' : List AV) (xs ys : List Value) (b : Bool), RepL G cs xs → RepL G cs' ys →
    xs.length = P.cellsOf t → ys.length = P.cellsOf t → eqvs ks cs cs' = some b → (Op.equalIn D t (valOf P t xs) (valOf P t ys)).run P w = .ok b w
  | 0, _, _, _, _, h => by simp [eqKs] at h
  | d + 1, 0, _, hd, _, _ => by omega
  | d + 1, D + 1, t, hd, ks, h => fun cs cs' xs ys b hx hy hlx hly he => by
    simp only [eqKs] at h
    split at h
    · have one : P.cellsOf t = 1 → ∃ x y c c', xs = [x] ∧ ys = [y] ∧ cs = [c] ∧ cs' = [c'] ∧ Rep G c x ∧ Rep G c' y := fun h1 => by
        rw [h1] at hlx hly
        cases hx with
        | nil => simp at hlx
        | cons hx tx => cases hy with
          | nil => simp at hly
          | cons hy ty =>
            cases tx with
            | cons _ _ => simp at hlx
            | nil => cases ty with
              | cons _ _ => simp at hly
              | nil => exact ⟨_, _, _, _, rfl, rfl, rfl, rfl, hx, hy⟩
      split at h
      · rename_i k hu
        split at h
        · rename_i h1
          cases h
          obtain ⟨x, y, c, c', rfl, rfl, rfl, rfl, hx, hy⟩ := one h1
          simp only [valOf, hu, List.getD_cons_zero]
          obtain ⟨b1, b2, e1, e2, rfl⟩ := eqvs_cons he
          cases e2
          obtain ⟨n, m, rfl, rfl, rfl⟩ := eqv1_int e1
          cases hx
          cases hy
          rw [run_equalIn_int w D t _ _ _ _ hu, Bool.and_true]
          exact ok_decide _ _ w
        · cases h
      · rename_i hu
        split at h
        · rename_i h1
          cases h
          obtain ⟨x, y, c, c', rfl, rfl, rfl, rfl, hx, hy⟩ := one h1
          simp only [valOf, hu, List.getD_cons_zero]
          obtain ⟨b1, b2, e1, e2, rfl⟩ := eqvs_cons he
          cases e2
          obtain ⟨n, m, rfl, rfl, rfl⟩ := eqv1_bool e1
          cases hx
          cases hy
          rw [run_equalIn_bool' w D t _ _ hu, Bool.and_true]
          exact ok_decide _ _ w
        · cases h
      · rename_i hu
        split at h
        · rename_i h1
          cases h
          obtain ⟨x, y, c, c', rfl, rfl, rfl, rfl, hx, hy⟩ := one h1
          simp only [valOf, hu, List.getD_cons_zero]
          obtain ⟨b1, b2, e1, e2, rfl⟩ := eqvs_cons he
          cases e2
          obtain ⟨n, m, rfl, rfl, rfl⟩ := eqv1_str e1
          cases hx
          cases hy
          rw [run_equalIn_string w D t _ _ hu, Bool.and_true]
          rw [ByteArray.toList_eq, ByteArray.toList_eq]; exact ok_decide _ _ w
        · cases h
      · rename_i fs hu
        split at h
        · rename_i hst
          have hfs : P.fieldsOf t = fs := by simp [Program.fieldsOf, hu]
          simp only [valOf, hu]
          rw [run_equalIn_agg w D t _ _ (by rw [hfs]; exact hu) hst, hfs]
          have := run_eqFields_ok (P := P) (G := G) w d D (by omega) fs.toList 0 (P.cellsOf t) h cs cs' xs ys b hx hy hlx hly (by simpa using he)
          exact this
        · cases h
      · rename_i n e hu
        split at h
        · rename_i ke hke
          split at h
          · rename_i hn
            cases h
            obtain ⟨dd, hud, hi, h1⟩ := eqKs_info hke
            obtain ⟨ii, hii⟩ := Option.isSome_iff_exists.1 hi
            simp only [valOf, hu]
            rw [run_equalIn_array w D _ _ hu hii, List.range_eq_range']
            exact run_eqItems_ok w (eqKs_len d e hke) hud hi h1 (fun cs cs' xs ys b hx hy hlx hly he => run_equalIn_ok w d D e (by omega) hke cs cs' xs ys b hx hy hlx hly he) n 0 cs cs' xs ys b hx hy (by rw [Nat.zero_add]; omega) (by rw [Nat.zero_add]; omega) (by simpa using he)
          · cases h
        · cases h
      · cases h
    · cases h
theorem run_eqFields_ok {P : Program} {G : Gh} (w : World) : ∀ (d : Nat) (D : Nat), d ≤ D → ∀ (fs : List Field) (off n : Nat) {ks : List TD}, eqFs P d fs off n = some ks → ∀ (cs cs' : List AV) (xs ys : List Value) (b : Bool), RepL G cs xs → RepL G cs' ys →
    xs.length = n → ys.length = n → eqvs ks (cs.drop off) (cs'.drop off) = some b → (Op.eqFields D xs.toArray ys.toArray fs).run P w = .ok b w
  | d, D, _, [], off, n, ks, h => fun cs cs' xs ys b hx hy hlx hly he => by
    unfold eqFs at h
    split at h
    · cases h
      subst_vars
      have h1 := hx.length
      have h2 := hy.length
      rw [List.drop_of_length_le (by omega), List.drop_of_length_le (by omega)] at he
      cases he
      simp [Op.eqFields]
    · cases h
  | 0, _, _, _ :: _, _, _, _, h => by simp [eqFs] at h
  | d + 1, D, hD, f :: fs, off, n, ks, h => fun cs cs' xs ys b hx hy hlx hly he => by
    simp only [eqFs] at h
    split at h
    · rename_i hf
      obtain ⟨hname, hoff⟩ := hf
      split at h
      · rename_i a bks ha hb
        cases h
        have hcl := eqKs_info ha
        obtain ⟨dd, hu, hi, h1⟩ := hcl
        have hal := eqKs_len d f.type ha
        have hbl := eqFs_len d fs _ n hb
        have lx := hx.length
        have ly := hy.length
        have hle := eqvs_len he
        simp only [List.length_append, List.length_drop] at hle
        have hsx : cs.drop off = (cs.drop off).take (P.cellsOf f.type) ++ cs.drop (off + P.cellsOf f.type) := by
          rw [← List.drop_drop, List.take_append_drop]
        have hsy : cs'.drop off = (cs'.drop off).take (P.cellsOf f.type) ++ cs'.drop (off + P.cellsOf f.type) := by
          rw [← List.drop_drop, List.take_append_drop]
        rw [hsx, hsy] at he
        obtain ⟨b1, b2, e1, e2, rfl⟩ := eqvs_split (by rw [List.length_take, List.length_drop]; omega) (by rw [List.length_take, List.length_drop]; omega) he
        have sub : ∀ {ds : List AV} {vs : List Value}, RepL G ds vs → ds.length = n → RepL G ((ds.drop off).take (P.cellsOf f.type)) ((vs.drop off).take (P.cellsOf f.type)) := fun {ds vs} hv hn => by
          have := hv.length
          refine RepL.of_get (by simp; omega) fun j y u hy hu => ?_
          have hj : j < P.cellsOf f.type := by
            rcases Nat.lt_or_ge j (P.cellsOf f.type) with h | h
            · exact h
            · rw [List.getElem?_eq_none (by simp; omega)] at hy; cases hy
          rw [List.getElem?_take_of_lt hj, List.getElem?_drop] at hy hu
          obtain ⟨u', h1, h2⟩ := hv.get hy
          rw [hu] at h1; cases h1; exact h2
        have r1 := run_part_val w hu hi xs off (by omega) h1
        have r2 := run_part_val w hu hi ys off (by omega) h1
        have r3 := run_equalIn_ok (P := P) (G := G) w d D f.type (by omega) ha _ _ _ _ _ (sub hx (by omega)) (sub hy (by omega)) (by rw [List.length_take, List.length_drop]; omega) (by rw [List.length_take, List.length_drop]; omega) e1
        have r4 := run_eqFields_ok (P := P) (G := G) w d D (by omega) fs (off + P.cellsOf f.type) n hb _ _ _ _ _ hx hy hlx hly e2
        simp only [Op.eqFields, hname, ne_eq, not_false_eq_true, if_true, Sem.run_bind, hoff, r1, Result.andThen_ok, r2, r3]
        cases b1
        · simp
        · simpa using r4
      · cases h
    · cases h
theorem eqKs_len {P : Program} : ∀ (d : Nat) (t : TypeId) {ks : List TD}, eqKs P d t = some ks → ks.length = P.cellsOf t
  | 0, _, _, h => by simp [eqKs] at h
  | d + 1, t, ks, h => by
    simp only [eqKs] at h
    split at h
    · split at h
      · split at h
        · rename_i h1; cases h; simp [h1]
        · cases h
      · split at h
        · rename_i h1; cases h; simp [h1]
        · cases h
      · split at h
        · rename_i h1; cases h; simp [h1]
        · cases h
      · split at h
        · have := eqFs_len d _ _ _ h
          omega
        · cases h
      · split at h
        · rename_i n e _ _ ke hke
          split at h
          · rename_i hn
            cases h
            have := eqKs_len d e hke
            simp [this, hn.1]
          · cases h
        · cases h
      · cases h
    · cases h
theorem eqFs_len {P : Program} : ∀ (d : Nat) (fs : List Field) (off n : Nat) {ks : List TD}, eqFs P d fs off n = some ks → off + ks.length = n
  | d, [], off, n, ks, h => by
    unfold eqFs at h
    split at h
    · cases h; simpa
    · cases h
  | 0, _ :: _, _, _, _, h => by simp [eqFs] at h
  | d + 1, f :: fs, off, n, ks, h => by
    simp only [eqFs] at h
    split at h
    · split at h
      · rename_i a b ha hb
        cases h
        have := eqKs_len d f.type ha
        have := eqFs_len d fs _ n hb
        simp; omega
      · cases h
    · cases h
end
end Go.Proofs.YtgpkochbmfhmdaaGreatDoor.Lift
namespace Go.Proofs.YtgpkochbmfhmdaaGreatDoor.Lift
open Go

theorem ba_len (s : ByteArray) : s.data.toList.length = s.size := by cases s; rfl
theorem ba_append (a b : ByteArray) : (a ++ b).data.toList = a.data.toList ++ b.data.toList := by simp
theorem ba_get (s : ByteArray) (i : Nat) : s[i]? = s.data.toList[i]? := by
  by_cases h : i < s.size
  · have h' : i < s.data.toList.length := by rw [ba_len]; exact h
    rw [List.getElem?_eq_getElem h', getElem?_pos s i h]
    rfl
  · rw [List.getElem?_eq_none (by rw [ba_len]; omega), getElem?_neg s i h]
theorem ba_extract (s : ByteArray) (a b : Nat) : (s.extract a b).data.toList = (s.data.toList.take b).drop a := by
  rw [Lib.extract_data, List.drop_take]

section
variable {P : Program} {G : Gh}

theorem valOf_scal {t : TypeId} {d : TypeDesc} (hu : P.underlying t = some d) (h : isAggD d = false) (v : Value) : valOf P t [v] = v := by
  unfold valOf; rw [hu]; cases d <;> simp_all [isAggD]
theorem valOf_agg {t : TypeId} {d : TypeDesc} (hu : P.underlying t = some d) (h : isAggD d = true) (a : Array Value) : valOf P t a.toList = .agg a := by
  unfold valOf; rw [hu]; cases d <;> simp_all [isAggD]

theorem equalIn_ptr_nil (w : World) {t e : TypeId} (hu : P.underlying t = some (.pointer e)) (d : Nat) (b : Option Addr) : (Op.equalIn (d + 1) t (.pointer none) (.pointer b)).run P w = .ok b.isNone w := by
  simp [Op.equalIn, run_underlying hu]
theorem equalIn_slice_nil (w : World) {t e : TypeId} (hu : P.underlying t = some (.slice e)) (d : Nat) (a : Option Addr) (l c : Nat) : (Op.equalIn (d + 1) t (.slice a l c) (.slice none 0 0)).run P w = .ok a.isNone w := by
  cases a <;> simp [Op.equalIn, run_underlying hu]
theorem equalIn_nil_ptr (w : World) {t e : TypeId} (hu : P.underlying t = some (.pointer e)) (d : Nat) (a : Addr) : (Op.equalIn (d + 1) t (.pointer (some a)) (.pointer none)).run P w = .ok false w := by
  simp [Op.equalIn, run_underlying hu]
theorem equalIn_fn_nn (w : World) {t : TypeId} {a b : Array TypeId} {c : Bool} (hu : P.underlying t = some (.func a b c)) (d : Nat) : (Op.equalIn (d + 1) t .nilFunc .nilFunc).run P w = .ok true w := by
  simp [Op.equalIn, run_underlying hu]
theorem equalIn_fn_nf (w : World) {t : TypeId} {a b : Array TypeId} {c : Bool} (hu : P.underlying t = some (.func a b c)) (d : Nat) (f : Fn) (x y : Array Value) : (Op.equalIn (d + 1) t .nilFunc (.func f x y)).run P w = .ok false w := by
  simp [Op.equalIn, run_underlying hu]
theorem equalIn_fn_fn (w : World) {t : TypeId} {a b : Array TypeId} {c : Bool} (hu : P.underlying t = some (.func a b c)) (d : Nat) (f : Fn) (x y : Array Value) : (Op.equalIn (d + 1) t (.func f x y) .nilFunc).run P w = .ok false w := by
  simp [Op.equalIn, run_underlying hu]

theorem beq_decide {α : Type} [BEq α] [LawfulBEq α] [DecidableEq α] (a b : α) : (a == b) = decide (a = b) := by
  by_cases h : a = b
  · subst h; simp
  · simp [h]
theorem bne_decide {α : Type} [BEq α] [LawfulBEq α] [DecidableEq α] (a b : α) : (a != b) = !decide (a = b) := by
  rw [bne, beq_decide]
theorem run_eql_of {w : World} {t : TypeId} {x y : Value} {b : Bool} (h : (Op.equalIn 10000 t x y).run P w = .ok b w) (h1 : binOp .eql t x y = (do pure (.bool (← Op.equal t x y)))) (h2 : binOp .neq t x y = (do pure (.bool (!(← Op.equal t x y))))) :
    (binOp .eql t x y).run P w = .ok (.bool b) w ∧ (binOp .neq t x y).run P w = .ok (.bool !b) w := by
  rw [h1, h2]
  simp only [Op.equal, Op.maxDepth, Sem.run_bind, h, Result.andThen_ok, Sem.run_pure, and_self]

theorem run_eqv {t : TypeId} {ti : TI} (ht : tiOf P t = some ti) {x y : AV} {vx vy : Value} (hx : Rep G x vx) (hy : Rep G y vy) {b : Bool} (h : eqv ti x y = some b) (ox oy : Operand) (op : BinOp) :
    (eqGuard op t ox oy vx vy).run P G.w = .ok () G.w ∧ (binOp .eql t vx vy).run P G.w = .ok (.bool b) G.w ∧ (binOp .neq t vx vy).run P G.w = .ok (.bool !b) G.w := by
  obtain ⟨i, d, z, F⟩ := tiOf_facts ht
  unfold eqv at h
  split at h
  · rename_i ks hks
    rw [F.eq] at hks
    split at hks
    · rename_i hg
      split at h
      · rename_i hag
        obtain ⟨hxa, hya⟩ := hag
        have hlen := eqvs_len h
        have hkl := eqKs_len 40 t hks
        rw [F.agg] at hxa hya
        have key : ∀ {a : AV} {v : Value}, Rep G a v → a.isAgg = isAggD d → a.cells.length = P.cellsOf t → ∃ l : List Value, RepL G a.cells l ∧ l.length = P.cellsOf t ∧ v = valOf P t l := fun {a v} hr ha hl => by
          cases hd : isAggD d with
          | true =>
            rw [hd] at ha
            cases hr <;> simp at ha
            rename_i cs arr hc
            exact ⟨arr.toList, hc, by rw [← hc.length]; simpa using hl, (valOf_agg F.und hd arr).symm⟩
          | false =>
            rw [hd] at ha
            refine ⟨[v], ?_, by rw [← hl]; cases a <;> simp_all, (valOf_scal F.und hd v).symm⟩
            cases a <;> first
              | (simp at ha; done)
              | exact .cons hr .nil
        obtain ⟨lx, r1, n1, rfl⟩ := key hx hxa (by omega)
        obtain ⟨ly, r2, n2, rfl⟩ := key hy hya (by omega)
        have hq := run_equalIn_ok (P := P) (G := G) G.w 40 10000 t (by omega) hks _ _ _ _ _ r1 r2 n1 n2 h
        cases hd : isAggD d with
        | true =>
          rw [show lx = lx.toArray.toList by simp, show ly = ly.toArray.toList by simp, valOf_agg F.und hd, valOf_agg F.und hd] at hq ⊢
          rw [run_eqGuard_agg G.w op t ox oy _ _ hg, run_eql_struct, run_neq_struct, hq]
          exact ⟨rfl, rfl, rfl⟩
        | false =>
          rw [hd] at hxa hya
          have one : ∀ {a : AV}, a.isAgg = false → a.cells = [a] := fun {a} ha => by cases a <;> first | rfl | (simp at ha; done)
          rw [one hxa, one hya] at h
          cases ks with
          | nil => simp [eqvs] at h
          | cons k ks =>
            obtain ⟨b1, b2, e1, e2, rfl⟩ := eqvs_cons h
            have e3 : ks = [] := by
              have := eqvs_len e2
              cases ks with
              | nil => rfl
              | cons _ _ => simp at this
            subst e3
            cases e2
            simp only [Bool.and_true] at *
            cases k with
            | int k =>
              obtain ⟨n, m, rfl, rfl, rfl⟩ := eqv1_int e1
              generalize valOf P t lx = vx at *
              generalize valOf P t ly = vy at *
              cases hx
              cases hy
              rw [eqGuard_at_int]; exact ⟨rfl, by simp only [binOp, ne_eq, not_true_eq_false, if_false, Op.intCmp, Sem.run_pure, beq_decide], by simp only [binOp, ne_eq, not_true_eq_false, if_false, Op.intCmp, Sem.run_pure, bne_decide]⟩
            | bool =>
              obtain ⟨n, m, rfl, rfl, rfl⟩ := eqv1_bool e1
              generalize valOf P t lx = vx at *
              generalize valOf P t ly = vy at *
              cases hx
              cases hy
              rw [eqGuard_at_bool]; exact ⟨rfl, by simp only [binOp, Op.equal, Op.maxDepth, Sem.run_bind, hq, Result.andThen_ok, Sem.run_pure], by simp only [binOp, Op.equal, Op.maxDepth, Sem.run_bind, hq, Result.andThen_ok, Sem.run_pure]⟩
            | str =>
              obtain ⟨n, m, rfl, rfl, rfl⟩ := eqv1_str e1
              generalize valOf P t lx = vx at *
              generalize valOf P t ly = vy at *
              cases hx
              cases hy
              rw [eqGuard_at_string, binOp_string_eql, binOp_string_neq, ByteArray.toList_eq, ByteArray.toList_eq, beq_decide]; exact ⟨rfl, rfl, rfl⟩
            | _ => cases e1
      · cases h
    · cases hks
  · have hp : ∀ e, ti.d = .ptr e → P.underlying t = some (.pointer e) := fun e he => by
      rw [F.d] at he
      have := F.und
      cases d <;> simp [tdOf] at he
      subst he; exact this
    have hfn : ti.d = .func → ∃ a b c, P.underlying t = some (.func a b c) := fun he => by
      rw [F.d] at he
      have := F.und
      cases d <;> simp [tdOf] at he
      exact ⟨_, _, _, this⟩
    have hsl : ∀ e, ti.d = .slice e → P.underlying t = some (.slice e) := fun e he => by
      rw [F.d] at he
      have := F.und
      cases d <;> simp [tdOf] at he
      subst he; exact this
    split at h
    all_goals first
      | (rename_i hd; cases h; cases hy; cases hx <;> exact ⟨by rw [eqGuard_at_slice]; rfl, run_eql_of (equalIn_slice_nil G.w (hsl _ hd) 9999 _ _ _) rfl rfl⟩)
      | (rename_i hd; cases h; cases hx; cases hy; exact ⟨by rw [eqGuard_at_pointer]; rfl, run_eql_of (by first | exact equalIn_ptr_nil G.w (hp _ hd) 9999 _ | exact equalIn_nil_ptr G.w (hp _ hd) 9999 _) rfl rfl⟩)
      | (rename_i hd; cases h; cases hx; cases hy; obtain ⟨a, b, c, hu⟩ := hfn hd; exact ⟨by first | (rw [eqGuard_at_nilFunc]; rfl) | (rw [eqGuard_at_func]; rfl), run_eql_of (by first | exact equalIn_fn_nn G.w hu 9999 | exact equalIn_fn_nf G.w hu 9999 _ _ _ | exact equalIn_fn_fn G.w hu 9999 _ _ _) rfl rfl⟩)
      | (cases h; done)
end
end Go.Proofs.YtgpkochbmfhmdaaGreatDoor.Lift
namespace Go.Proofs.YtgpkochbmfhmdaaGreatDoor.Lift
open Go

section
variable {P : Program} {G : Gh}

theorem evBin_int_inv {op : BinOp} {ti : TI} {x y v : AV} (h : evBin op ti x y = some v) (h1 : op ≠ .eql) (h2 : op ≠ .neq) :
    (∃ k a k' b, x = .int k a ∧ y = .int k' b) ∨ (∃ a b, x = .str a ∧ y = .str b ∧ (op = .add ∨ op = .lss)) := by
  cases op <;> first
    | exact absurd rfl h1
    | exact absurd rfl h2
    | (cases x with
       | int k a => cases y with
         | int k' b => exact .inl ⟨_, _, _, _, rfl, rfl⟩
         | _ => cases h
       | str a => cases y with
         | str b => first | exact .inr ⟨_, _, rfl, rfl, .inl rfl⟩ | exact .inr ⟨_, _, rfl, rfl, .inr rfl⟩ | cases h
         | _ => cases h
       | _ => cases h)

theorem run_evBin (op : BinOp) {t : TypeId} {ti : TI} (ht : tiOf P t = some ti) {x y v : AV} {vx vy : Value} (hx : Rep G x vx) (hy : Rep G y vy) (h : evBin op ti x y = some v) (ox oy : Operand) :
    ∃ u, (do eqGuard op t ox oy vx vy; binOp op t vx vy : Sem Value).run P G.w = .ok u G.w ∧ Rep G v u := by
  by_cases e1 : op = .eql
  · subst e1
    simp only [evBin] at h
    cases he : eqv ti x y with
    | none => rw [he] at h; cases h
    | some b =>
      rw [he] at h; cases h
      obtain ⟨h1, h2, _⟩ := run_eqv (P := P) ht hx hy he ox oy .eql
      exact ⟨.bool b, by simp only [Sem.run_bind, h1, Result.andThen_ok, h2], .bool b⟩
  by_cases e2 : op = .neq
  · subst e2
    simp only [evBin] at h
    cases he : eqv ti x y with
    | none => rw [he] at h; cases h
    | some b =>
      rw [he] at h; cases h
      obtain ⟨h1, _, h2⟩ := run_eqv (P := P) ht hx hy he ox oy .neq
      exact ⟨.bool (!b), by simp only [Sem.run_bind, h1, Result.andThen_ok, h2], .bool (!b)⟩
  rcases evBin_int_inv h e1 e2 with ⟨k, a, k', b, rfl, rfl⟩ | ⟨a, b, rfl, rfl, hop⟩
  · cases hx
    cases hy
    simp only [eqGuard_at_int, Sem.run_bind, Sem.run_pure, Result.andThen_ok]
    cases op <;> simp only [evBin] at h <;> first
      | exact absurd rfl e1
      | exact absurd rfl e2
      | (split at h
         · rename_i hk
           cases h
           first
             | (subst hk
                refine ⟨_, ?_, .int _ _⟩
                simp [binOp, Op.intArith, Op.intBits]; done)
             | (subst hk
                refine ⟨_, ?_, .bool _⟩
                simp [binOp, Op.intCmp]; done)
             | (obtain ⟨rfl, hb⟩ := hk
                refine ⟨_, ?_, .int _ _⟩
                simp [binOp, Op.intDiv, hb]; done)
             | (refine ⟨_, ?_, .int _ _⟩
                simp [binOp, Op.shift, show ¬ b < 0 by omega]; done)
         · cases h)
  · generalize ha : a = a' at hx
    generalize hb : b = b' at hy
    cases hx
    cases hy
    subst ha hb
    simp only [eqGuard_at_string, Sem.run_bind, Sem.run_pure, Result.andThen_ok]
    rcases hop with rfl | rfl
    · rename_i sa sb
      simp only [evBin] at h
      split at h
      · rename_i hl
        cases h
        refine ⟨.string (sa ++ sb), ?_, by rw [← ba_append]; exact .str _⟩
        have : ¬ (((sa.size + sb.size : Nat) : Int) > IntKind.i64.max) := by
          rw [ba_len, ba_len] at hl
          rw [IntKind.max_i64]
          omega
        simp only [binOp, Op.stringOp, this, if_false, Sem.run_pure]
      · cases h
    · simp only [evBin] at h
      cases h
      refine ⟨_, ?_, .bool _⟩
      simp only [binOp, Op.stringOp, Sem.run_pure, ByteArray.toList_eq]

theorem run_evUn (op : UnOp) {x v : AV} {vx : Value} (hx : Rep G x vx) (h : evUn op x = some v) : ∃ u, (Op.unary op vx).run P G.w = .ok u G.w ∧ Rep G v u := by
  cases op <;> cases x <;> first
    | (cases h; done)
    | (cases hx
       cases h
       exact ⟨_, rfl, by constructor⟩)

def ptrAdd (x : AV) (n : Nat) : Option AV := match x with
  | .ptr b g i off => some (.ptr b g i (off + n))
  | .rp y off => some (.rp y (off + n))
  | _ => none

/-- a place within a slice, an array, a struct -/
theorem run_fieldAt {t : TypeId} {ti : TI} (ht : tiOf P t = some ti) {fs : List (Nat × Nat)} (hd : ti.d = .struct fs) {f o ft : Nat} (hf : fs[f]? = some (o, ft)) {fti : TI} (hft : tiOf P ft = some fti) (hs : fti.size ≠ 0)
    {x v : AV} {vx : Value} (hx : Rep G x vx) (h : ptrAdd x o = some v) :
    ∃ u, (Instr.fieldAt t vx f).run P G.w = .ok u G.w ∧ Rep G v u := by
  obtain ⟨i, d, z, F⟩ := tiOf_facts ht
  obtain ⟨i2, d2, z2, F2⟩ := tiOf_facts hft
  have hD : ∃ gs : Array Field, d = .struct gs ∧ ∃ fl, gs[f]? = some fl ∧ fl.offset = o ∧ fl.type = ft := by
    rw [F.d] at hd
    cases d <;> simp [tdOf] at hd
    rename_i gs
    refine ⟨gs, rfl, ?_⟩
    rw [← hd, List.getElem?_map, Array.getElem?_toList] at hf
    cases hg : gs[f]? with
    | none => rw [hg] at hf; cases hf
    | some fl => rw [hg] at hf; cases hf; exact ⟨fl, rfl, rfl, rfl⟩
  obtain ⟨gs, rfl, fl, hfl, rfl, rfl⟩ := hD
  have hu := F.run_und G.w
  cases hx <;> cases h
  · rename_i b g i off sz blk hid hr
    refine ⟨.pointer (some ⟨blk, i * sz + (off + fl.offset), none⟩), ?_, .ptr hid hr⟩
    simp only [Instr.fieldAt, Sem.run_bind, hu, Result.andThen_ok, hfl, Instr.sureAddr, Sem.run_pure, fieldPlace, F2.run_size, hs, if_false, Addr.add_lit, Nat.add_assoc]
  · rename_i y off blk oo hc
    refine ⟨.pointer (some ⟨blk, oo + (off + fl.offset), none⟩), ?_, .rp hc⟩
    simp only [Instr.fieldAt, Sem.run_bind, hu, Result.andThen_ok, hfl, Instr.sureAddr, Sem.run_pure, fieldPlace, F2.run_size, hs, if_false, Addr.add_lit, Nat.add_assoc]

theorem run_field {t : TypeId} {ti : TI} (ht : tiOf P t = some ti) {fs : List (Nat × Nat)} (hd : ti.d = .struct fs) {f o ft : Nat} (hf : fs[f]? = some (o, ft)) {fti : TI} (hft : tiOf P ft = some fti)
    {cs : List AV} {v : AV} {vx : Value} (hx : Rep G (.agg cs) vx) (h : part fti (.agg cs) o = some v) : ∃ u, (Instr.field t vx f).run P G.w = .ok u G.w ∧ Rep G v u := by
  obtain ⟨i, d, z, F⟩ := tiOf_facts ht
  have hD : ∃ gs : Array Field, d = .struct gs ∧ ∃ fl, gs[f]? = some fl ∧ fl.offset = o ∧ fl.type = ft := by
    rw [F.d] at hd
    cases d <;> simp [tdOf] at hd
    rename_i gs
    refine ⟨gs, rfl, ?_⟩
    rw [← hd, List.getElem?_map, Array.getElem?_toList] at hf
    cases hg : gs[f]? with
    | none => rw [hg] at hf; cases hf
    | some fl => rw [hg] at hf; cases hf; exact ⟨fl, rfl, rfl, rfl⟩
  obtain ⟨gs, rfl, fl, hfl, rfl, rfl⟩ := hD
  have hu := F.run_und G.w
  cases hx with
  | agg hl =>
    obtain ⟨u, h1, h2⟩ := run_part (P := P) hft hl h
    exact ⟨u, by simp only [Instr.field, Sem.run_bind, hu, Result.andThen_ok, hfl, asAgg, Sem.run_pure, h1], h2⟩

theorem tdOf_slice {d : TypeDesc} {e : Nat} (h : tdOf d = .slice e) : d = .slice e := by cases d <;> simp [tdOf] at h; subst h; rfl
theorem tdOf_array {d : TypeDesc} {n e : Nat} (h : tdOf d = .array n e) : d = .array n e := by
  cases d <;> simp [tdOf] at h; obtain ⟨rfl, rfl⟩ := h; rfl
theorem tdOf_str {d : TypeDesc} (h : tdOf d = .str) : d = .string := by cases d <;> simp [tdOf] at h; rfl
theorem tdOf_int {d : TypeDesc} {k : IntKind} (h : tdOf d = .int k) : d = .int k := by cases d <;> simp [tdOf] at h; subst h; rfl
theorem tdOf_map {d : TypeDesc} {k e : Nat} (h : tdOf d = .map k e) : d = .map k e := by
  cases d <;> simp [tdOf] at h; obtain ⟨rfl, rfl⟩ := h; rfl

/-- a slice's elements are of the size that its type says (asked of the frozen ones at each index) -/
theorem run_indexAt_sl {t e : TypeId} {ti te : TI} (ht : tiOf P t = some ti) (hd : ti.d = .slice e) (he : tiOf P e = some te) {k : IntKind} {i : Int} (h0 : 0 ≤ i) {xs : List AV} {v : AV} (hv : xs[i.toNat]? = some v) (hsz : v.cells.length = te.size)
    {vx : Value} (hx : Rep G (.sl xs) vx) : ∃ u, (Instr.indexAt t vx (.int k i)).run P G.w = .ok u G.w ∧ Rep G (.rp v 0) u := by
  obtain ⟨ii, d, z, F⟩ := tiOf_facts ht
  obtain ⟨i2, d2, z2, F2⟩ := tiOf_facts he
  obtain rfl := tdOf_slice (F.d ▸ hd)
  have hu := F.run_und G.w
  cases hx with
  | sl0 a cap _ => simp at hv
  | sl hl hE =>
    rename_i blk o sz cap
    obtain ⟨h1, h2⟩ := hE.get hv
    have hlt : i.toNat < xs.length := by
      rcases Nat.lt_or_ge i.toNat xs.length with h | h
      · exact h
      · rw [List.getElem?_eq_none h] at hv; cases hv
    refine ⟨.pointer (some ⟨blk, o + i.toNat * sz + 0, none⟩), ?_, .rp h2⟩
    have hin : (0 : Int) ≤ i ∧ i < (xs.length : Int) := ⟨h0, by omega⟩
    simp only [Instr.indexAt, asIntOf, Sem.run_bind, Sem.run_pure, Result.andThen_ok, hu, hin, and_self, if_true, F2.run_size, Addr.add_lit, ← hsz, h1, Nat.add_zero]

theorem run_indexAt_sr {t e : TypeId} {ti te : TI} (ht : tiOf P t = some ti) (hd : ti.d = .slice e) (he : tiOf P e = some te) {k : IntKind} {i : Int} {b g off len : Nat} (h0 : 0 ≤ i) (h1 : i < (len : Int)) (hsz : ∃ kk, G.σ[b]? = some kk ∧ kk.sz = some te.size)
    {vx : Value} (hx : Rep G (.sr b g off len) vx) : ∃ u, (Instr.indexAt t vx (.int k i)).run P G.w = .ok u G.w ∧ Rep G (.ptr b g (off + i.toNat) 0) u := by
  obtain ⟨ii, d, z, F⟩ := tiOf_facts ht
  obtain ⟨i2, d2, z2, F2⟩ := tiOf_facts he
  obtain rfl := tdOf_slice (F.d ▸ hd)
  have hu := F.run_und G.w
  cases hx with
  | sr0 => omega
  | srE => omega
  | sr hid hr hl hb hc =>
    rename_i sz blk cap c e2 fz
    have hs : sz = te.size := by
      obtain ⟨kk, q1, q2⟩ := hsz
      obtain ⟨k2, p1, _, p2⟩ := hid
      rw [q1] at p1; cases p1
      rw [q2] at p2; cases p2; rfl
    subst hs
    refine ⟨.pointer (some ⟨blk, (off + i.toNat) * te.size + 0, none⟩), ?_, .ptr hid hr⟩
    have hin : (0 : Int) ≤ i ∧ i < (len : Int) := ⟨h0, h1⟩
    simp only [Instr.indexAt, asIntOf, Sem.run_bind, Sem.run_pure, Result.andThen_ok, hu, hin, and_self, if_true, F2.run_size, Addr.add_lit, Nat.add_zero, Nat.add_mul]

theorem run_indexAt_arr {t n e : TypeId} {ti te : TI} (ht : tiOf P t = some ti) (hd : ti.d = .array n e) (he : tiOf P e = some te) {k : IntKind} {i : Int} (h0 : 0 ≤ i) (h1 : i < (n : Int)) {x v : AV}
    {vx : Value} (hx : Rep G x vx) (h : ptrAdd x (i.toNat * te.size) = some v) :
    ∃ u, (Instr.indexAt t vx (.int k i)).run P G.w = .ok u G.w ∧ Rep G v u := by
  obtain ⟨ii, d, z, F⟩ := tiOf_facts ht
  obtain ⟨i2, d2, z2, F2⟩ := tiOf_facts he
  obtain rfl := tdOf_array (F.d ▸ hd)
  have hu := F.run_und G.w
  have hin : (0 : Int) ≤ i ∧ i < (n : Int) := ⟨h0, h1⟩
  cases hx <;> cases h
  · rename_i b g j off sz blk hid hr
    refine ⟨.pointer (some ⟨blk, j * sz + (off + i.toNat * te.size), none⟩), ?_, .ptr hid hr⟩
    simp only [Instr.indexAt, asIntOf, Instr.sureAddr, Sem.run_bind, Sem.run_pure, Result.andThen_ok, hu, hin, and_self, if_true, F2.run_size, Addr.add_lit, Nat.add_assoc]
  · rename_i y off blk oo hc
    refine ⟨.pointer (some ⟨blk, oo + (off + i.toNat * te.size), none⟩), ?_, .rp hc⟩
    simp only [Instr.indexAt, asIntOf, Instr.sureAddr, Sem.run_bind, Sem.run_pure, Result.andThen_ok, hu, hin, and_self, if_true, F2.run_size, Addr.add_lit, Nat.add_assoc]

theorem run_index_str {t : TypeId} {ti : TI} (ht : tiOf P t = some ti) (hd : ti.d = .str) {k : IntKind} {i : Int} (h0 : 0 ≤ i) {b : List UInt8} {c : UInt8} (hc : b[i.toNat]? = some c) {vx : Value} (hx : Rep G (.str b) vx) :
    (Instr.index t vx (.int k i)).run P G.w = .ok (.int .u8 c.toNat) G.w := by
  obtain ⟨ii, d, z, F⟩ := tiOf_facts ht
  obtain rfl := tdOf_str (F.d ▸ hd)
  have hu := F.run_und G.w
  generalize hb : b = b' at hx
  cases hx with
  | str s =>
    subst hb
    rw [← ba_get] at hc
    simp only [Instr.index, asIntOf, Sem.run_bind, Sem.run_pure, Result.andThen_ok, hu, h0, if_true, hc]

theorem run_index_arr {t n e : TypeId} {ti te : TI} (ht : tiOf P t = some ti) (hd : ti.d = .array n e) (he : tiOf P e = some te) {k : IntKind} {i : Int} (h0 : 0 ≤ i) (h1 : i < (n : Int)) {cs : List AV} {v : AV} {vx : Value} (hx : Rep G (.agg cs) vx)
    (h : part te (.agg cs) (i.toNat * te.size) = some v) : ∃ u, (Instr.index t vx (.int k i)).run P G.w = .ok u G.w ∧ Rep G v u := by
  obtain ⟨ii, d, z, F⟩ := tiOf_facts ht
  obtain ⟨i2, d2, z2, F2⟩ := tiOf_facts he
  obtain rfl := tdOf_array (F.d ▸ hd)
  have hu := F.run_und G.w
  have hin : (0 : Int) ≤ i ∧ i < (n : Int) := ⟨h0, h1⟩
  cases hx with
  | agg hl =>
    obtain ⟨u, h1, h2⟩ := run_part (P := P) he hl h
    exact ⟨u, by simp only [Instr.index, asIntOf, Sem.run_bind, Sem.run_pure, Result.andThen_ok, hu, hin, and_self, if_true, F2.run_size, h1], h2⟩
end
end Go.Proofs.YtgpkochbmfhmdaaGreatDoor.Lift
namespace Go.Proofs.YtgpkochbmfhmdaaGreatDoor.Lift
open Go

section
variable {P : Program} {G : Gh}

theorem run_optIdx_lo {x : Option AV} {v : Option Value} (h : match x, v with | none, none => True | some a, some b => Rep G a b | _, _ => False) {l hh : Nat} (hl : optIdx x 0 = some l) (hle : l ≤ hh) (code : BoundsCode) :
    (match v with | some v => Instr.sliceBound v hh code | none => pure 0 : Sem Nat).run P G.w = .ok l G.w := by
  cases x with
  | none => cases v with
    | none => cases hl; rfl
    | some b => exact h.elim
  | some a => cases v with
    | none => exact h.elim
    | some b =>
      simp only at h
      cases a <;> simp only [optIdx] at hl <;> try (cases hl; done)
      cases h
      split at hl
      · rename_i k n h0
        cases hl
        have : (0 : Int) ≤ n ∧ n ≤ (hh : Int) := ⟨h0, by omega⟩
        simp only [Instr.sliceBound, asIntOf, Sem.run_bind, Sem.run_pure, Result.andThen_ok, this, and_self, if_true]
      · cases hl
theorem run_optIdx_hi {x : Option AV} {v : Option Value} (h : match x, v with | none, none => True | some a, some b => Rep G a b | _, _ => False) {d l hh : Nat} (hl : optIdx x d = some l) (hle : l ≤ hh) (code : BoundsCode) :
    (match v with | some v => Instr.sliceBound v hh code | none => pure d : Sem Nat).run P G.w = .ok l G.w := by
  cases x with
  | none => cases v with
    | none => cases hl; rfl
    | some b => exact h.elim
  | some a => cases v with
    | none => exact h.elim
    | some b =>
      simp only at h
      cases a <;> simp only [optIdx] at hl <;> try (cases hl; done)
      cases h
      split at hl
      · rename_i k n h0
        cases hl
        have : (0 : Int) ≤ n ∧ n ≤ (hh : Int) := ⟨h0, by omega⟩
        simp only [Instr.sliceBound, asIntOf, Sem.run_bind, Sem.run_pure, Result.andThen_ok, this, and_self, if_true]
      · cases hl

def RepO (G : Gh) (x : Option AV) (v : Option Value) : Prop := match x, v with | none, none => True | some a, some b => Rep G a b | _, _ => False

theorem run_sliceBounds {lo hi : Option AV} {vlo vhi : Option Value} (h1 : RepO G lo vlo) (h2 : RepO G hi vhi) (isS : Bool) {len cap l h : Nat} (hl : optIdx lo 0 = some l) (hh : optIdx hi len = some h) (hle : l ≤ h) (hc : h ≤ cap) :
    (Instr.sliceBounds isS len cap vlo vhi none).run P G.w = .ok (l, h, cap) G.w := by
  have e1 := run_optIdx_hi (P := P) h2 hh hc (if isS then .sliceAcap else .sliceAlen)
  have e2 := run_optIdx_lo (P := P) h1 hl hle .sliceB
  unfold Instr.sliceBounds
  cases vhi with
  | none =>
    cases vlo with
    | none => simp only [Sem.run_bind, Sem.run_pure, Result.andThen_ok] at e1 e2 ⊢; cases e1; cases e2; rfl
    | some b => simp only [Sem.run_bind, Sem.run_pure, Result.andThen_ok, Option.isSome_none, Bool.false_eq_true, if_false] at e1 e2 ⊢; cases e1; rw [e2]; rfl
  | some a =>
    cases vlo with
    | none => simp only [Sem.run_bind, Sem.run_pure, Result.andThen_ok] at e1 e2 ⊢; rw [e1]; cases e2; rfl
    | some b => simp only [Sem.run_bind, Sem.run_pure, Result.andThen_ok, Option.isSome_none, Bool.false_eq_true, if_false] at e1 e2 ⊢; rw [e1]; simp only [Result.andThen_ok]; rw [e2]; rfl

theorem drop_elems {xs : List AV} {blk o sz : Nat} (hE : RepElems G xs blk o sz) (l h : Nat) (hh : h ≤ xs.length) : RepElems G ((xs.take h).drop l) blk (o + l * sz) sz :=
  RepElems.of_get fun i x hx => by
    rw [List.getElem?_drop] at hx
    have hlt : l + i < h := by
      rcases Nat.lt_or_ge (l + i) h with q | q
      · exact q
      · rw [List.getElem?_eq_none (by simp; omega)] at hx; cases hx
    rw [List.getElem?_take_of_lt hlt] at hx
    have := hE.get hx
    rwa [show o + l * sz + i * sz = o + (l + i) * sz by rw [Nat.add_mul]; omega]

theorem run_sliceAt_str {t : TypeId} {ti : TI} (ht : tiOf P t = some ti) (hd : ti.d = .str) {b : List UInt8} {v : Value} (hx : Rep G (.str b) v) {lo hi : Option AV} {vlo vhi : Option Value} (h1 : RepO G lo vlo) (h2 : RepO G hi vhi)
    {l h : Nat} (hl : optIdx lo 0 = some l) (hh : optIdx hi b.length = some h) (hle : l ≤ h) (hc : h ≤ b.length) :
    ∃ u, (Instr.sliceAt t v vlo vhi none).run P G.w = .ok u G.w ∧ Rep G (.str ((b.take h).drop l)) u := by
  obtain ⟨ii, d, z, F⟩ := tiOf_facts ht
  obtain rfl := tdOf_str (F.d ▸ hd)
  have hu := F.run_und G.w
  generalize hb : b = b' at hx
  cases hx with
  | str s =>
    subst hb
    have hs := run_sliceBounds (P := P) h1 h2 false (len := s.size) (cap := s.size) hl (by rwa [ba_len] at hh) hle (by rwa [ba_len] at hc)
    refine ⟨.string (s.extract l h), ?_, by rw [← ba_extract]; exact .str _⟩
    simp only [Instr.sliceAt, Sem.run_bind, hu, Result.andThen_ok, Instr.slice, Option.isSome_none, Bool.false_eq_true, if_false, Sem.run_pure, hs]

theorem run_sliceAt_sl {t e : TypeId} {ti te : TI} (ht : tiOf P t = some ti) (hd : ti.d = .slice e) (he : tiOf P e = some te) {xs : List AV} {v : Value} (hx : Rep G (.sl xs) v) {lo hi : Option AV} {vlo vhi : Option Value} (h1 : RepO G lo vlo) (h2 : RepO G hi vhi)
    {l h : Nat} (hl : optIdx lo 0 = some l) (hh : optIdx hi xs.length = some h) (hle : l ≤ h) (hc : h ≤ xs.length) (hs : l = 0 ∨ xs.all (fun x => decide (x.cells.length = te.size)) = true) :
    ∃ u, (Instr.sliceAt t v vlo vhi none).run P G.w = .ok u G.w ∧ Rep G (.sl ((xs.take h).drop l)) u := by
  obtain ⟨ii, d, z, F⟩ := tiOf_facts ht
  obtain ⟨i2, d2, z2, F2⟩ := tiOf_facts he
  obtain rfl := tdOf_slice (F.d ▸ hd)
  have hu := F.run_und G.w
  generalize hxs : xs = xs' at hx
  cases hx with
  | sl0 a cap hn =>
    subst hxs
    simp only [List.length_nil, Nat.le_zero] at hc
    subst hc
    obtain rfl : l = 0 := by omega
    have hs := run_sliceBounds (P := P) h1 h2 true (len := 0) (cap := cap) hl hh hle (Nat.zero_le _)
    refine ⟨.slice (if cap = 0 then a else a.map (·.add (0 * te.size))) (0 - 0) (cap - 0), ?_, .sl0 _ _ fun e => by
      split at e
      · omega
      · have := hn (Option.map_eq_none_iff.1 e); omega⟩
    simp only [Instr.sliceAt, Sem.run_bind, hu, Result.andThen_ok, Instr.slice, hs, F2.run_size, Sem.run_pure]
  | sl hle2 hE =>
    subst hxs
    rename_i blk o sz cap
    have hs2 := run_sliceBounds (P := P) h1 h2 true (len := xs.length) (cap := cap) hl hh hle (by omega)
    have hlen : ((xs.take h).drop l).length = h - l := by rw [List.length_drop, List.length_take]; omega
    refine ⟨.slice (if cap = l then some ⟨blk, o, none⟩ else (some (⟨blk, o, none⟩ : Addr)).map (·.add (l * te.size))) (h - l) (cap - l), ?_, ?_⟩
    · simp only [Instr.sliceAt, Sem.run_bind, hu, Result.andThen_ok, Instr.slice, hs2, F2.run_size, Sem.run_pure]
    · by_cases hz : h - l = 0
      · have : (xs.take h).drop l = [] := by apply List.eq_nil_of_length_eq_zero; omega
        rw [this, hz]
        exact .sl0 _ _ fun e => by
          split at e <;> cases e
      · rw [if_neg (by omega), Option.map_some, Addr.add_lit]
        have hsz : l * te.size = l * sz := by
          rcases hs with h0 | h0
          · subst h0; simp
          · have hx0 : ∃ x, xs[l]? = some x := ⟨_, List.getElem?_eq_getElem (by omega)⟩
            obtain ⟨x, hx⟩ := hx0
            have h3 := (List.all_eq_true.1 h0 x (List.mem_of_getElem? hx))
            simp only [decide_eq_true_eq] at h3
            rw [← h3, (hE.get hx).1]
        rw [hsz, ← hlen]
        exact .sl (by omega) (drop_elems hE l h hc)

theorem run_sliceAt_sr {t e : TypeId} {ti te : TI} (ht : tiOf P t = some ti) (hd : ti.d = .slice e) (he : tiOf P e = some te) {b g off len : Nat} {v : Value} (hx : Rep G (.sr b g off len) v) {lo hi : Option AV} {vlo vhi : Option Value} (h1 : RepO G lo vlo) (h2 : RepO G hi vhi)
    {l h : Nat} (hl : optIdx lo 0 = some l) (hh : optIdx hi len = some h) (hle : l ≤ h) (hc : h ≤ len) {kk : ABlk} (hk : G.σ[b]? = some kk) (hks : kk.sz = some te.size) :
    ∃ u, (Instr.sliceAt t v vlo vhi none).run P G.w = .ok u G.w ∧ Rep G (.sr b g (off + l) (h - l)) u := by
  obtain ⟨ii, d, z, F⟩ := tiOf_facts ht
  obtain ⟨i2, d2, z2, F2⟩ := tiOf_facts he
  obtain rfl := tdOf_slice (F.d ▸ hd)
  have hu := F.run_und G.w
  cases hx with
  | sr0 hid hr =>
    obtain rfl : h = 0 := by omega
    obtain rfl : l = 0 := by omega
    have hs := run_sliceBounds (P := P) h1 h2 true (len := 0) (cap := 0) hl hh hle (Nat.zero_le _)
    refine ⟨.slice none 0 0, ?_, .sr0 hid hr⟩
    simp only [Instr.sliceAt, Sem.run_bind, hu, Result.andThen_ok, Instr.slice, hs, F2.run_size, Sem.run_pure, if_true, Nat.sub_self]
  | sr hid hr hle2 hb hcc =>
    rename_i sz blk cap c e2 fz
    have hsz : sz = te.size := by
      obtain ⟨k2, p1, _, p2⟩ := hid
      rw [hk] at p1; cases p1
      rw [hks] at p2; cases p2; rfl
    subst hsz
    have hs2 := run_sliceBounds (P := P) h1 h2 true (len := len) (cap := cap) hl hh hle (by omega)
    refine ⟨.slice (if cap = l then some ⟨blk, off * te.size, none⟩ else (some (⟨blk, off * te.size, none⟩ : Addr)).map (·.add (l * te.size))) (h - l) (cap - l), ?_, ?_⟩
    · simp only [Instr.sliceAt, Sem.run_bind, hu, Result.andThen_ok, Instr.slice, hs2, F2.run_size, Sem.run_pure]
    · by_cases hcl : cap = l
      · rw [if_pos hcl]
        have h0 : h - l = 0 := by omega
        rw [h0]
        by_cases ho : off + l = 0
        · rw [ho]
          obtain rfl : off = 0 := by omega
          exact .sr hid hr (Nat.zero_le _) hb (by rw [← hcl, Nat.sub_self]; simp)
        · exact .srE hid hr ho
      · rw [if_neg hcl, Option.map_some, Addr.add_lit, ← Nat.add_mul]
        exact .sr hid hr (by omega) hb (Nat.le_trans (Nat.mul_le_mul_right _ (by omega)) hcc)
  | srE hid hr ho =>
    rename_i sz blk o cap
    obtain rfl : h = 0 := by omega
    obtain rfl : l = 0 := by omega
    have hs := run_sliceBounds (P := P) h1 h2 true (len := 0) (cap := cap) hl hh hle (Nat.zero_le _)
    refine ⟨.slice (if cap = 0 then some ⟨blk, o, none⟩ else (some (⟨blk, o, none⟩ : Addr)).map (·.add (0 * te.size))) (0 - 0) (cap - 0), ?_, ?_⟩
    · simp only [Instr.sliceAt, Sem.run_bind, hu, Result.andThen_ok, Instr.slice, hs, F2.run_size, Sem.run_pure]
    · have : (if cap = 0 then some ⟨blk, o, none⟩ else (some (⟨blk, o, none⟩ : Addr)).map (·.add (0 * te.size))) = some ⟨blk, o, none⟩ := by split <;> simp [Addr.add]
      rw [this]
      exact .srE hid hr ho

theorem run_sliceBounds3 {lo : Option AV} {hi mx : AV} {vlo : Option Value} {vhi vmx : Value} (h1 : RepO G lo vlo) (h2 : Rep G hi vhi) (h3 : Rep G mx vmx) (len : Nat) {cap l h m : Nat} (hl : optIdx lo 0 = some l) (hh : optIdx (some hi) 0 = some h) (hm : optIdx (some mx) 0 = some m) (hle : l ≤ h) (hhm : h ≤ m) (hc : m ≤ cap) :
    (Instr.sliceBounds true len cap vlo (some vhi) (some vmx)).run P G.w = .ok (l, h, m) G.w := by
  have e0 := run_optIdx_hi (P := P) (x := some mx) (v := some vmx) h3 hm hc .slice3Acap
  have e1 := run_optIdx_hi (P := P) (x := some hi) (v := some vhi) h2 hh hhm .slice3B
  have e2 := run_optIdx_lo (P := P) h1 hl hle .slice3C
  unfold Instr.sliceBounds
  cases vlo with
  | none =>
    simp only [Sem.run_bind, Sem.run_pure, Result.andThen_ok, if_true] at e0 e1 e2 ⊢
    rw [e0]
    simp only [Result.andThen_ok]
    rw [e1]
    cases e2
    rfl
  | some b =>
    simp only [Sem.run_bind, Sem.run_pure, Result.andThen_ok, Option.isSome_some, if_true] at e0 e1 e2 ⊢
    rw [e0]
    simp only [Result.andThen_ok]
    rw [e1]
    simp only [Result.andThen_ok]
    rw [e2]
    rfl
theorem run_sliceAt_sl3 {t e : TypeId} {ti te : TI} (ht : tiOf P t = some ti) (hd : ti.d = .slice e) (he : tiOf P e = some te) {xs : List AV} {v : Value} (hx : Rep G (.sl xs) v) {lo : Option AV} {hi mx : AV} {vlo : Option Value} {vhi vmx : Value} (h1 : RepO G lo vlo) (h2 : Rep G hi vhi) (h3 : Rep G mx vmx)
    {l h m : Nat} (hl : optIdx lo 0 = some l) (hh : optIdx (some hi) 0 = some h) (hm : optIdx (some mx) 0 = some m) (hle : l ≤ h) (hhm : h ≤ m) (hc : m ≤ xs.length) (hs : l = 0 ∨ xs.all (fun x => decide (x.cells.length = te.size)) = true) :
    ∃ u, (Instr.sliceAt t v vlo (some vhi) (some vmx)).run P G.w = .ok u G.w ∧ Rep G (.sl ((xs.take h).drop l)) u := by
  obtain ⟨ii, d, z, F⟩ := tiOf_facts ht
  obtain ⟨i2, d2, z2, F2⟩ := tiOf_facts he
  obtain rfl := tdOf_slice (F.d ▸ hd)
  have hu := F.run_und G.w
  generalize hxs : xs = xs' at hx
  cases hx with
  | sl0 a cap hn =>
    subst hxs
    simp only [List.length_nil, Nat.le_zero] at hc
    subst hc
    obtain rfl : h = 0 := by omega
    obtain rfl : l = 0 := by omega
    have hs := run_sliceBounds3 (P := P) h1 h2 h3 0 (cap := cap) hl hh hm hle hhm (Nat.zero_le _)
    refine ⟨.slice a 0 0, ?_, .sl0 _ _ fun _ => rfl⟩
    simp only [Instr.sliceAt, Sem.run_bind, hu, Result.andThen_ok, Instr.slice, hs, F2.run_size, Sem.run_pure, if_true, Nat.sub_self]
  | sl hle2 hE =>
    subst hxs
    rename_i blk o sz cap
    have hs2 := run_sliceBounds3 (P := P) h1 h2 h3 xs.length (cap := cap) hl hh hm hle hhm (by omega)
    have hlen : ((xs.take h).drop l).length = h - l := by rw [List.length_drop, List.length_take]; omega
    refine ⟨.slice (if m = l then some ⟨blk, o, none⟩ else (some (⟨blk, o, none⟩ : Addr)).map (·.add (l * te.size))) (h - l) (m - l), ?_, ?_⟩
    · simp only [Instr.sliceAt, Sem.run_bind, hu, Result.andThen_ok, Instr.slice, hs2, F2.run_size, Sem.run_pure]
    · by_cases hz : h - l = 0
      · have : (xs.take h).drop l = [] := by apply List.eq_nil_of_length_eq_zero; omega
        rw [this, hz]
        exact .sl0 _ _ fun e => by
          split at e <;> cases e
      · rw [if_neg (by omega), Option.map_some, Addr.add_lit]
        have hsz : l * te.size = l * sz := by
          rcases hs with h0 | h0
          · subst h0; simp
          · have hx0 : ∃ x, xs[l]? = some x := ⟨_, List.getElem?_eq_getElem (by omega)⟩
            obtain ⟨x, hx⟩ := hx0
            have h3 := (List.all_eq_true.1 h0 x (List.mem_of_getElem? hx))
            simp only [decide_eq_true_eq] at h3
            rw [← h3, (hE.get hx).1]
        rw [hsz, ← hlen]
        exact .sl (by omega) (drop_elems hE l h (by omega))
theorem run_sliceAt_sr3 {t e : TypeId} {ti te : TI} (ht : tiOf P t = some ti) (hd : ti.d = .slice e) (he : tiOf P e = some te) {b g off len : Nat} {v : Value} (hx : Rep G (.sr b g off len) v) {lo : Option AV} {hi mx : AV} {vlo : Option Value} {vhi vmx : Value} (h1 : RepO G lo vlo) (h2 : Rep G hi vhi) (h3 : Rep G mx vmx)
    {l h m : Nat} (hl : optIdx lo 0 = some l) (hh : optIdx (some hi) 0 = some h) (hm : optIdx (some mx) 0 = some m) (hle : l ≤ h) (hhm : h ≤ m) (hc : m ≤ len) {kk : ABlk} (hk : G.σ[b]? = some kk) (hks : kk.sz = some te.size) :
    ∃ u, (Instr.sliceAt t v vlo (some vhi) (some vmx)).run P G.w = .ok u G.w ∧ Rep G (.sr b g (off + l) (h - l)) u := by
  obtain ⟨ii, d, z, F⟩ := tiOf_facts ht
  obtain ⟨i2, d2, z2, F2⟩ := tiOf_facts he
  obtain rfl := tdOf_slice (F.d ▸ hd)
  have hu := F.run_und G.w
  cases hx with
  | sr0 hid hr =>
    obtain rfl : m = 0 := by omega
    obtain rfl : h = 0 := by omega
    obtain rfl : l = 0 := by omega
    have hs := run_sliceBounds3 (P := P) h1 h2 h3 0 (cap := 0) hl hh hm hle hhm (Nat.zero_le _)
    refine ⟨.slice none 0 0, ?_, .sr0 hid hr⟩
    simp only [Instr.sliceAt, Sem.run_bind, hu, Result.andThen_ok, Instr.slice, hs, F2.run_size, Sem.run_pure, if_true, Nat.sub_self]
  | sr hid hr hle2 hb hcc =>
    rename_i sz blk cap c e2 fz
    have hsz : sz = te.size := by
      obtain ⟨k2, p1, _, p2⟩ := hid
      rw [hk] at p1; cases p1
      rw [hks] at p2; cases p2; rfl
    subst hsz
    have hs2 := run_sliceBounds3 (P := P) h1 h2 h3 len (cap := cap) hl hh hm hle hhm (by omega)
    refine ⟨.slice (if m = l then some ⟨blk, off * te.size, none⟩ else (some (⟨blk, off * te.size, none⟩ : Addr)).map (·.add (l * te.size))) (h - l) (m - l), ?_, ?_⟩
    · simp only [Instr.sliceAt, Sem.run_bind, hu, Result.andThen_ok, Instr.slice, hs2, F2.run_size, Sem.run_pure]
    · by_cases hcl : m = l
      · rw [if_pos hcl]
        have h0 : h - l = 0 := by omega
        rw [h0]
        by_cases ho : off + l = 0
        · rw [ho]
          obtain rfl : off = 0 := by omega
          exact .sr hid hr (Nat.zero_le _) hb (by rw [← hcl, Nat.sub_self]; simp)
        · exact .srE hid hr ho
      · rw [if_neg hcl, Option.map_some, Addr.add_lit, ← Nat.add_mul]
        exact .sr hid hr (by omega) hb (Nat.le_trans (Nat.mul_le_mul_right _ (by omega)) hcc)
  | srE hid hr ho =>
    rename_i sz blk o cap
    obtain rfl : m = 0 := by omega
    obtain rfl : h = 0 := by omega
    obtain rfl : l = 0 := by omega
    have hs := run_sliceBounds3 (P := P) h1 h2 h3 0 (cap := cap) hl hh hm hle hhm (Nat.zero_le _)
    refine ⟨.slice (some ⟨blk, o, none⟩) 0 0, ?_, .srE hid hr ho⟩
    simp only [Instr.sliceAt, Sem.run_bind, hu, Result.andThen_ok, Instr.slice, hs, F2.run_size, Sem.run_pure, if_true, Nat.sub_self]

/-- a slice of a whole array -/
theorem chunks_length (agg : Bool) (sz : Nat) : ∀ (n : Nat) (cs : List AV), (chunks agg sz n cs).length = n
  | 0, _ => rfl
  | n + 1, cs => by simp [chunks, chunks_length agg sz n]
theorem chunks_rep {agg : Bool} {sz blk : Nat} : ∀ (n : Nat) (cs : List AV) (o : Nat), n * sz ≤ cs.length → (agg = true ∨ sz = 1 ∧ ∀ c ∈ cs, c.isAgg = false) → RepCells G cs blk o → RepElems G (chunks agg sz n cs) blk o sz
  | 0, _, _, _, _, _ => .nil _ _ _
  | n + 1, cs, o, hn, hk, h => by
    rw [Nat.succ_mul] at hn
    have hc : (mkv agg (cs.take sz)).cells = cs.take sz := by
      rcases hk with rfl | ⟨rfl, hk⟩
      · simp
      · cases agg with
        | true => simp
        | false =>
          cases cs with
          | nil => simp at hn
          | cons c cs =>
            have := hk c (by simp)
            cases c <;> simp_all
    refine .cons (by rw [hc, List.length_take]; omega) ?_ (chunks_rep n (cs.drop sz) (o + sz) (by rw [List.length_drop]; omega) ?_ ?_)
    · rw [hc]
      exact RepCells.of_get fun i x hx => by
        rw [List.getElem?_take] at hx
        split at hx
        · exact h.get hx
        · cases hx
    · rcases hk with hk | ⟨h1, h2⟩
      · exact .inl hk
      · exact .inr ⟨h1, fun c hc => h2 c (List.mem_of_mem_drop hc)⟩
    · exact RepCells.of_get fun i x hx => by
        rw [List.getElem?_drop] at hx
        have := h.get hx
        rwa [← Nat.add_assoc] at this
theorem run_sliceAt_arr {t n e : Nat} {ti te : TI} (ht : tiOf P t = some ti) (hd : ti.d = .array n e) (he : tiOf P e = some te) {x : AV} {off : Nat} {v : Value} (hx : Rep G (.rp x off) v)
    (hlen : off + n * te.size ≤ x.cells.length) (hk : te.agg = true ∨ te.size = 1 ∧ x.cells.all (fun c => !c.isAgg) = true) :
    ∃ u, (Instr.sliceAt t v none none none).run P G.w = .ok u G.w ∧ Rep G (.sl (chunks te.agg te.size n (x.cells.drop off))) u := by
  obtain ⟨ii, d, z, F⟩ := tiOf_facts ht
  obtain ⟨i2, d2, z2, F2⟩ := tiOf_facts he
  obtain rfl := tdOf_array (F.d ▸ hd)
  have hu := F.run_und G.w
  cases hx with
  | rp h =>
    rename_i blk o
    have hs := run_sliceBounds (P := P) (G := G) (lo := none) (hi := none) (vlo := none) (vhi := none) trivial trivial false (len := n) (cap := n) rfl rfl (Nat.zero_le _) (Nat.le_refl _)
    refine ⟨.slice (some ⟨blk, o + off, none⟩) n n, ?_, ?_⟩
    · simp only [Instr.sliceAt, Sem.run_bind, hu, Result.andThen_ok, Instr.sureAddr, hs, F2.run_size, Sem.run_pure, Nat.sub_zero, Addr.add_lit, Nat.zero_mul, Nat.add_zero, ite_self]
    · have := chunks_rep (G := G) (agg := te.agg) (sz := te.size) (blk := blk) n (x.cells.drop off) (o + off) (by rw [List.length_drop]; omega) (by
        rcases hk with hk | ⟨h1, h2⟩
        · exact .inl hk
        · exact .inr ⟨h1, fun c hc => by
            have := List.all_eq_true.1 h2 c (List.mem_of_mem_drop hc)
            simpa using this⟩) (RepCells.of_get fun i y hy => by
        rw [List.getElem?_drop] at hy
        have := h.get hy
        rwa [← Nat.add_assoc] at this)
      have h2 := Rep.sl (G := G) (cap := n) (by rw [chunks_length]; exact Nat.le_refl _) this
      rwa [chunks_length] at h2

def LenInv (d : TD) : AV → Prop
  | .str _ => d = .str
  | .sl _ => ∃ e, d = .slice e
  | .snil => ∃ e, d = .slice e
  | .sle => ∃ e, d = .slice e
  | .sr .. => ∃ e, d = .slice e
  | _ => ∃ k e, d = .map k e
theorem lenTD_inv {d : TD} {x : AV} (h : lenTD d x = true) : LenInv d x := by
  cases d <;> cases x <;> first
    | (cases h; done)
    | rfl
    | exact ⟨_, rfl⟩
    | exact ⟨_, _, rfl⟩
theorem run_len {x : AV} {n : Nat} {v : Value} (inv : Inv G) (hx : Rep G x v) (h : lenOf G.σ x = some n) {t : TypeId} {ti : TI} (ht : tiOf P t = some ti) (hk : lenTD ti.d x = true)
    (ty : TypeId) : (Builtin.len_ #[t] ty #[v]).run P G.w = .ok (.int .i64 n) G.w := by
  obtain ⟨ii, d, z, F⟩ := tiOf_facts ht
  have hu := F.run_und G.w
  have repE_len : ∀ {es : List (AV × AV)} {ents : List MapEntry}, RepE G es ents → es.length = ents.length := by
    intro es
    induction es with
    | nil => intro ents h; cases h; rfl
    | cons a es ih => intro ents h; cases h with | cons _ _ _ t => simp [ih t]
  have hf := lenTD_inv hk
  cases hx <;> simp only [lenOf] at h <;> try (cases h; done)
  all_goals simp only [LenInv] at hf
  · cases h
    rw [F.d] at hf
    obtain rfl := tdOf_str hf
    simp [Builtin.len_, hu, goInt, ba_len]
  · cases h
    obtain ⟨e, he⟩ := hf
    obtain rfl := tdOf_slice (F.d ▸ he)
    simp [Builtin.len_, hu, goInt]
  · cases h
    obtain ⟨e, he⟩ := hf
    obtain rfl := tdOf_slice (F.d ▸ he)
    simp [Builtin.len_, hu, goInt]
  · cases h
    obtain ⟨e, he⟩ := hf
    obtain rfl := tdOf_slice (F.d ▸ he)
    simp [Builtin.len_, hu, goInt]
  · cases h
    obtain ⟨e, he⟩ := hf
    obtain rfl := tdOf_slice (F.d ▸ he)
    simp [Builtin.len_, hu, goInt]
  · cases h
    obtain ⟨e, he⟩ := hf
    obtain rfl := tdOf_slice (F.d ▸ he)
    simp [Builtin.len_, hu, goInt]
  · cases h
    obtain ⟨e, he⟩ := hf
    obtain rfl := tdOf_slice (F.d ▸ he)
    simp [Builtin.len_, hu, goInt]
  · cases h
    obtain ⟨e, he⟩ := hf
    obtain rfl := tdOf_slice (F.d ▸ he)
    simp [Builtin.len_, hu, goInt]
  · cases h
    obtain ⟨k, e, he⟩ := hf
    obtain rfl := tdOf_map (F.d ▸ he)
    simp [Builtin.len_, hu, goInt]
  · rename_i es blk ents ck hb hff hE
    cases h
    obtain ⟨k, e, he⟩ := hf
    obtain rfl := tdOf_map (F.d ▸ he)
    have := repE_len hE
    simp [Builtin.len_, hu, goInt, getObj, Sem.run, hb]
    have h2 : ents.size = es.length := by simpa using this.symm
    omega
  · cases h
    obtain ⟨k, e, he⟩ := hf
    obtain rfl := tdOf_map (F.d ▸ he)
    simp [Builtin.len_, hu, goInt]
  · rename_i b blk hid hr
    split at h
    · rename_i es hes
      cases h
      obtain ⟨blk', ents, ck, q1, q2, q3, q4⟩ := inv.maps b es hes
      rw [hr] at q1
      cases q1
      obtain ⟨k, e, he⟩ := hf
      obtain rfl := tdOf_map (F.d ▸ he)
      have := repE_len q3
      simp [Builtin.len_, hu, goInt, getObj, Sem.run, q2]
      have h2 : ents.size = es.length := by simpa using this.symm
      omega
    · cases h
end
end Go.Proofs.YtgpkochbmfhmdaaGreatDoor.Lift
namespace Go.Proofs.YtgpkochbmfhmdaaGreatDoor.Lift
open Go

section
variable {P : Program} {G : Gh}

/-- cells that are known, loaded -/
theorem run_loadRep {blk base : Nat} {cs : List AV} (hc : ∀ j y, cs[j]? = some y → ∃ u, G.w.cell? ⟨blk, base + j, none⟩ = some u ∧ Rep G y u) :
    ∃ l : List Value, (∀ w' : World, w'.heap = G.w.heap → (loadCells ⟨blk, base, none⟩ cs.length).run P w' = .ok l.toArray w') ∧ RepL G cs l := by
  have hex : ∀ j, ∃ u, ∀ y, cs[j]? = some y → G.w.cell? ⟨blk, base + j, none⟩ = some u ∧ Rep G y u := fun j => by
    cases hj : cs[j]? with
    | none => exact ⟨undef, fun y hy => by cases hy⟩
    | some y =>
      obtain ⟨u, h⟩ := hc j y hj
      exact ⟨u, fun y' hy' => by cases hy'; exact h⟩
  obtain ⟨f, hf⟩ := Classical.axiomOfChoice hex
  refine ⟨(List.range cs.length).map f, ?_, ?_⟩
  · intro w' hw'
    exact run_loadCells w' ⟨blk, base, none⟩ cs.length f fun j hj => by
      rw [Addr.add_lit, World.cell?_of_block (w := G.w) (w' := w') (by rw [hw'])]
      exact (hf j _ (List.getElem?_eq_getElem hj)).1
  · refine RepL.of_get (by simp) fun j y u hy hu => ?_
    have hj : j < cs.length := by
      rcases Nat.lt_or_ge j cs.length with h | h
      · exact h
      · rw [List.getElem?_eq_none h] at hy; cases hy
    rw [List.getElem?_map, List.getElem?_range hj] at hu
    cases hu
    exact (hf j y hy).2

theorem flat_len {sz : Nat} : ∀ {xs : List AV}, (∀ x ∈ xs, x.cells.length = sz) → (xs.flatMap AV.cells).length = xs.length * sz
  | [], _ => by simp
  | x :: xs, h => by
    rw [List.flatMap_cons, List.length_append, flat_len fun y hy => h y (List.mem_cons_of_mem _ hy), h x List.mem_cons_self, List.length_cons, Nat.add_mul]
    omega
theorem flat_get {sz : Nat} : ∀ {xs : List AV}, (∀ x ∈ xs, x.cells.length = sz) → ∀ {j : Nat} {y : AV}, (xs.flatMap AV.cells)[j]? = some y → ∃ i k x, xs[i]? = some x ∧ x.cells[k]? = some y ∧ j = i * sz + k ∧ k < sz
  | [], _, j, y, hy => by simp at hy
  | x :: xs, h, j, y, hy => by
    have hx := h x List.mem_cons_self
    rw [List.flatMap_cons] at hy
    rcases Nat.lt_or_ge j sz with hj | hj
    · rw [List.getElem?_append_left (by omega)] at hy
      exact ⟨0, j, x, rfl, hy, by simp, hj⟩
    · rw [List.getElem?_append_right (by omega), hx] at hy
      obtain ⟨i, k, x', h1, h2, h3, h4⟩ := flat_get (fun y hy => h y (List.mem_cons_of_mem _ hy)) hy
      exact ⟨i + 1, k, x', h1, h2, by rw [Nat.add_mul]; omega, h4⟩

theorem all_size {ys : List AV} {esz : Nat} (h : ys.all (fun y => decide (y.cells.length = esz ∧ y.whole = true)) = true) : ∀ y ∈ ys, y.cells.length = esz := fun y hy => by
  have := List.all_eq_true.1 h y hy
  simp only [decide_eq_true_eq] at this
  exact this.1
theorem all_scal {ys : List AV} {esz : Nat} (h : ys.all (fun y => decide (y.cells.length = esz ∧ y.whole = true)) = true) : (ys.flatMap AV.cells).all AV.scal = true := by
  rw [List.all_eq_true]
  intro c hc
  obtain ⟨y, hy, hcy⟩ := List.mem_flatMap.1 hc
  have := List.all_eq_true.1 h y hy
  simp only [decide_eq_true_eq] at this
  exact List.all_eq_true.1 this.2 c hcy

/-- the elements of a slice, as its cells are read -/
theorem run_firstCells (inv : Inv G) {y : AV} {v : Value} (hy : Rep G y v) {ys : List AV} (h : elemsOf G.σ y = some ys) {esz : Nat} (hs : ∀ x ∈ ys, x.cells.length = esz) :
    ∃ l : List Value, (∀ w' : World, w'.heap = G.w.heap → (Builtin.firstCells esz ys.length v).run P w' = .ok l.toArray w') ∧ RepL G (ys.flatMap AV.cells) l := by
  have hfl := flat_len hs
  cases hy <;> simp only [elemsOf] at h <;> try (cases h; done)
  · cases h
    exact ⟨[], fun _ _ => by simp [Builtin.firstCells], .nil⟩
  · cases h
    rename_i a cap _
    cases a with
    | none => exact ⟨[], fun _ _ => by simp [Builtin.firstCells], .nil⟩
    | some a => exact ⟨[], fun _ _ => by simp [Builtin.firstCells, loadCells, loadCellsFrom], .nil⟩
  · cases h
    exact ⟨[], fun _ _ => by simp [Builtin.firstCells, loadCells, loadCellsFrom], .nil⟩
  · cases h
    rename_i blk o sz cap hl hE
    have := run_loadRep (P := P) (G := G) (blk := blk) (base := o) (cs := ys.flatMap AV.cells) fun j y hj => by
      obtain ⟨i, k, x, h1, h2, rfl, h4⟩ := flat_get hs hj
      obtain ⟨q1, q2⟩ := hE.get h1
      have hsz : sz = esz := by rw [← q1]; exact hs x (List.mem_of_getElem? h1)
      subst hsz
      obtain ⟨u, _, h5, h6⟩ := q2.get h2
      exact ⟨u, by rw [← h5, Nat.add_assoc], h6⟩
    rw [hfl] at this
    simpa [Builtin.firstCells] using this
  · rename_i b g sz hid hr
    split at h
    · rename_i s g' lo xs hb
      split at h
      · rename_i hc
        cases h
        obtain ⟨rfl, _⟩ := hc
        obtain ⟨_, _, r3⟩ := inv.rows b s g lo xs hb
        have := r3 hr
        subst this
        exact ⟨[], fun _ _ => by simp [Builtin.firstCells], by simpa using RepL.nil⟩
      · cases h
    · cases h
  · rename_i b g off len sz blk cap c e fz hid hr hl hbk hcc
    split at h
    · rename_i s g' lo xs hb
      split at h
      · rename_i hc
        cases h
        obtain ⟨rfl, hle⟩ := hc
        obtain ⟨_, r2, _⟩ := inv.rows b s g lo xs hb
        obtain ⟨c', e', fz', q1, q2, q3, q4⟩ := r2 blk hr
        rw [hbk] at q1
        cases q1
        have hss : s = sz := by
          obtain ⟨k2, p1, _, p2⟩ := hid
          rw [hb] at p1; cases p1; simpa using p2
        subst hss
        have hlen : ((xs.drop off).take len).length = len := by rw [List.length_take, List.length_drop]; omega
        have := run_loadRep (P := P) (G := G) (blk := blk) (base := off * s) (cs := ((xs.drop off).take len).flatMap AV.cells) fun j y hj => by
          obtain ⟨i, k, x, h1, h2, rfl, h4⟩ := flat_get hs hj
          have hi : i < len := by
            rcases Nat.lt_or_ge i len with h | h
            · exact h
            · rw [List.getElem?_eq_none (by omega)] at h1; cases h1
          have h1' := h1
          rw [List.getElem?_take_of_lt hi, List.getElem?_drop] at h1
          obtain ⟨p1, p2⟩ := q3 (off + i) x h1
          have hsz : s = esz := by rw [← p1]; exact hs x (List.mem_of_getElem? h1')
          subst hsz
          obtain ⟨u, h5, h6⟩ := p2 k y h2
          refine ⟨u, ?_, h6⟩
          rw [show off * s + (i * s + k) = (off + i) * s + k by rw [Nat.add_mul]; omega]
          simp [World.cell?, hbk, h5]
        rw [hfl, hlen] at this
        rw [hlen]
        by_cases hsz : len = 0
        · subst hsz
          simpa [Builtin.firstCells] using this
        · simpa [Builtin.firstCells] using this
      · cases h
    · cases h
  · rename_i b g off sz blk o cap hid hr ho
    split at h
    · split at h
      · cases h
        exact ⟨[], fun _ _ => by simp [Builtin.firstCells, loadCells, loadCellsFrom], by simpa using RepL.nil⟩
      · cases h
    · cases h

theorem run_lenOf_slice {y : AV} {v : Value} (hy : Rep G y v) {ys : List AV} (h : elemsOf G.σ y = some ys) : (Builtin.lenOf v).run P G.w = .ok ys.length G.w := by
  cases hy <;> simp only [elemsOf] at h <;> try (cases h; done)
  · cases h; rfl
  · cases h; rfl
  · cases h; rfl
  · cases h; rfl
  all_goals
    split at h
    · split at h
      · rename_i hc
        cases h
        simp only [Builtin.lenOf, Sem.run_pure]
        exact congrArg (fun k => Result.ok k G.w) (by rw [List.length_take, List.length_drop]; omega)
      · cases h
    · cases h

theorem size_zeroCells' (z : Array Value) (n : Nat) : (Builtin.zeroCells z n).size = n * z.size := by simp [Builtin.zeroCells]

section
variable {t t2 e : TypeId} {d2 : TypeDesc} {te : TI} {i : TypeInfo} {de : TypeDesc} {z : Value} (Fe : TFacts P e te i de z) (hu : P.underlying t = some (.slice e)) (hu2 : P.underlying t2 = some d2) (hd2 : ∀ k, d2 ≠ .int k)
    (w : World) (base : Option Addr) (sLen sCap m : Nat) (vy : Value) (hlen : (Builtin.lenOf vy).run P w = .ok m w) (ty : TypeId) {l : List Value}
    (hl : ∀ w' : World, w'.heap = w.heap → (Builtin.firstCells te.size m vy).run P w' = .ok l.toArray w')
include Fe hu hu2 hd2 hlen hl

theorem append_room {w2 : World} (hroom : sLen + m ≤ sCap) (hst : ∀ a, base = some a → (storeCells (a.add (sLen * te.size)) l).run P w = .ok () w2) (hn : base = none → w2 = w) :
    (Builtin.append_ #[t, t2] ty #[.slice base sLen sCap, vy]).run P w = .ok (.slice base (sLen + m) sCap) w2 := by
  simp only [Builtin.append_, List.getElem?_toArray, List.getElem?_cons_zero, List.getElem?_cons_succ, Sem.run_bind, run_underlying hu, run_underlying hu2, Result.andThen_ok, Sem.run_pure, Fe.run_size, Bool.false_eq_true, if_false, hlen, Sem.run_ite, Bool.not_false, if_true]
  rw [if_pos hroom, hl w rfl]
  simp only [Result.andThen_ok]
  cases base with
  | none => rw [hn rfl]; rfl
  | some a =>
    simp only [Sem.run_bind, hst a rfl, Result.andThen_ok, Sem.run_pure]

theorem append_grow {old : List Value} (hroom : ¬ sLen + m ≤ sCap) (hb0 : 0 < te.bytes) (hb : (sLen + m) * te.bytes ≤ 140737488355328) (ho : ∀ w' : World, w'.heap = w.heap → (Builtin.firstCells te.size sLen (.slice base sLen sCap)).run P w' = .ok old.toArray w') :
    ∃ cap, sLen + m ≤ cap ∧ (Builtin.append_ #[t, t2] ty #[.slice base sLen sCap, vy]).run P w = .ok (.slice (some ⟨w.heap.size, 0, none⟩) (sLen + m) cap)
      (w.drew.alloc (.cells (old.toArray ++ l.toArray ++ Builtin.zeroCells z.cells (cap - (sLen + m))) e)) := by
  have hib : i.bytes = te.bytes := Fe.bytes.symm
  have h48 := growslice_fits (need := sLen + m) (old := sCap) (bytes := te.bytes) (by omega) hb
  have hnext : ¬ (Builtin.nextslicecap (sLen + m) sCap * i.bytes > 2 ^ 48) := by rw [hib]; omega
  have hbz : ¬ (((sLen + m : Nat) : Int) > IntKind.i64.max ∧ i.bytes = 0) := by rw [hib]; omega
  refine ⟨sLen + m + w.tape w.drawn (.appendCap (sLen + m) sCap e) % (2 ^ 63 - (sLen + m)), by omega, ?_⟩
  simp only [Builtin.append_, List.getElem?_toArray, List.getElem?_cons_zero, List.getElem?_cons_succ, Sem.run_bind, run_underlying hu, run_underlying hu2, Result.andThen_ok, Sem.run_pure, Fe.run_size, Bool.false_eq_true, if_false, hlen, Fe.run_info, run_askRoom, run_choose, Question.forced, Question.cut, Fe.run_zero, Sem.run_ite, Bool.not_false, if_true, false_or, newRow, run_newObj]
  rw [if_neg hroom, if_neg hbz, if_neg hnext, ho { w with drawn := w.drawn + 1 } rfl]
  simp only [Result.andThen_ok]
  rw [hl { w with drawn := w.drawn + 1 } rfl]
  rfl
end

/-- the elements in front, those that come, and zeros: a row in a new block -/
theorem rowAt_grown {xs ys : List AV} {old l : List Value} {sz : Nat} (hx : ∀ x ∈ xs, x.cells.length = sz) (hy : ∀ y ∈ ys, y.cells.length = sz) (ho : RepL G (xs.flatMap AV.cells) old) (hl : RepL G (ys.flatMap AV.cells) l) (zs : Array Value) :
    RowAt G (xs ++ ys) (old.toArray ++ l.toArray ++ zs) sz := by
  have := rowAt_flat (G := G) (xs := xs ++ ys) (l := old ++ l) (sz := sz) (fun x h => by rcases List.mem_append.1 h with h | h; exact hx x h; exact hy x h) (by rw [List.flatMap_append]; exact ho.append hl) zs.toList
  have e : (old.toArray ++ l.toArray ++ zs) = (old ++ l ++ zs.toList).toArray := by simp
  rw [e]; exact this

theorem rep_cells_scal {xs : List AV} {vs : List Value} (h : RepL G xs vs) (hs : xs.all AV.scal = true) : ∀ v ∈ vs, v.oneCell' = true := h.oneCells hs

/-- APPEND, run: what it answers (l: the cells that come; m: how many elements these are) -/
structure AppRun (P : Program) (G : Gh) (t t2 ty : TypeId) (vy : Value) (sz bytes : Nat) (e : TypeId) (m : Nat) (l : List Value) : Prop where
  room : ∀ (base : Option Addr) (sLen sCap : Nat) {w2 : World}, sLen + m ≤ sCap → (∀ a, base = some a → (storeCells (a.add (sLen * sz)) l).run P G.w = .ok () w2) → (base = none → w2 = G.w) →
    (Builtin.append_ #[t, t2] ty #[.slice base sLen sCap, vy]).run P G.w = .ok (.slice base (sLen + m) sCap) w2
  grow : ∀ (base : Option Addr) (sLen sCap : Nat) {old : List Value}, ¬ sLen + m ≤ sCap → 0 < bytes → (sLen + m) * bytes ≤ 140737488355328 → (∀ w' : World, w'.heap = G.w.heap → (Builtin.firstCells sz sLen (.slice base sLen sCap)).run P w' = .ok old.toArray w') →
    ∃ (cap : Nat) (zs : Array Value), sLen + m ≤ cap ∧ zs.size = (cap - (sLen + m)) * sz ∧ (Builtin.append_ #[t, t2] ty #[.slice base sLen sCap, vy]).run P G.w = .ok (.slice (some ⟨G.w.heap.size, 0, none⟩) (sLen + m) cap)
      (G.w.drew.alloc (.cells (old.toArray ++ l.toArray ++ zs) e))

/-- APPEND: what the operation does -/
theorem does_appG (inv : Inv G) {t t2 e : TypeId} {te : TI} {x : AV} {ys : List AV} {vx vy : Value} (hx : Rep G x vx) (ty : TypeId)
    (hA : (∀ y ∈ ys, y.cells.length = te.size) → ∃ l : List Value, RepL G (ys.flatMap AV.cells) l ∧ AppRun P G t t2 ty vy te.size te.bytes e ys.length l)
    {v : AV} {st : Sto} (h : appendTo te.size te.bytes G.σ x ys = some (v, st)) : Does P G (Builtin.append_ #[t, t2] ty #[vx, vy]) v st := by
  cases hx <;> simp only [appendTo] at h <;> try (cases h; done)
  · -- nil
    split at h
    · rename_i hc
      obtain ⟨hb0, hb, hall⟩ := hc
      cases h
      obtain ⟨l, hrl, A⟩ := hA (all_size hall)
      by_cases hy : ys = []
      · subst hy
        have hr := A.room none 0 0 (w2 := G.w) (Nat.le_refl _) (fun a ha => by cases ha) (fun _ => rfl)
        have x := ext_grow (G := G) inv G.w none (.row te.size 0 0 []) rfl rfl rfl (Nat.le_refl _) (fun _ _ => rfl) (fun j hj => by cases hj)
        have iv := inv_grow_row inv G.w none te.size [] x (fun _ _ => rfl) (fun j hj => by cases hj) (fun _ => rfl)
        exact ⟨_, G.grow G.w none (.row te.size 0 0 []), hr, rfl, x, iv, .sr0 (hasId_new G G.w none te.size 0 []) (by simp [Gh.grow])⟩
      · have hm : 0 < ys.length := List.length_pos_iff.2 hy
        obtain ⟨cap, zs, hcap, hzs, hr⟩ := A.grow none 0 0 (old := []) (by omega) hb0 (by simpa using hb) (fun w' _ => by simp [Builtin.firstCells])
        simp only [Nat.zero_add] at hcap hzs hr
        have hrow := rowAt_grown (G := G) (xs := []) (ys := ys) (old := []) (l := l) (sz := te.size) (fun _ h => by cases h) (all_size hall) .nil hrl zs
        have hcs : cap * te.size ≤ (([] : List Value).toArray ++ l.toArray ++ zs).size := by
          have h1 := hrl.length
          rw [flat_len (all_size hall)] at h1
          simp only [Array.size_append, List.size_toArray, List.length_nil, hzs, ← h1]
          rw [Nat.zero_add, ← Nat.add_mul]
          exact Nat.mul_le_mul_right _ (by omega)
        obtain ⟨G', g1, g2, g3, g4, g5⟩ := new_slice (G := G) inv _ ⟨G.w.drew, rfl, rfl, rfl, rfl, rfl⟩ (unfrozen0 _) (by simpa using hrow) hcap hcs
        exact ⟨_, G', by rw [g1]; exact hr, g2, g3, g4, g5⟩
    · cases h
  · -- a row without memory
    rename_i b g sz hid hr0
    split at h
    · rename_i s g' lo xs hb
      split at h
      · rename_i hc
        obtain ⟨hb0, rfl, _, hlo, hle, rfl, hbd, hall⟩ := hc
        cases h
        obtain ⟨l, hrl, A⟩ := hA (all_size hall)
        obtain ⟨_, _, r3⟩ := inv.rows b te.size g lo xs hb
        have hxs := r3 hr0
        subst hxs
        obtain rfl : lo = 0 := by omega
        by_cases hy : ys = []
        · subst hy
          have hr := A.room none 0 0 (w2 := G.w) (Nat.le_refl _) (fun a ha => by cases ha) (fun _ => rfl)
          have x := ext_move (G := G) (ys := ([] : List AV).take 0 ++ []) inv (w := G.w) none hb rfl rfl rfl (Nat.le_refl _) (fun _ _ => rfl) (fun j hj => by cases hj)
          have iv := inv_move inv none hb x (fun _ _ => rfl) (fun j hj => by cases hj) (fun _ => rfl) (Nat.zero_le _)
          exact ⟨_, G.turn G.w b (.row te.size (g + 1) 0 (([] : List AV).take 0 ++ [])) none, hr, rfl, x, iv, .sr0 ⟨_, sto_set_same hb, Nat.le_refl _, rfl⟩ (if_pos ⟨rfl, rfl⟩)⟩
        · have hm : 0 < ys.length := List.length_pos_iff.2 hy
          obtain ⟨cap, zs, hcap, hzs, hr⟩ := A.grow none 0 0 (old := []) (by omega) hb0 hbd (fun w' _ => by simp [Builtin.firstCells])
          have hrow := rowAt_grown (G := G) (xs := []) (ys := ys) (old := []) (l := l) (sz := te.size) (fun _ h => by cases h) (all_size hall) .nil hrl zs
          have hcs : cap * te.size ≤ (([] : List Value).toArray ++ l.toArray ++ zs).size := by
            have h1 := hrl.length
            rw [flat_len (all_size hall)] at h1
            simp only [Array.size_append, List.size_toArray, List.length_nil, hzs, ← h1]
            rw [Nat.zero_add, ← Nat.add_mul]
            exact Nat.mul_le_mul_right _ (by omega)
          have x := ext_move (G := G) (ys := ([] : List AV).take 0 ++ ys) inv (w := G.w.drew.alloc (.cells (([] : List Value).toArray ++ l.toArray ++ zs) e)) (some G.w.heap.size) hb rfl rfl rfl (by rw [World.size_alloc]; exact Nat.le_succ _)
            (fun j hj => heap_alloc_lt _ _ hj) (fun j hj => by cases hj; exact Nat.le_refl _)
          have iv := inv_move inv (some G.w.heap.size) hb x (fun j hj => heap_alloc_lt _ _ hj) (fun j hj => by cases hj; exact ⟨Nat.le_refl _, _, e, (0, 0), heap_alloc_new _ _, unfrozen0 _, by simpa using hrow⟩) (fun h => by cases h) (Nat.zero_le _)
          refine ⟨_, _, hr, rfl, x, iv, ?_⟩
          have := Rep.sr (G := G.turn (G.w.drew.alloc (.cells (([] : List Value).toArray ++ l.toArray ++ zs) e)) b (.row te.size (g + 1) 0 (([] : List AV).take 0 ++ ys)) (some G.w.heap.size)) (off := 0) (len := 0 + ys.length) (cap := cap) (b := b) (g := g + 1)
            ⟨_, sto_set_same hb, Nat.le_refl _, rfl⟩ (blk := G.w.heap.size) (if_pos ⟨rfl, rfl⟩) hcap (heap_alloc_new _ _) (by simpa using hcs)
          simpa using this
      · cases h
    · cases h
  · -- a row in memory
    rename_i b g off len sz blk cap c e0 fz hid hr0 hlc hbk hcc
    split at h
    · rename_i s g' lo xs hb
      split at h
      · rename_i hc
        obtain ⟨hb0, rfl, rfl, hlo, hle, rfl, hbd, hall⟩ := hc
        cases h
        have hsz : sz = te.size := by
          obtain ⟨k2, p1, _, p2⟩ := hid
          rw [hb] at p1; cases p1; simpa using p2.symm
        subst hsz
        obtain ⟨l, hrl, A⟩ := hA (all_size hall)
        obtain ⟨r1, r2, _⟩ := inv.rows b te.size g lo xs hb
        obtain ⟨c', e', fz', q1, q2, q3, q4⟩ := r2 blk hr0
        rw [hbk] at q1
        cases q1
        have hxsz : ∀ x ∈ xs.take len, x.cells.length = te.size := fun x hx => by
          obtain ⟨k, hk⟩ := List.getElem?_of_mem (List.mem_of_mem_take hx)
          exact (q3 k x hk).1
        have hll := hrl.length
        rw [flat_len (all_size hall)] at hll
        have htl : (xs.take len).length = len := by rw [List.length_take]; omega
        by_cases hroom : len + ys.length ≤ cap
        · -- in place
          have hfit : len * te.size + l.length ≤ c.size := by
            rw [← hll, ← Nat.add_mul]
            exact Nat.le_trans (Nat.mul_le_mul_right _ (by omega)) hcc
          have hst := run_storeCells (P := P) l G.w c (len * te.size) 0 hbk q2 (by omega) (hrl.oneCells (all_scal hall))
          rw [Nat.add_zero] at hst
          have hr := A.room (some ⟨blk, 0 * te.size, none⟩) len cap hroom (fun a ha => by
            cases ha
            rw [Addr.add_lit, Nat.zero_mul, Nat.zero_add]
            exact hst) (fun h => by cases h)
          have hcs : ∀ j, (putCells c (len * te.size) l)[j]? = if len * te.size ≤ j ∧ j < len * te.size + l.length then l[j - len * te.size]? else c[j]? := fun j => putCells_get _ _ _ _ hfit
          have hrow : RowAt G (xs.take len ++ ys) (putCells c (len * te.size) l) te.size := by
            intro k y hy
            rcases Nat.lt_or_ge k len with hk | hk
            · rw [List.getElem?_append_left (by omega), List.getElem?_take_of_lt hk] at hy
              obtain ⟨p1, p2⟩ := q3 k y hy
              refine ⟨p1, fun j u hu => ?_⟩
              have hj : j < te.size := by
                rcases Nat.lt_or_ge j te.size with h | h
                · exact h
                · rw [List.getElem?_eq_none (by omega)] at hu; cases hu
              have : (k + 1) * te.size ≤ len * te.size := Nat.mul_le_mul_right _ hk
              rw [Nat.add_mul] at this
              rw [hcs, if_neg (by omega)]
              exact p2 j u hu
            · rw [List.getElem?_append_right (by omega), htl] at hy
              have hys := all_size hall y (List.mem_of_getElem? hy)
              refine ⟨hys, fun j u hu => ?_⟩
              have hj : j < te.size := by
                rcases Nat.lt_or_ge j te.size with h | h
                · exact h
                · rw [List.getElem?_eq_none (by omega)] at hu; cases hu
              have hkl : k - len < ys.length := by
                rcases Nat.lt_or_ge (k - len) ys.length with h | h
                · exact h
                · rw [List.getElem?_eq_none h] at hy; cases hy
              have e1 : k * te.size = len * te.size + (k - len) * te.size := by rw [← Nat.add_mul]; congr 1; omega
              have e2 : (k - len + 1) * te.size ≤ ys.length * te.size := Nat.mul_le_mul_right _ hkl
              rw [Nat.add_mul] at e2
              rw [hcs, if_pos (by omega), show k * te.size + j - len * te.size = (k - len) * te.size + j by omega]
              have h2 := (rowAt_flat (G := G) (all_size hall) hrl []) (k - len) y hy
              obtain ⟨u', h3, h4⟩ := h2.2 j u hu
              exact ⟨u', by simpa using h3, h4⟩
          have hloe : lo * te.size ≤ len * te.size := Nat.mul_le_mul_right _ hlo
          have x := ext_put (G := G) (ys := xs.take len ++ ys) inv hb hr0 hbk rfl (putCells_size l c (len * te.size)) (fun o ho => by rw [hcs, if_neg (by omega)]) (g2 := g + 1) (Nat.le_succ g)
          have iv := inv_put (G := G) inv hb hr0 hbk rfl (putCells_size l c (len * te.size)) x hrow (by rw [List.length_append, htl]; omega)
          refine ⟨_, _, hr, rfl, x, iv, ?_⟩
          have hlt := (Array.getElem?_eq_some_iff.1 hbk).1
          exact Rep.sr (off := 0) (len := len + ys.length) (cap := cap) ⟨_, sto_set_same hb, Nat.le_refl _, rfl⟩ (blk := blk) (if_pos ⟨rfl, rfl⟩) hroom (by show (G.w.heap.setIfInBounds blk _)[blk]? = _; rw [Array.getElem?_setIfInBounds_self, if_pos hlt]) (by rw [putCells_size]; exact hcc)
        · -- a new block
          have hold : ∃ old : List Value, (∀ w' : World, w'.heap = G.w.heap → (Builtin.firstCells te.size len (.slice (some ⟨blk, 0 * te.size, none⟩) len cap)).run P w' = .ok old.toArray w') ∧ RepL G ((xs.take len).flatMap AV.cells) old := by
            have hc2 : ∀ j y, ((xs.take len).flatMap AV.cells)[j]? = some y → ∃ u, c[j]? = some u ∧ Rep G y u := fun j y hj => by
              obtain ⟨i, k, x, h1, h2, rfl, h4⟩ := flat_get hxsz hj
              have hi : i < len := by
                rcases Nat.lt_or_ge i len with h | h
                · exact h
                · rw [List.getElem?_eq_none (by omega)] at h1; cases h1
              rw [List.getElem?_take_of_lt hi] at h1
              exact (q3 i x h1).2 k y h2
            obtain ⟨old, h0⟩ : ∃ old : List Value, old.length = len * te.size ∧ ∀ j, j < len * te.size → ∃ y u, ((xs.take len).flatMap AV.cells)[j]? = some y ∧ c[j]? = some u ∧ old[j]? = some u ∧ Rep G y u := by
              have hex : ∀ j : Nat, ∃ u, ∀ y, ((xs.take len).flatMap AV.cells)[j]? = some y → c[j]? = some u ∧ Rep G y u := fun j => by
                cases hj : ((xs.take len).flatMap AV.cells)[j]? with
                | none => exact ⟨undef, fun y hy => by cases hy⟩
                | some y =>
                  obtain ⟨u, h⟩ := hc2 j y hj
                  exact ⟨u, fun y' hy' => by cases hy'; exact h⟩
              obtain ⟨f, hf⟩ := Classical.axiomOfChoice hex
              refine ⟨(List.range (len * te.size)).map f, by simp, fun j hj => ?_⟩
              have hfl := flat_len hxsz
              rw [htl] at hfl
              obtain ⟨h1, h2⟩ := hf j _ (List.getElem?_eq_getElem (by omega))
              exact ⟨_, _, List.getElem?_eq_getElem (by omega), h1, by rw [List.getElem?_map, List.getElem?_range hj]; rfl, h2⟩
            refine ⟨old, fun w' hw' => ?_, ?_⟩
            · have := run_loadCells_list (P := P) w' ⟨blk, 0, none⟩ old fun j v hj => by
                have hj2 : j < len * te.size := by
                  rcases Nat.lt_or_ge j (len * te.size) with h | h
                  · exact h
                  · rw [List.getElem?_eq_none (by omega)] at hj; cases hj
                obtain ⟨y, u, _, h2, h3, _⟩ := h0.2 j hj2
                rw [hj] at h3; cases h3
                rw [Addr.add_lit, Nat.zero_add]
                simp [World.cell?, hw', hbk, h2]
              rw [h0.1] at this
              simpa [Builtin.firstCells] using this
            · have hfl := flat_len hxsz
              rw [htl] at hfl
              refine RepL.of_get (by omega) fun j y u hy hu => ?_
              obtain ⟨y', u', h1, _, h3, h4⟩ := h0.2 j (by
                rcases Nat.lt_or_ge j (len * te.size) with h | h
                · exact h
                · rw [List.getElem?_eq_none (by omega)] at hu; cases hu)
              rw [hy] at h1; cases h1
              rw [hu] at h3; cases h3
              exact h4
          obtain ⟨old, ho, hro⟩ := hold
          obtain ⟨ncap, zs, hcap, hzs, hr⟩ := A.grow (some ⟨blk, 0 * te.size, none⟩) len cap (old := old) hroom hb0 hbd ho
          have hrow := rowAt_grown (G := G) (xs := xs.take len) (ys := ys) (old := old) (l := l) (sz := te.size) hxsz (all_size hall) hro hrl zs
          have hcs : ncap * te.size ≤ (old.toArray ++ l.toArray ++ zs).size := by
            have h1 := hro.length
            rw [flat_len hxsz, htl] at h1
            simp only [Array.size_append, List.size_toArray, hzs, ← hll, ← h1]
            rw [← Nat.add_mul, ← Nat.add_mul]
            exact Nat.mul_le_mul_right _ (by omega)
          have x := ext_move (G := G) (ys := xs.take len ++ ys) inv (w := G.w.drew.alloc (.cells (old.toArray ++ l.toArray ++ zs) e)) (some G.w.heap.size) hb rfl rfl rfl (by rw [World.size_alloc]; exact Nat.le_succ _)
            (fun j hj => heap_alloc_lt _ _ hj) (fun j hj => by cases hj; exact Nat.le_refl _)
          have iv := inv_move inv (some G.w.heap.size) hb x (fun j hj => heap_alloc_lt _ _ hj) (fun j hj => by cases hj; exact ⟨Nat.le_refl _, _, e, (0, 0), heap_alloc_new _ _, unfrozen0 _, hrow⟩) (fun h => by cases h) (by rw [List.length_append, htl]; omega)
          refine ⟨_, _, hr, rfl, x, iv, ?_⟩
          have := Rep.sr (G := G.turn (G.w.drew.alloc (.cells (old.toArray ++ l.toArray ++ zs) e)) b (.row te.size (g + 1) lo (xs.take len ++ ys)) (some G.w.heap.size)) (off := 0) (len := len + ys.length) (cap := ncap) (b := b) (g := g + 1)
            ⟨_, sto_set_same hb, Nat.le_refl _, rfl⟩ (blk := G.w.heap.size) (if_pos ⟨rfl, rfl⟩) hcap (heap_alloc_new _ _) (by simpa using hcs)
          simpa using this
      · cases h
    · cases h
  · rename_i ho
    split at h
    · split at h
      · rename_i hc
        exact absurd hc.2.2.1 ho
      · cases h
    · cases h

/-- APPEND of a slice or a text: 'hsrc': how what comes is read -/
theorem does_append (inv : Inv G) {t t2 e : TypeId} {ti ti2 te : TI} (ht : tiOf P t = some ti) (hd : ti.d = .slice e) (he : tiOf P e = some te) (ht2 : tiOf P t2 = some ti2) (hd2 : ∀ k, ti2.d ≠ .int k)
    {x : AV} {ys : List AV} {vx vy : Value} (hx : Rep G x vx) (hlen : (Builtin.lenOf vy).run P G.w = .ok ys.length G.w)
    (hsrc : (∀ y ∈ ys, y.cells.length = te.size) → ∃ l : List Value, (∀ w' : World, w'.heap = G.w.heap → (Builtin.firstCells te.size ys.length vy).run P w' = .ok l.toArray w') ∧ RepL G (ys.flatMap AV.cells) l)
    {v : AV} {st : Sto} (h : appendTo te.size te.bytes G.σ x ys = some (v, st)) (ty : TypeId) : Does P G (Builtin.append_ #[t, t2] ty #[vx, vy]) v st := by
  obtain ⟨it, dt, zt, F⟩ := tiOf_facts ht
  obtain ⟨i, de, z, Fe⟩ := tiOf_facts he
  obtain ⟨i2, d2, z2, F2⟩ := tiOf_facts ht2
  obtain rfl := tdOf_slice (F.d ▸ hd)
  have hd2' : ∀ k, d2 ≠ .int k := fun k hk => hd2 k (by rw [F2.d, hk]; rfl)
  refine does_appG (e := e) inv hx ty (fun hs => ?_) h
  obtain ⟨l, hl, hrl⟩ := hsrc hs
  refine ⟨l, hrl, ⟨fun base sLen sCap w2 hroom hst hn => append_room (P := P) Fe F.und F2.und hd2' G.w base sLen sCap ys.length vy hlen ty hl hroom hst hn, fun base sLen sCap old hroom hb0 hb ho => ?_⟩⟩
  obtain ⟨cap, hcap, hr⟩ := append_grow (P := P) Fe F.und F2.und hd2' G.w base sLen sCap ys.length vy hlen ty hl (old := old) hroom hb0 hb ho
  exact ⟨cap, _, hcap, by rw [size_zeroCells', Fe.zsize, ← Fe.size], hr⟩
end
end Go.Proofs.YtgpkochbmfhmdaaGreatDoor.Lift
