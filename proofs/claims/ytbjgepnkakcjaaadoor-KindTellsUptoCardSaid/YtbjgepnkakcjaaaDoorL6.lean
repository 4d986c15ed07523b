/-
  LIFT, 6: operations that make memory; and those that do not touch it.
-/
import Derived.Test.YtbjgepnkakcjaaaDoorL5
import Derived.Laws.Append
namespace Go.Proofs.YtbjgepnkakcjaaaDoor.Lift
open Go

/-- an operation comes to an abstract value and store -/
def Does (P : Program) (G : Gh) (x : Sem Value) (v : AV) (st : Sto) : Prop := ∃ r G', x.run P G.w = .ok r G'.w ∧ G'.σ = st ∧ Ext G G' ∧ Inv G' ∧ Rep G' v r

theorem does_pure {P : Program} {G : Gh} (inv : Inv G) {x : Sem Value} {v : AV} {r : Value} (h : x.run P G.w = .ok r G.w) (hr : Rep G v r) : Does P G x v G.σ :=
  ⟨r, G, h, rfl, Ext.refl G, inv, hr⟩

theorem unfrozen0 (n : Nat) : Unfrozen n (0, 0) := fun o _ => by simp

theorem hasId_new (G : Gh) (w : World) (at_ : Option Nat) (sz lo : Nat) (xs : List AV) : HasId (G.grow w at_ (.row sz 0 lo xs)) G.σ.length 0 (some sz) :=
  ⟨.row sz 0 lo xs, by simp [Gh.grow], Nat.le_refl _, rfl⟩

/-- a new row in new memory -/
theorem new_row {G : Gh} (inv : Inv G) (w : World) {sz : Nat} {xs : List AV} {c : Array Value} {e : TypeId} {fz : Nat × Nat} (hw : ∃ w1 : World, w1.heap = G.w.heap ∧ w1.os = G.w.os ∧ w1.tape = G.w.tape ∧ w1.output = G.w.output ∧
      w = w1.alloc (.cells c e fz))
    (hf : Unfrozen c.size fz) (hrow : RowAt G xs c sz) :
    Ext G (G.grow w (some G.w.heap.size) (.row sz 0 0 xs)) ∧ Inv (G.grow w (some G.w.heap.size) (.row sz 0 0 xs)) := by
  obtain ⟨w1, h1, h2, h3, h4, rfl⟩ := hw
  have h5 : ∀ j, j < G.w.heap.size → (w1.alloc (.cells c e fz)).heap[j]? = G.w.heap[j]? := fun j hj => by rw [heap_alloc_lt _ _ (by rw [h1]; exact hj), h1]
  have x := ext_grow inv (w1.alloc (.cells c e fz)) (some G.w.heap.size) (.row sz 0 0 xs) h2 h3 h4 (by rw [World.size_alloc, h1]; omega) h5 (fun j hj => by cases hj; omega)
  exact ⟨x, inv_grow_row inv _ _ sz xs x h5 (fun j hj => by
    cases hj
    exact ⟨Nat.le_refl _, c, e, fz, by rw [← h1]; exact heap_alloc_new _ _, hf, hrow⟩) (fun h => by cases h)⟩

theorem does_alloc_one {P : Program} {G : Gh} (inv : Inv G) (x : AV) (sz : Nat) (c : Array Value) (e : TypeId) (hx : x.cells.length = sz) (hc : RepL G x.cells c.toList) :
    ∃ G', G'.w = G.w.alloc (.cells c e) ∧ G'.σ = G.σ ++ [.row sz 0 0 [x]] ∧ Ext G G' ∧ Inv G' ∧ Rep G' (.ptr G.σ.length 0 0 0) (.pointer (some ⟨G.w.heap.size, 0, none⟩)) := by
  have hrow : RowAt G [x] c sz := fun i y hy => by
    cases i with
    | zero =>
      simp only [List.getElem?_cons_zero] at hy
      cases hy
      refine ⟨hx, fun j z hz => ?_⟩
      obtain ⟨u, h1, h2⟩ := hc.get hz
      exact ⟨u, by simpa using h1, h2⟩
    | succ i => simp at hy
  obtain ⟨x1, iv⟩ := new_row inv (G.w.alloc (.cells c e)) ⟨G.w, rfl, rfl, rfl, rfl, rfl⟩ (unfrozen0 _) hrow
  refine ⟨_, rfl, rfl, x1, iv, ?_⟩
  have := Rep.ptr (i := 0) (off := 0) (hasId_new G (G.w.alloc (.cells c e)) (some G.w.heap.size) sz 0 [x]) (blk := G.w.heap.size) (by simp [Gh.grow])
  simpa using this

theorem run_alloc {P : Program} {G : Gh} (inv : Inv G) {t : TypeId} {ti : TI} (ht : tiOf P t = some ti) :
    Does P G (Instr.alloc t true (.tuple #[])) (.ptr G.σ.length 0 0 0) (G.σ ++ [.row ti.size 0 0 [mkv ti.agg ti.zero]]) := by
  obtain ⟨i, d, z, F⟩ := tiOf_facts ht
  have hz := F.rep_zero G
  have hcells : (mkv ti.agg ti.zero).cells = ti.zero := by
    rw [F.zero_mkv]
    split
    · rfl
    · rename_i ha
      have hzz := F.zagg
      rw [← F.agg] at hzz
      have ha' : isAggV z = false := by rw [hzz]; simpa using ha
      have hv : ti.zero = [ofConst z] := by rw [F.zs]; cases z <;> simp_all [isAggV, Value.cells]
      rw [hv]
      have hok := F.okz
      cases z <;> simp_all [isAggV, Value.cells]
      all_goals (first | rfl | (rename_i a; cases a <;> first | rfl | simp_all) | skip)
      rename_i a n c
      cases a <;> cases n <;> cases c <;> simp_all
  obtain ⟨G', h1, h2, h3, h4, h5⟩ := does_alloc_one (P := P) inv (mkv ti.agg ti.zero) ti.size z.cells t (by rw [hcells]; exact F.zero_len) (by rw [hcells]; exact hz)
  exact ⟨_, G', by simp [Instr.alloc, F.run_zero, newVar, newRow, h1], h2, h3, h4, h5⟩

theorem run_box {P : Program} {G : Gh} (inv : Inv G) (t : TypeId) {x : AV} {v : Value} (hx : Rep G x v) (hw : x.whole = true) :
    Does P G (Instr.box t v) (.ptr G.σ.length 0 0 0) (G.σ ++ [.row x.cells.length 0 0 [x]]) := by
  obtain ⟨G', h1, h2, h3, h4, h5⟩ := does_alloc_one (P := P) inv x x.cells.length v.cells t rfl (hx.cells (whole_ne_undef hw))
  exact ⟨_, G', by simp [Instr.box, newVar, newRow, h1], h2, h3, h4, h5⟩

/-- a new slice over a new row (nothing spare, or some) -/
theorem new_slice {G : Gh} (inv : Inv G) (w : World) {sz : Nat} {xs : List AV} {c : Array Value} {e : TypeId} {fz : Nat × Nat} {cap : Nat} (hw : ∃ w1 : World, w1.heap = G.w.heap ∧ w1.os = G.w.os ∧ w1.tape = G.w.tape ∧ w1.output = G.w.output ∧
      w = w1.alloc (.cells c e fz))
    (hf : Unfrozen c.size fz) (hrow : RowAt G xs c sz) (hl : xs.length ≤ cap) (hcap : cap * sz ≤ c.size) :
    ∃ G', G'.w = w ∧ G'.σ = G.σ ++ [.row sz 0 0 xs] ∧ Ext G G' ∧ Inv G' ∧ Rep G' (.sr G.σ.length 0 0 xs.length) (.slice (some ⟨G.w.heap.size, 0, none⟩) xs.length cap) := by
  obtain ⟨x1, iv⟩ := new_row inv w hw hf hrow
  refine ⟨_, rfl, rfl, x1, iv, ?_⟩
  obtain ⟨w1, h1, _, _, _, rfl⟩ := hw
  have := Rep.sr (G := G.grow (w1.alloc (.cells c e fz)) (some G.w.heap.size) (.row sz 0 0 xs)) (off := 0) (cap := cap) (hasId_new G _ (some G.w.heap.size) sz 0 xs) (blk := G.w.heap.size) (by simp [Gh.grow]) hl
    (by show (w1.alloc (.cells c e fz)).heap[G.w.heap.size]? = _; rw [← h1]; exact heap_alloc_new _ _) (by simpa using hcap)
  simpa using this

/-- the elements of a list, laid one behind the other -/
theorem rowAt_flat {G : Gh} {sz : Nat} : ∀ {xs : List AV} {l : List Value}, (∀ x ∈ xs, x.cells.length = sz) → RepL G (xs.flatMap AV.cells) l → ∀ (r : List Value), RowAt G xs (l ++ r).toArray sz
  | [], _, _, _, _ => fun i x hx => by simp at hx
  | x :: xs, l, hs, h, r => by
    rw [List.flatMap_cons] at h
    have hx := hs x List.mem_cons_self
    have h2 : RepL G (xs.flatMap AV.cells) (l.drop sz) := RepL.of_get (by rw [List.length_drop, ← h.length, List.length_append]; omega) fun i y u hy hu => by
      rw [List.getElem?_drop] at hu
      obtain ⟨u', h1, h2⟩ := h.get (i := sz + i) (x := y) (by rw [List.getElem?_append_right (by omega)]; rw [hx, Nat.add_sub_cancel_left]; exact hy)
      rw [hu] at h1; cases h1; exact h2
    have ih := rowAt_flat (fun y hy => hs y (List.mem_cons_of_mem _ hy)) h2 r
    have hl : sz ≤ l.length := by rw [← h.length, List.length_append]; omega
    intro i y hy
    cases i with
    | zero =>
      simp only [List.getElem?_cons_zero] at hy
      cases hy
      refine ⟨hx, fun j z hz => ?_⟩
      have hj : j < sz := by
        rcases Nat.lt_or_ge j sz with h | h
        · exact h
        · rw [List.getElem?_eq_none (by omega)] at hz; cases hz
      obtain ⟨u, h1, h2⟩ := h.get (i := j) (x := z) (by rw [List.getElem?_append_left (by omega)]; exact hz)
      exact ⟨u, by rw [List.getElem?_toArray, List.getElem?_append_left (by omega)]; simpa using h1, h2⟩
    | succ i =>
      simp only [List.getElem?_cons_succ] at hy
      obtain ⟨h1, h2⟩ := ih i y hy
      refine ⟨h1, fun j z hz => ?_⟩
      obtain ⟨u, h3, h4⟩ := h2 j z hz
      refine ⟨u, ?_, h4⟩
      rw [List.getElem?_toArray] at h3 ⊢
      rw [← List.drop_append_of_le_length hl, List.getElem?_drop] at h3
      rwa [show (i + 1) * sz + j = sz + (i * sz + j) by rw [Nat.add_mul]; omega]

theorem repL_flat {G : Gh} : ∀ {xs : List AV} {vs : List Value}, RepL G xs vs → (∀ x ∈ xs, x ≠ .undef) → RepL G (xs.flatMap AV.cells) (vs.flatMap fun v => v.cells.toList)
  | [], _, h, _ => by cases h; exact .nil
  | x :: xs, _, h, hn => by
    cases h with
    | cons h t =>
      rw [List.flatMap_cons, List.flatMap_cons]
      exact (h.cells (hn x List.mem_cons_self)).append (repL_flat t fun y hy => hn y (List.mem_cons_of_mem _ hy))

/-! values -/
theorem run_extract {P : Program} {G : Gh} {vs : List AV} {v : AV} {r : Value} {i : Nat} (hx : Rep G (.tup vs) r) (h : vs[i]? = some v) :
    ∃ u, (Instr.extract r i).run P G.w = .ok u G.w ∧ Rep G v u := by
  cases hx with
  | tup hl =>
    obtain ⟨u, h1, h2⟩ := hl.get h
    exact ⟨u, by simp only [Instr.extract, ← Array.getElem?_toList, h1]; rfl, h2⟩

theorem run_part {P : Program} {G : Gh} {t : TypeId} {ti : TI} (ht : tiOf P t = some ti) {cs : List AV} {a : Array Value} {off : Nat} {v : AV} (hl : RepL G cs a.toList) (h : part ti (.agg cs) off = some v) :
    ∃ u, (Go.part t a off).run P G.w = .ok u G.w ∧ Rep G v u := by
  obtain ⟨i, d, z, F⟩ := tiOf_facts ht
  have sub : ∀ n off, off + n ≤ cs.length → RepL G ((cs.drop off).take n) (a.extract off (off + n)).toList := fun n off hn => by
    refine RepL.of_get (by simp [← Array.length_toList, ← hl.length]) fun j y u hy hu => ?_
    have hj : j < n := by
      rcases Nat.lt_or_ge j n with h | h
      · exact h
      · rw [List.getElem?_eq_none (by simp; omega)] at hy; cases hy
    rw [List.getElem?_take_of_lt hj, List.getElem?_drop] at hy
    obtain ⟨u', h1, h2⟩ := hl.get hy
    have : (a.extract off (off + n)).toList[j]? = a.toList[off + j]? := by
      rw [Array.getElem?_toList, Array.getElem?_toList, Array.getElem?_extract, if_pos (by have := hl.length; simp at this; omega)]
    rw [this, h1] at hu
    cases hu
    exact h2
  simp only [part] at h
  simp only [Go.part, Sem.run_bind, F.run_agg, Result.andThen_ok]
  split at h
  · rename_i hw
    cases h
    obtain ⟨rfl, _, ha, hlen⟩ := hw
    have := sub ti.size 0 (by simpa using Nat.le_of_eq hlen.symm)
    rw [List.drop_zero, List.take_of_length_le (by simpa using Nat.le_of_eq hlen)] at this
    exact ⟨.agg (a.extract 0 (0 + ti.size)), by simp only [ha, if_true, Sem.run_bind, F.run_size, Result.andThen_ok, Sem.run_pure], .agg this⟩
  · split at h
    · rename_i ha
      split at h
      · rename_i hle
        cases h
        exact ⟨.agg (a.extract off (off + ti.size)), by simp only [ha, if_true, Sem.run_bind, F.run_size, Result.andThen_ok, Sem.run_pure], .agg (sub ti.size off hle)⟩
      · cases h
    · rename_i ha
      obtain ⟨u, h1, h2⟩ := hl.get h
      rw [Array.getElem?_toList] at h1
      exact ⟨u, by simp only [ha, Bool.false_eq_true, if_false, h1, Sem.run_pure], h2⟩
end Go.Proofs.YtbjgepnkakcjaaaDoor.Lift
