/-
  LIFT, 4: new blocks, stores into a block, appends: the store's own steps, in memory.
-/
import Derived.Test.YtbjgepnkakcjaaaDoorL3
namespace Go.Proofs.YtbjgepnkakcjaaaDoor.Lift
open Go

theorem RowAt.ext {G H : Gh} (x : Ext G H) {xs : List AV} {c : Array Value} {sz : Nat} (h : RowAt G xs c sz) : RowAt H xs c sz :=
  fun i y hy => ⟨(h i y hy).1, fun j z hz => let ⟨v, h1, h2⟩ := (h i y hy).2 j z hz; ⟨v, h1, h2.ext x⟩⟩

theorem Owned.lt {G : Gh} (inv : Inv G) {blk : Nat} (h : Owned G blk) : blk < G.w.heap.size := by
  obtain ⟨b, k, hk, hr⟩ := h
  cases k with
  | row sz g lo xs =>
    obtain ⟨_, h2, _⟩ := inv.rows b sz g lo xs hk
    obtain ⟨c, e, fz, hb, _⟩ := h2 blk hr
    exact (Array.getElem?_eq_some_iff.1 hb).1
  | map es =>
    obtain ⟨blk', ents, ck, hr', hb, _⟩ := inv.maps b es hk
    simp only [ABlk.gen] at hr
    rw [hr'] at hr
    cases hr
    exact (Array.getElem?_eq_some_iff.1 hb).1

theorem heap_alloc_lt (w : World) (o : Obj) {k : Nat} (h : k < w.heap.size) : (w.alloc o).heap[k]? = w.heap[k]? := by
  simp only [World.alloc, Array.getElem?_push]
  rw [if_neg (by omega)]
theorem heap_alloc_new (w : World) (o : Obj) : (w.alloc o).heap[w.heap.size]? = some o := by
  simp only [World.alloc, Array.getElem?_push]
  rw [if_pos trivial]

theorem sto_append_lt {σ : Sto} {k x : ABlk} {b : Nat} (h : σ[b]? = some x) : (σ ++ [k])[b]? = some x := by
  have hb : b < σ.length := by
    rcases Nat.lt_or_ge b σ.length with h' | h'
    · exact h'
    · simp [List.getElem?_eq_none h'] at h
  rw [List.getElem?_append_left hb, h]
theorem sto_append_cases {σ : Sto} {k x : ABlk} {b : Nat} (h : (σ ++ [k])[b]? = some x) : (b < σ.length ∧ σ[b]? = some x) ∨ (b = σ.length ∧ x = k) := by
  rcases Nat.lt_or_ge b σ.length with h' | h'
  · exact .inl ⟨h', by rwa [List.getElem?_append_left h'] at h⟩
  · rw [List.getElem?_append_right h'] at h
    cases hd : b - σ.length with
    | zero => rw [hd] at h; simp at h; exact .inr ⟨by omega, h.symm⟩
    | succ n => rw [hd] at h; simp at h
theorem sto_lt {σ : Sto} {x : ABlk} {b : Nat} (h : σ[b]? = some x) : b < σ.length := by
  rcases Nat.lt_or_ge b σ.length with h' | h'
  · exact h'
  · simp [List.getElem?_eq_none h'] at h

/-- a new block of the store, in a new block of memory (or, of a row without elements, in none) -/
def Gh.grow (G : Gh) (w : World) (at_ : Option Nat) (k : ABlk) : Gh :=
  ⟨w, G.φ, fun b g => if b = G.σ.length then at_ else G.ρ b g, G.σ ++ [k]⟩

theorem ext_grow {G : Gh} (inv : Inv G) (w : World) (at_ : Option Nat) (k : ABlk)
    (h1 : w.os = G.w.os) (h2 : w.tape = G.w.tape) (h3 : w.output = G.w.output) (h4 : G.w.heap.size ≤ w.heap.size)
    (h5 : ∀ j, j < G.w.heap.size → w.heap[j]? = G.w.heap[j]?) (h6 : ∀ j, at_ = some j → G.w.heap.size ≤ j) : Ext G (G.grow w at_ k) where
  os := h1
  tape := h2
  output := h3
  size := h4
  old := fun blk hb _ => h5 blk hb
  shape := fun blk c e fz h => ⟨c, (h5 blk (Array.getElem?_eq_some_iff.1 h).1).trans h, rfl⟩
  frozen := fun _ _ h => h
  cell := fun b o h => World.cell?_of_block (a := ⟨b, o, none⟩) (h5 b (inv.lt b o h))
  fmap := fun b ents ck h hb => (h5 b (inv.lt b 0 h)).trans hb
  thaw := fun b o h _ => .inl h
  len := by simp [Gh.grow]
  id := fun b k' h => ⟨k', sto_append_lt h, Nat.le_refl _, rfl⟩
  at_ := fun b k' g h _ => by
    have := sto_lt h
    simp only [Gh.grow]
    rw [if_neg (by omega)]
  own := fun blk h => by
    obtain ⟨b, k', hk, hr⟩ := h
    rcases sto_append_cases hk with ⟨hb, hk⟩ | ⟨hb, _⟩
    · simp only [Gh.grow] at hr
      rw [if_neg (by omega)] at hr
      exact .inr ⟨b, k', hk, hr⟩
    · simp only [Gh.grow] at hr
      rw [if_pos hb] at hr
      exact .inl (h6 blk hr)

/-- what holds of the old blocks holds still -/
theorem inv_grow_row {G : Gh} (inv : Inv G) (w : World) (at_ : Option Nat) (sz : Nat) (xs : List AV) (x : Ext G (G.grow w at_ (.row sz 0 0 xs)))
    (h5 : ∀ j, j < G.w.heap.size → w.heap[j]? = G.w.heap[j]?)
    (h6 : ∀ j, at_ = some j → G.w.heap.size ≤ j ∧ ∃ c e fz, w.heap[j]? = some (.cells c e fz) ∧ Unfrozen c.size fz ∧ RowAt G xs c sz) (h7 : at_ = none → xs = []) :
    Inv (G.grow w at_ (.row sz 0 0 xs)) where
  rows := fun b s g lo ys h => by
    rcases sto_append_cases h with ⟨hb, h⟩ | ⟨hb, h⟩
    · obtain ⟨r1, r2, r3⟩ := inv.rows b s g lo ys h
      have hρ : (G.grow w at_ (.row sz 0 0 xs)).ρ b g = G.ρ b g := by simp only [Gh.grow]; rw [if_neg (by omega)]
      refine ⟨r1, fun blk hblk => ?_, fun hn => r3 (hρ ▸ hn)⟩
      obtain ⟨c, e, fz, q1, q2, q3, q4⟩ := r2 blk (hρ ▸ hblk)
      exact ⟨c, e, fz, (h5 blk (Array.getElem?_eq_some_iff.1 q1).1).trans q1, q2, q3.ext x, q4⟩
    · cases h
      have hρ : (G.grow w at_ (.row sz 0 0 xs)).ρ b 0 = at_ := by simp only [Gh.grow]; rw [if_pos hb]
      refine ⟨Nat.zero_le _, fun blk hblk => ?_, fun hn => h7 (hρ ▸ hn)⟩
      obtain ⟨hsz, c, e, fz, q1, q2, q3⟩ := h6 blk (hρ ▸ hblk)
      exact ⟨c, e, fz, q1, q2, q3.ext x, fun o _ hf => by have := inv.lt blk o hf; omega⟩
  maps := fun b es h => by
    rcases sto_append_cases h with ⟨hb, h⟩ | ⟨hb, h⟩
    · obtain ⟨blk, ents, ck, q1, q2, q3, q4⟩ := inv.maps b es h
      have hρ : (G.grow w at_ (.row sz 0 0 xs)).ρ b 0 = G.ρ b 0 := by simp only [Gh.grow]; rw [if_neg (by omega)]
      exact ⟨blk, ents, ck, hρ.trans q1, (h5 blk (Array.getElem?_eq_some_iff.1 q2).1).trans q2, q3.ext x, q4⟩
    · cases h
  inj := fun b b' k k' blk h h' hr hr' => by
    have hlt : ∀ b k blk, G.σ[b]? = some k → G.ρ b k.gen = some blk → blk < G.w.heap.size := fun b k blk h hr => Owned.lt inv ⟨b, k, h, hr⟩
    simp only [Gh.grow] at hr hr'
    rcases sto_append_cases h with ⟨hb, h⟩ | ⟨hb, h⟩ <;> rcases sto_append_cases h' with ⟨hb', h'⟩ | ⟨hb', h'⟩
    · rw [if_neg (by omega)] at hr hr'
      exact inv.inj b b' k k' blk h h' hr hr'
    · rw [if_neg (by omega)] at hr
      rw [if_pos hb'] at hr'
      have := hlt b k blk h hr
      have := (h6 blk hr').1
      omega
    · rw [if_pos hb] at hr
      rw [if_neg (by omega)] at hr'
      have := hlt b' k' blk h' hr'
      have := (h6 blk hr).1
      omega
    · omega
  lt := fun b o h => Nat.lt_of_lt_of_le (inv.lt b o h) x.size

theorem inv_grow_map {G : Gh} (inv : Inv G) (w : World) (j : Nat) (x : Ext G (G.grow w (some j) (.map [])))
    (h5 : ∀ j, j < G.w.heap.size → w.heap[j]? = G.w.heap[j]?) (hj : G.w.heap.size ≤ j) (hm : w.heap[j]? = some (.map #[] 0)) : Inv (G.grow w (some j) (.map [])) where
  rows := fun b s g lo ys h => by
    rcases sto_append_cases h with ⟨hb, h⟩ | ⟨hb, h⟩
    · obtain ⟨r1, r2, r3⟩ := inv.rows b s g lo ys h
      have hρ : (G.grow w (some j) (.map [])).ρ b g = G.ρ b g := by simp only [Gh.grow]; rw [if_neg (by omega)]
      refine ⟨r1, fun blk hblk => ?_, fun hn => r3 (hρ ▸ hn)⟩
      obtain ⟨c, e, fz, q1, q2, q3, q4⟩ := r2 blk (hρ ▸ hblk)
      exact ⟨c, e, fz, (h5 blk (Array.getElem?_eq_some_iff.1 q1).1).trans q1, q2, q3.ext x, q4⟩
    · cases h
  maps := fun b es h => by
    rcases sto_append_cases h with ⟨hb, h⟩ | ⟨hb, h⟩
    · obtain ⟨blk, ents, ck, q1, q2, q3, q4⟩ := inv.maps b es h
      have hρ : (G.grow w (some j) (.map [])).ρ b 0 = G.ρ b 0 := by simp only [Gh.grow]; rw [if_neg (by omega)]
      exact ⟨blk, ents, ck, hρ.trans q1, (h5 blk (Array.getElem?_eq_some_iff.1 q2).1).trans q2, q3.ext x, q4⟩
    · cases h
      exact ⟨j, #[], 0, by simp only [Gh.grow]; rw [if_pos hb], hm, .nil, fun o hf => by have := inv.lt j o hf; omega⟩
  inj := fun b b' k k' blk h h' hr hr' => by
    have hlt : ∀ b k blk, G.σ[b]? = some k → G.ρ b k.gen = some blk → blk < G.w.heap.size := fun b k blk h hr => Owned.lt inv ⟨b, k, h, hr⟩
    simp only [Gh.grow] at hr hr'
    rcases sto_append_cases h with ⟨hb, h⟩ | ⟨hb, h⟩ <;> rcases sto_append_cases h' with ⟨hb', h'⟩ | ⟨hb', h'⟩
    · rw [if_neg (by omega)] at hr hr'
      exact inv.inj b b' k k' blk h h' hr hr'
    · rw [if_neg (by omega)] at hr
      rw [if_pos hb'] at hr'
      have := hlt b k blk h hr
      cases hr'
      omega
    · rw [if_pos hb] at hr
      rw [if_neg (by omega)] at hr'
      have := hlt b' k' blk h' hr'
      cases hr
      omega
    · omega
  lt := fun b o h => Nat.lt_of_lt_of_le (inv.lt b o h) x.size

/-- a block of the store takes another content (its generation may rise; where it lies may turn): the ghost behind it -/
def Gh.turn (G : Gh) (w : World) (b : Nat) (k : ABlk) (at_ : Option Nat) : Gh :=
  ⟨w, G.φ, fun b' g => if b' = b ∧ g = k.gen then at_ else G.ρ b' g, G.σ.set b k⟩

theorem sto_set_other {σ : Sto} {k : ABlk} {b b' : Nat} (h : b' ≠ b) : (σ.set b k)[b']? = σ[b']? := by
  rw [List.getElem?_set_ne (by omega)]
theorem sto_set_same {σ : Sto} {k x : ABlk} {b : Nat} (h : σ[b]? = some x) : (σ.set b k)[b]? = some k := by
  rw [List.getElem?_set_self (sto_lt h)]
theorem sto_set_cases {σ : Sto} {k x : ABlk} {b b' : Nat} (h : (σ.set b k)[b']? = some x) : (b' ≠ b ∧ σ[b']? = some x) ∨ (b' = b ∧ x = k ∧ b < σ.length) := by
  by_cases e : b' = b
  · subst e
    have hl : b' < σ.length := by have := sto_lt h; simpa using this
    rw [List.getElem?_set_self hl] at h
    exact .inr ⟨rfl, (Option.some.inj h).symm, hl⟩
  · exact .inl ⟨e, by rwa [sto_set_other e] at h⟩

/-- a row's elements are stored into, in place: nothing else turns -/
theorem ext_put {G : Gh} (inv : Inv G) {w : World} {b sz g lo : Nat} {xs ys : List AV} {blk : Nat} {c c' : Array Value} {e : TypeId} {fz : Nat × Nat}
    (hb : G.σ[b]? = some (.row sz g lo xs)) (hr : G.ρ b g = some blk) (hc : G.w.heap[blk]? = some (.cells c e fz)) (hw : w = { G.w with heap := G.w.heap.setIfInBounds blk (.cells c' e fz) })
    (hs : c'.size = c.size) (hlo : ∀ o, o < lo * sz → c'[o]? = c[o]?) {g2 : Nat} (hg2 : g ≤ g2) : Ext G (G.turn w b (.row sz g2 lo ys) (some blk)) := by
  have hlt := (Array.getElem?_eq_some_iff.1 hc).1
  have hsame : w.heap[blk]? = some (.cells c' e fz) := by rw [hw]; simp [hlt]
  have hother : ∀ j, j ≠ blk → w.heap[j]? = G.w.heap[j]? := fun j hj => by rw [hw]; simp only; rw [Array.getElem?_setIfInBounds_ne (by omega)]
  have hφ : ∀ o, G.φ blk o → o < lo * sz := fun o ho => by
    obtain ⟨_, r2, _⟩ := inv.rows b sz g lo xs hb
    obtain ⟨_, _, _, _, _, _, q4⟩ := r2 blk hr
    rcases Nat.lt_or_ge o (lo * sz) with h | h
    · exact h
    · exact absurd ho (q4 o h)
  have hρ : ∀ b' g', b' ≠ b → (G.turn w b (.row sz g2 lo ys) (some blk)).ρ b' g' = G.ρ b' g' := fun b' g' hne => if_neg (by rintro ⟨h, _⟩; exact hne h)
  have hρb : (G.turn w b (.row sz g2 lo ys) (some blk)).ρ b g2 = some blk := if_pos ⟨rfl, rfl⟩
  refine { os := by rw [Gh.turn, hw], tape := by rw [Gh.turn, hw], output := by rw [Gh.turn, hw], size := by simp [Gh.turn, hw], old := ?_, shape := ?_, frozen := fun _ _ h => h, cell := ?_, fmap := ?_, thaw := fun _ _ h _ => .inl h, len := by simp [Gh.turn], id := ?_, at_ := ?_, own := ?_ }
  · intro k hk ho
    exact hother k fun e => ho (e ▸ ⟨b, _, hb, hr⟩)
  · intro k d e' fz' hk
    by_cases ek : k = blk
    · subst ek
      rw [hc] at hk
      cases hk
      exact ⟨c', hsame, hs⟩
    · exact ⟨d, (hother k ek).trans hk, rfl⟩
  · intro k o ho
    by_cases ek : k = blk
    · subst ek
      have := hlo o (hφ o ho)
      simp only [Gh.turn, World.cell?, hsame, hc]
      simpa using this
    · exact World.cell?_of_block (a := ⟨k, o, none⟩) (hother k ek)
  · intro k ents ck ho hk
    by_cases ek : k = blk
    · subst ek; rw [hc] at hk; cases hk
    · exact (hother k ek).trans hk
  · intro b' k' hk'
    by_cases eb : b' = b
    · subst eb
      rw [hb] at hk'
      cases hk'
      exact ⟨_, sto_set_same hb, hg2, rfl⟩
    · exact ⟨k', (sto_set_other eb).trans hk', Nat.le_refl _, rfl⟩
  · intro b' k' g' hk' hg'
    show (if b' = b ∧ g' = g2 then some blk else G.ρ b' g') = G.ρ b' g'
    by_cases h : b' = b ∧ g' = g2
    · obtain ⟨rfl, rfl⟩ := h
      rw [hb] at hk'
      cases hk'
      have : g' = g := Nat.le_antisymm hg' hg2
      rw [if_pos ⟨rfl, rfl⟩, this, hr]
    · rw [if_neg h]
  · rintro k ⟨b', k', hk', hr'⟩
    rcases sto_set_cases hk' with ⟨hb', h⟩ | ⟨h1, h2, _⟩
    · rw [hρ _ _ hb'] at hr'
      exact .inr ⟨b', k', h, hr'⟩
    · subst h1 h2
      rw [show (ABlk.row sz g2 lo ys).gen = g2 from rfl, hρb] at hr'
      cases hr'
      exact .inr ⟨b', _, hb, hr⟩

theorem inv_put {G : Gh} (inv : Inv G) {w : World} {b sz g lo : Nat} {xs ys : List AV} {blk : Nat} {c c' : Array Value} {e : TypeId} {fz : Nat × Nat} {g2 : Nat}
    (hb : G.σ[b]? = some (.row sz g lo xs)) (hr : G.ρ b g = some blk) (hc : G.w.heap[blk]? = some (.cells c e fz)) (hw : w = { G.w with heap := G.w.heap.setIfInBounds blk (.cells c' e fz) })
    (hs : c'.size = c.size) (x : Ext G (G.turn w b (.row sz g2 lo ys) (some blk))) (hrow : RowAt G ys c' sz) (hlen : lo ≤ ys.length) : Inv (G.turn w b (.row sz g2 lo ys) (some blk)) := by
  have hlt := (Array.getElem?_eq_some_iff.1 hc).1
  have hsame : w.heap[blk]? = some (.cells c' e fz) := by rw [hw]; simp [hlt]
  have hother : ∀ j, j ≠ blk → w.heap[j]? = G.w.heap[j]? := fun j hj => by rw [hw]; simp only; rw [Array.getElem?_setIfInBounds_ne (by omega)]
  have hρ : ∀ b' g', b' ≠ b → (G.turn w b (.row sz g2 lo ys) (some blk)).ρ b' g' = G.ρ b' g' := fun b' g' hne => if_neg (by rintro ⟨h, _⟩; exact hne h)
  have hρb : (G.turn w b (.row sz g2 lo ys) (some blk)).ρ b g2 = some blk := if_pos ⟨rfl, rfl⟩
  have hne : ∀ b' k' blk', b' ≠ b → G.σ[b']? = some k' → G.ρ b' k'.gen = some blk' → blk' ≠ blk := fun b' k' blk' hne hk' hr' e => hne (inv.inj b' b k' _ blk hk' hb (e ▸ hr') hr)
  refine { rows := ?_, maps := ?_, inj := ?_, lt := fun k o h => Nat.lt_of_lt_of_le (inv.lt k o h) x.size }
  · intro b' s g' lo' zs hk'
    rcases sto_set_cases hk' with ⟨hb', hk'⟩ | ⟨h1, h2, _⟩
    · obtain ⟨r1, r2, r3⟩ := inv.rows b' s g' lo' zs hk'
      refine ⟨r1, fun blk' hblk => ?_, fun hn => r3 ((hρ _ _ hb').symm.trans hn)⟩
      rw [hρ _ _ hb'] at hblk
      obtain ⟨d, e', fz', q1, q2, q3, q4⟩ := r2 blk' hblk
      exact ⟨d, e', fz', (hother blk' (hne b' _ blk' hb' hk' hblk)).trans q1, q2, q3.ext x, q4⟩
    · cases h2
      subst h1
      obtain ⟨r1, r2, r3⟩ := inv.rows b' sz g lo xs hb
      obtain ⟨d, e', fz', q1, q2, q3, q4⟩ := r2 blk hr
      refine ⟨hlen, fun blk' hblk => ?_, fun hn => by rw [hρb] at hn; cases hn⟩
      rw [hρb] at hblk
      cases hblk
      rw [hc] at q1
      cases q1
      exact ⟨c', e, fz, hsame, by rw [hs]; exact q2, hrow.ext x, q4⟩
  · intro b' es hk'
    rcases sto_set_cases hk' with ⟨hb', hk'⟩ | ⟨h1, h2, _⟩
    · obtain ⟨blk', ents, ck, q1, q2, q3, q4⟩ := inv.maps b' es hk'
      exact ⟨blk', ents, ck, (hρ _ _ hb').trans q1, (hother blk' (hne b' _ blk' hb' hk' q1)).trans q2, q3.ext x, q4⟩
    · cases h2
  · intro b1 b2 k1 k2 bk h1 h2 hr1 hr2
    rcases sto_set_cases h1 with ⟨e1, q1⟩ | ⟨e1, f1, _⟩ <;> rcases sto_set_cases h2 with ⟨e2, q2⟩ | ⟨e2, f2, _⟩
    · rw [hρ _ _ e1] at hr1
      rw [hρ _ _ e2] at hr2
      exact inv.inj b1 b2 k1 k2 bk q1 q2 hr1 hr2
    · rw [hρ _ _ e1] at hr1
      subst e2 f2
      rw [show (ABlk.row sz g2 lo ys).gen = g2 from rfl, hρb] at hr2
      cases hr2
      exact inv.inj b1 b2 k1 _ blk q1 hb hr1 hr
    · rw [hρ _ _ e2] at hr2
      subst e1 f1
      rw [show (ABlk.row sz g2 lo ys).gen = g2 from rfl, hρb] at hr1
      cases hr1
      exact inv.inj b1 b2 _ k2 blk hb q2 hr hr2
    · omega

/-- a row lies in a new block from now on (an append that grew), with a generation more -/
theorem ext_move {G : Gh} (inv : Inv G) {w : World} {b sz g lo : Nat} {xs ys : List AV} (at_ : Option Nat)
    (hb : G.σ[b]? = some (.row sz g lo xs))
    (h1 : w.os = G.w.os) (h2 : w.tape = G.w.tape) (h3 : w.output = G.w.output) (h4 : G.w.heap.size ≤ w.heap.size)
    (h5 : ∀ j, j < G.w.heap.size → w.heap[j]? = G.w.heap[j]?) (h6 : ∀ j, at_ = some j → G.w.heap.size ≤ j) : Ext G (G.turn w b (.row sz (g + 1) lo ys) at_) where
  os := h1
  tape := h2
  output := h3
  size := h4
  old := fun blk hb _ => h5 blk hb
  shape := fun blk c e fz h => ⟨c, (h5 blk (Array.getElem?_eq_some_iff.1 h).1).trans h, rfl⟩
  frozen := fun _ _ h => h
  cell := fun b o h => World.cell?_of_block (a := ⟨b, o, none⟩) (h5 b (inv.lt b o h))
  fmap := fun b ents ck h hb => (h5 b (inv.lt b 0 h)).trans hb
  thaw := fun b o h _ => .inl h
  len := by simp [Gh.turn]
  id := fun b' k' h => by
    by_cases eb : b' = b
    · subst eb
      rw [hb] at h
      cases h
      exact ⟨_, sto_set_same hb, by simp [ABlk.gen], rfl⟩
    · exact ⟨k', (sto_set_other eb).trans h, Nat.le_refl _, rfl⟩
  at_ := fun b' k' g' h hg => by
    show (if b' = b ∧ g' = g + 1 then at_ else G.ρ b' g') = G.ρ b' g'
    by_cases hh : b' = b ∧ g' = g + 1
    · obtain ⟨rfl, rfl⟩ := hh
      rw [hb] at h
      cases h
      simp only [ABlk.gen] at hg
      omega
    · rw [if_neg hh]
  own := fun blk h => by
    obtain ⟨b', k', hk, hr⟩ := h
    replace hr : (if b' = b ∧ k'.gen = g + 1 then at_ else G.ρ b' k'.gen) = some blk := hr
    rcases sto_set_cases hk with ⟨hb', hk⟩ | ⟨h1, h2, _⟩
    · rw [if_neg (by rintro ⟨h, _⟩; exact hb' h)] at hr
      exact .inr ⟨b', k', hk, hr⟩
    · subst h1 h2
      rw [if_pos ⟨rfl, rfl⟩] at hr
      exact .inl (h6 blk hr)

theorem inv_move {G : Gh} (inv : Inv G) {w : World} {b sz g lo : Nat} {xs ys : List AV} (at_ : Option Nat)
    (hb : G.σ[b]? = some (.row sz g lo xs)) (x : Ext G (G.turn w b (.row sz (g + 1) lo ys) at_))
    (h5 : ∀ j, j < G.w.heap.size → w.heap[j]? = G.w.heap[j]?)
    (h6 : ∀ j, at_ = some j → G.w.heap.size ≤ j ∧ ∃ c e fz, w.heap[j]? = some (.cells c e fz) ∧ Unfrozen c.size fz ∧ RowAt G ys c sz) (h7 : at_ = none → ys = []) (hlen : lo ≤ ys.length) :
    Inv (G.turn w b (.row sz (g + 1) lo ys) at_) where
  rows := fun b' s g' lo' zs hk' => by
    rcases sto_set_cases hk' with ⟨hb', hk'⟩ | ⟨h1, h2, _⟩
    · obtain ⟨r1, r2, r3⟩ := inv.rows b' s g' lo' zs hk'
      have hρ : (G.turn w b (.row sz (g + 1) lo ys) at_).ρ b' g' = G.ρ b' g' := if_neg (by rintro ⟨h, _⟩; exact hb' h)
      refine ⟨r1, fun blk hblk => ?_, fun hn => r3 (hρ ▸ hn)⟩
      obtain ⟨c, e, fz, q1, q2, q3, q4⟩ := r2 blk (hρ ▸ hblk)
      exact ⟨c, e, fz, (h5 blk (Array.getElem?_eq_some_iff.1 q1).1).trans q1, q2, q3.ext x, q4⟩
    · cases h2
      have hρ : (G.turn w b (.row sz (g + 1) lo ys) at_).ρ b' (g + 1) = at_ := if_pos ⟨h1, rfl⟩
      refine ⟨hlen, fun blk hblk => ?_, fun hn => h7 (hρ ▸ hn)⟩
      obtain ⟨hsz, c, e, fz, q1, q2, q3⟩ := h6 blk (hρ ▸ hblk)
      exact ⟨c, e, fz, q1, q2, q3.ext x, fun o _ hf => by have := inv.lt blk o hf; omega⟩
  maps := fun b' es hk' => by
    rcases sto_set_cases hk' with ⟨hb', hk'⟩ | ⟨h1, h2, _⟩
    · obtain ⟨blk, ents, ck, q1, q2, q3, q4⟩ := inv.maps b' es hk'
      have hρ : (G.turn w b (.row sz (g + 1) lo ys) at_).ρ b' 0 = G.ρ b' 0 := if_neg (by rintro ⟨h, _⟩; exact hb' h)
      exact ⟨blk, ents, ck, hρ.trans q1, (h5 blk (Array.getElem?_eq_some_iff.1 q2).1).trans q2, q3.ext x, q4⟩
    · cases h2
  inj := fun b1 b2 k1 k2 bk h1 h2 hr1 hr2 => by
    have hlt : ∀ b k blk, G.σ[b]? = some k → G.ρ b k.gen = some blk → blk < G.w.heap.size := fun b k blk h hr => Owned.lt inv ⟨b, k, h, hr⟩
    replace hr1 : (if b1 = b ∧ k1.gen = g + 1 then at_ else G.ρ b1 k1.gen) = some bk := hr1
    replace hr2 : (if b2 = b ∧ k2.gen = g + 1 then at_ else G.ρ b2 k2.gen) = some bk := hr2
    rcases sto_set_cases h1 with ⟨e1, h1⟩ | ⟨e1, f1, _⟩ <;> rcases sto_set_cases h2 with ⟨e2, h2⟩ | ⟨e2, f2, _⟩
    · rw [if_neg (by rintro ⟨h, _⟩; exact e1 h)] at hr1
      rw [if_neg (by rintro ⟨h, _⟩; exact e2 h)] at hr2
      exact inv.inj b1 b2 k1 k2 bk h1 h2 hr1 hr2
    · rw [if_neg (by rintro ⟨h, _⟩; exact e1 h)] at hr1
      rw [if_pos ⟨e2, by rw [f2]; rfl⟩] at hr2
      have := hlt b1 k1 bk h1 hr1
      have := (h6 bk hr2).1
      omega
    · rw [if_pos ⟨e1, by rw [f1]; rfl⟩] at hr1
      rw [if_neg (by rintro ⟨h, _⟩; exact e2 h)] at hr2
      have := hlt b2 k2 bk h2 hr2
      have := (h6 bk hr1).1
      omega
    · omega
  lt := fun b o h => Nat.lt_of_lt_of_le (inv.lt b o h) x.size
end Go.Proofs.YtbjgepnkakcjaaaDoor.Lift
