/-
  LIFT, 3: how abstract values and the abstract store lie in the machine's memory; what may change; what stays.
-/
import Derived.Test.YtbjgepnkakcjaaaDoorL2
import Derived.WalkKit
namespace Go.Proofs.YtbjgepnkakcjaaaDoor.Lift
open Go

/-- the ghost of a state: the world, the frozen cells, where the blocks of the store lie (by generation), the store -/
structure Gh where
  w : World
  φ : Nat → Nat → Prop
  ρ : Nat → Nat → Option Nat
  σ : Sto

/-- a block's name and generation that there is -/
def HasId (G : Gh) (b g : Nat) (sz : Option Nat) : Prop := ∃ k, G.σ[b]? = some k ∧ g ≤ k.gen ∧ k.sz = sz

def Unfrozen (n : Nat) (fz : Nat × Nat) : Prop := ∀ o, o < n → (fz.1 ≤ o && o < fz.2) = false

mutual
inductive Rep (G : Gh) : AV → Value → Prop
  | undef (v : Value) : Rep G .undef v
  | bool (b : Bool) : Rep G (.bool b) (.bool b)
  | int (k : IntKind) (n : Int) : Rep G (.int k n) (.int k n)
  | str (s : ByteArray) : Rep G (.str s.data.toList) (.string s)
  | nilp : Rep G .nilp (.pointer none)
  | ptr {b g i off sz blk : Nat} (h : HasId G b g (some sz)) (hr : G.ρ b g = some blk) : Rep G (.ptr b g i off) (.pointer (some ⟨blk, i * sz + off, none⟩))
  | rp {x : AV} {off blk o : Nat} (h : RepCells G x.cells blk o) : Rep G (.rp x off) (.pointer (some ⟨blk, o + off, none⟩))
  | snil : Rep G .snil (.slice none 0 0)
  | sl0 (a : Option Addr) (cap : Nat) : Rep G (.sl []) (.slice a 0 cap)
  | sl {xs : List AV} {blk o sz cap : Nat} (hl : xs.length ≤ cap) (h : RepElems G xs blk o sz) : Rep G (.sl xs) (.slice (some ⟨blk, o, none⟩) xs.length cap)
  | sr0 {b g sz : Nat} (h : HasId G b g (some sz)) (hr : G.ρ b g = none) : Rep G (.sr b g 0 0) (.slice none 0 0)
  | sr {b g off len sz blk cap : Nat} {c : Array Value} {e : TypeId} {fz : Nat × Nat} (h : HasId G b g (some sz)) (hr : G.ρ b g = some blk) (hl : len ≤ cap)
      (hb : G.w.heap[blk]? = some (.cells c e fz)) (hc : (off + cap) * sz ≤ c.size) : Rep G (.sr b g off len) (.slice (some ⟨blk, off * sz, none⟩) len cap)
  | srE {b g off sz blk o cap : Nat} (h : HasId G b g (some sz)) (hr : G.ρ b g = some blk) (ho : off ≠ 0) : Rep G (.sr b g off 0) (.slice (some ⟨blk, o, none⟩) 0 cap)
  | fn {f : Fn} {first cap : List AV} {a b : Array Value} (h1 : RepL G first a.toList) (h2 : RepL G cap b.toList) : Rep G (.fn f first cap) (.func f a b)
  | nilf : Rep G .nilf .nilFunc
  | nilm : Rep G .nilm (.map none)
  | mv {es : List (AV × AV)} {blk : Nat} {ents : Array MapEntry} {ck : Nat} (hb : G.w.heap[blk]? = some (.map ents ck)) (hf : G.φ blk 0) (h : RepE G es ents.toList) : Rep G (.mv es) (.map (some blk))
  | mv0 : Rep G (.mv []) (.map none)
  | mr {b blk : Nat} (h : HasId G b 0 none) (hr : G.ρ b 0 = some blk) : Rep G (.mr b) (.map (some blk))
  | agg {cs : List AV} {a : Array Value} (h : RepL G cs a.toList) : Rep G (.agg cs) (.agg a)
  | tup {vs : List AV} {a : Array Value} (h : RepL G vs a.toList) : Rep G (.tup vs) (.tuple a)
inductive RepL (G : Gh) : List AV → List Value → Prop
  | nil : RepL G [] []
  | cons {x : AV} {v : Value} {xs : List AV} {vs : List Value} (h : Rep G x v) (t : RepL G xs vs) : RepL G (x :: xs) (v :: vs)
inductive RepCells (G : Gh) : List AV → Nat → Nat → Prop
  | nil (b o : Nat) : RepCells G [] b o
  | cons {x : AV} {v : Value} {xs : List AV} {b o : Nat} (hf : G.φ b o) (hc : G.w.cell? ⟨b, o, none⟩ = some v) (h : Rep G x v) (t : RepCells G xs b (o + 1)) : RepCells G (x :: xs) b o
inductive RepElems (G : Gh) : List AV → Nat → Nat → Nat → Prop
  | nil (b o sz : Nat) : RepElems G [] b o sz
  | cons {x : AV} {xs : List AV} {b o sz : Nat} (hs : x.cells.length = sz) (h : RepCells G x.cells b o) (t : RepElems G xs b (o + sz) sz) : RepElems G (x :: xs) b o sz
inductive RepE (G : Gh) : List (AV × AV) → List MapEntry → Prop
  | nil : RepE G [] []
  | cons {k v : AV} {e : MapEntry} {es : List (AV × AV)} {r : List MapEntry} (hk : isKey k = true) (h1 : Rep G k e.key) (h2 : Rep G v e.val) (t : RepE G es r) : RepE G ((k, v) :: es) (e :: r)
end

/-- a row's elements lie in a block's cells -/
def RowAt (G : Gh) (xs : List AV) (c : Array Value) (sz : Nat) : Prop :=
  ∀ i x, xs[i]? = some x → x.cells.length = sz ∧ ∀ j y, x.cells[j]? = some y → ∃ v, c[i * sz + j]? = some v ∧ Rep G y v

structure Inv (G : Gh) : Prop where
  rows : ∀ (b sz g lo : Nat) (xs : List AV), G.σ[b]? = some (.row sz g lo xs) → lo ≤ xs.length ∧ (∀ blk, G.ρ b g = some blk →
      ∃ c e fz, G.w.heap[blk]? = some (.cells c e fz) ∧ Unfrozen c.size fz ∧ RowAt G xs c sz ∧ (∀ o, lo * sz ≤ o → ¬ G.φ blk o)) ∧ (G.ρ b g = none → xs = [])
  maps : ∀ (b : Nat) (es : List (AV × AV)), G.σ[b]? = some (.map es) → ∃ blk ents ck, G.ρ b 0 = some blk ∧ G.w.heap[blk]? = some (.map ents ck) ∧ RepE G es ents.toList ∧ ∀ o, ¬ G.φ blk o
  inj : ∀ (b b' : Nat) (k k' : ABlk) (blk : Nat), G.σ[b]? = some k → G.σ[b']? = some k' → G.ρ b k.gen = some blk → G.ρ b' k'.gen = some blk → b = b'
  lt : ∀ b o, G.φ b o → b < G.w.heap.size

/-- is a real block one of the store's? -/
def Owned (G : Gh) (blk : Nat) : Prop := ∃ b k, G.σ[b]? = some k ∧ G.ρ b k.gen = some blk

structure Ext (G H : Gh) : Prop where
  os : H.w.os = G.w.os
  tape : H.w.tape = G.w.tape
  output : H.w.output = G.w.output
  size : G.w.heap.size ≤ H.w.heap.size
  old : ∀ blk, blk < G.w.heap.size → ¬ Owned G blk → H.w.heap[blk]? = G.w.heap[blk]?
  shape : ∀ (blk : Nat) (c : Array Value) e fz, G.w.heap[blk]? = some (.cells c e fz) → ∃ c', H.w.heap[blk]? = some (.cells c' e fz) ∧ c'.size = c.size
  frozen : ∀ b o, G.φ b o → H.φ b o
  cell : ∀ b o, G.φ b o → H.w.cell? ⟨b, o, none⟩ = G.w.cell? ⟨b, o, none⟩
  fmap : ∀ (b : Nat) ents ck, G.φ b 0 → G.w.heap[b]? = some (.map ents ck) → H.w.heap[b]? = some (.map ents ck)
  thaw : ∀ b o, H.φ b o → b < G.w.heap.size → G.φ b o ∨ Owned G b
  len : G.σ.length ≤ H.σ.length
  id : ∀ (b : Nat) (k : ABlk), G.σ[b]? = some k → ∃ k' : ABlk, H.σ[b]? = some k' ∧ k.gen ≤ k'.gen ∧ k'.sz = k.sz
  at_ : ∀ (b : Nat) (k : ABlk) (g : Nat), G.σ[b]? = some k → g ≤ k.gen → H.ρ b g = G.ρ b g
  own : ∀ blk, Owned H blk → G.w.heap.size ≤ blk ∨ Owned G blk

theorem HasId.ext {G H : Gh} (x : Ext G H) {b g : Nat} {sz : Option Nat} (h : HasId G b g sz) : HasId H b g sz := by
  obtain ⟨k, hk, hg, hs⟩ := h
  obtain ⟨k', hk', hg', hs'⟩ := x.id b k hk
  exact ⟨k', hk', Nat.le_trans hg hg', hs'.trans hs⟩
theorem HasId.rho {G H : Gh} (x : Ext G H) {b g : Nat} {sz : Option Nat} (h : HasId G b g sz) : H.ρ b g = G.ρ b g := by
  obtain ⟨k, hk, hg, _⟩ := h
  exact x.at_ b k g hk hg

mutual
theorem Rep.ext {G H : Gh} (x : Ext G H) {a : AV} {v : Value} (h : Rep G a v) : Rep H a v := by
  match h with
  | .undef v => exact .undef v
  | .bool b => exact .bool b
  | .int k n => exact .int k n
  | .str s => exact .str s
  | .nilp => exact .nilp
  | .ptr h hr => exact .ptr (h.ext x) ((h.rho x).trans hr)
  | .rp h => exact .rp (RepCells.ext x h)
  | .snil => exact .snil
  | .sl0 a cap => exact .sl0 a cap
  | .sl hl h => exact .sl hl (RepElems.ext x h)
  | .sr0 h hr => exact .sr0 (h.ext x) ((h.rho x).trans hr)
  | .sr h hr hl hb hc =>
    obtain ⟨c', hb', hs⟩ := x.shape _ _ _ _ hb
    exact .sr (h.ext x) ((h.rho x).trans hr) hl hb' (by rw [hs]; exact hc)
  | .srE h hr ho => exact .srE (h.ext x) ((h.rho x).trans hr) ho
  | .fn h1 h2 => exact .fn (RepL.ext x h1) (RepL.ext x h2)
  | .nilf => exact .nilf
  | .nilm => exact .nilm
  | .mv hb hf h => exact .mv (x.fmap _ _ _ hf hb) (x.frozen _ _ hf) (RepE.ext x h)
  | .mv0 => exact .mv0
  | .mr h hr => exact .mr (h.ext x) ((h.rho x).trans hr)
  | .agg h => exact .agg (RepL.ext x h)
  | .tup h => exact .tup (RepL.ext x h)
theorem RepL.ext {G H : Gh} (x : Ext G H) {a : List AV} {v : List Value} (h : RepL G a v) : RepL H a v := by
  match h with
  | .nil => exact .nil
  | .cons h t => exact .cons (Rep.ext x h) (RepL.ext x t)
theorem RepCells.ext {G H : Gh} (x : Ext G H) {a : List AV} {b o : Nat} (h : RepCells G a b o) : RepCells H a b o := by
  match h with
  | .nil _ _ => exact .nil _ _
  | .cons hf hc h t => exact .cons (x.frozen _ _ hf) ((x.cell _ _ hf).trans hc) (Rep.ext x h) (RepCells.ext x t)
theorem RepElems.ext {G H : Gh} (x : Ext G H) {a : List AV} {b o sz : Nat} (h : RepElems G a b o sz) : RepElems H a b o sz := by
  match h with
  | .nil _ _ _ => exact .nil _ _ _
  | .cons hs h t => exact .cons hs (RepCells.ext x h) (RepElems.ext x t)
theorem RepE.ext {G H : Gh} (x : Ext G H) {a : List (AV × AV)} {v : List MapEntry} (h : RepE G a v) : RepE H a v := by
  match h with
  | .nil => exact .nil
  | .cons hk h1 h2 t => exact .cons hk (Rep.ext x h1) (Rep.ext x h2) (RepE.ext x t)
end

theorem Ext.refl (G : Gh) : Ext G G where
  os := rfl
  tape := rfl
  output := rfl
  size := Nat.le_refl _
  old := fun _ _ _ => rfl
  shape := fun _ c _ _ h => ⟨c, h, rfl⟩
  frozen := fun _ _ h => h
  cell := fun _ _ _ => rfl
  fmap := fun _ _ _ _ h => h
  thaw := fun _ _ h _ => .inl h
  len := Nat.le_refl _
  id := fun _ k h => ⟨k, h, Nat.le_refl _, rfl⟩
  at_ := fun _ _ _ _ _ => rfl
  own := fun _ h => .inr h

theorem Ext.trans {G H K : Gh} (x : Ext G H) (y : Ext H K) : Ext G K where
  os := y.os.trans x.os
  tape := y.tape.trans x.tape
  output := y.output.trans x.output
  size := Nat.le_trans x.size y.size
  old := fun blk hb ho => by
    have hH : ¬ Owned H blk := fun h => by
      rcases x.own blk h with h | h
      · omega
      · exact ho h
    rw [y.old blk (Nat.lt_of_lt_of_le hb x.size) hH, x.old blk hb ho]
  shape := fun blk c e fz h => by
    obtain ⟨c1, h1, s1⟩ := x.shape blk c e fz h
    obtain ⟨c2, h2, s2⟩ := y.shape blk c1 e fz h1
    exact ⟨c2, h2, s2.trans s1⟩
  frozen := fun b o h => y.frozen b o (x.frozen b o h)
  cell := fun b o h => (y.cell b o (x.frozen b o h)).trans (x.cell b o h)
  fmap := fun b ents ck h hb => y.fmap b ents ck (x.frozen b 0 h) (x.fmap b ents ck h hb)
  thaw := fun b o h hb => by
    rcases y.thaw b o h (Nat.lt_of_lt_of_le hb x.size) with h | h
    · exact x.thaw b o h hb
    · rcases x.own b h with h | h
      · omega
      · exact .inr h
  len := Nat.le_trans x.len y.len
  id := fun b k h => by
    obtain ⟨k1, h1, g1, s1⟩ := x.id b k h
    obtain ⟨k2, h2, g2, s2⟩ := y.id b k1 h1
    exact ⟨k2, h2, Nat.le_trans g1 g2, s2.trans s1⟩
  at_ := fun b k g h hg => by
    obtain ⟨k1, h1, g1, s1⟩ := x.id b k h
    rw [y.at_ b k1 g h1 (Nat.le_trans hg g1), x.at_ b k g h hg]
  own := fun blk h => by
    rcases y.own blk h with h | h
    · exact .inl (Nat.le_trans x.size h)
    · exact x.own blk h

theorem RepL.length {G : Gh} {a : List AV} {v : List Value} (h : RepL G a v) : a.length = v.length := by
  match h with
  | .nil => rfl
  | .cons _ t => simp [RepL.length t]
theorem RepL.get {G : Gh} {a : List AV} {v : List Value} (h : RepL G a v) {i : Nat} {x : AV} (hx : a[i]? = some x) : ∃ u, v[i]? = some u ∧ Rep G x u := by
  match h, i with
  | .nil, i => simp at hx
  | .cons h t, 0 => simp at hx; subst hx; exact ⟨_, rfl, h⟩
  | .cons h t, i + 1 => simp at hx; simpa using t.get hx
theorem RepL.append {G : Gh} {a a' : List AV} {v v' : List Value} (h : RepL G a v) (h' : RepL G a' v') : RepL G (a ++ a') (v ++ v') := by
  match h with
  | .nil => exact h'
  | .cons h t => exact .cons h (t.append h')
theorem RepL.of_get {G : Gh} : ∀ {a : List AV} {v : List Value}, a.length = v.length → (∀ (i : Nat) x u, a[i]? = some x → v[i]? = some u → Rep G x u) → RepL G a v
  | [], [], _, _ => .nil
  | x :: a, u :: v, hl, h => .cons (h 0 x u rfl rfl) (RepL.of_get (by simpa using hl) fun i y w hy hw => h (i + 1) y w (by simpa using hy) (by simpa using hw))
  | [], _ :: _, hl, _ => by simp at hl
  | _ :: _, [], hl, _ => by simp at hl
theorem RepCells.get {G : Gh} {a : List AV} {b o : Nat} (h : RepCells G a b o) {i : Nat} {x : AV} (hx : a[i]? = some x) : ∃ u, G.φ b (o + i) ∧ G.w.cell? ⟨b, o + i, none⟩ = some u ∧ Rep G x u := by
  match h, i with
  | .nil _ _, i => simp at hx
  | .cons hf hc h t, 0 => simp at hx; subst hx; exact ⟨_, hf, hc, h⟩
  | .cons hf hc h t, i + 1 =>
    simp at hx
    obtain ⟨u, h1, h2, h3⟩ := t.get hx
    exact ⟨u, by rwa [show o + 1 + i = o + (i + 1) by omega] at h1, by rwa [show o + 1 + i = o + (i + 1) by omega] at h2, h3⟩
theorem RepCells.of_get {G : Gh} {b : Nat} : ∀ {a : List AV} {o : Nat}, (∀ (i : Nat) x, a[i]? = some x → ∃ u, G.φ b (o + i) ∧ G.w.cell? ⟨b, o + i, none⟩ = some u ∧ Rep G x u) → RepCells G a b o
  | [], o, _ => .nil _ _
  | x :: a, o, h => by
    obtain ⟨u, h1, h2, h3⟩ := h 0 x rfl
    exact .cons h1 h2 h3 (RepCells.of_get fun i y hy => by
      obtain ⟨u, h1, h2, h3⟩ := h (i + 1) y (by simpa using hy)
      exact ⟨u, by rwa [show o + 1 + i = o + (i + 1) by omega], by rwa [show o + 1 + i = o + (i + 1) by omega], h3⟩)
theorem RepElems.get {G : Gh} {a : List AV} {b o sz : Nat} (h : RepElems G a b o sz) {i : Nat} {x : AV} (hx : a[i]? = some x) : x.cells.length = sz ∧ RepCells G x.cells b (o + i * sz) := by
  match h, i with
  | .nil _ _ _, i => simp at hx
  | .cons hs h t, 0 => simp at hx; subst hx; exact ⟨hs, by simpa using h⟩
  | .cons hs h t, i + 1 =>
    simp at hx
    have := t.get hx
    rwa [show o + sz + i * sz = o + (i + 1) * sz by rw [Nat.add_mul]; omega] at this
theorem RepElems.of_get {G : Gh} {b sz : Nat} : ∀ {a : List AV} {o : Nat}, (∀ (i : Nat) x, a[i]? = some x → x.cells.length = sz ∧ RepCells G x.cells b (o + i * sz)) → RepElems G a b o sz
  | [], o, _ => .nil _ _ _
  | x :: a, o, h => by
    obtain ⟨h1, h2⟩ := h 0 x rfl
    exact .cons h1 (by simpa using h2) (RepElems.of_get fun i y hy => by
      obtain ⟨h1, h2⟩ := h (i + 1) y (by simpa using hy)
      exact ⟨h1, by rwa [show o + sz + i * sz = o + (i + 1) * sz by rw [Nat.add_mul]; omega]⟩)

/-- a value's cells, as they lie in a real value -/
theorem Rep.cells {G : Gh} {x : AV} {v : Value} (h : Rep G x v) (hu : x ≠ .undef) : RepL G x.cells v.cells.toList := by
  cases h <;> first
    | exact absurd rfl hu
    | assumption
    | (refine .cons ?_ .nil; constructor <;> assumption)
    | (refine .cons ?_ .nil; first | exact .sl0 _ _ | exact .sl ‹_› ‹_› | exact .sr ‹_› ‹_› ‹_› ‹_› ‹_› | exact .srE ‹_› ‹_› ‹_› | exact .mv ‹_› ‹_› ‹_›)
end Go.Proofs.YtbjgepnkakcjaaaDoor.Lift
