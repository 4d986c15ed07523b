/-
  LIFT, 24: BLOCKS OF THE STORE THAT NOBODY HOLDS MAY BE LEFT (the newest first).
-/
import Derived.Test.YtbjgepnkakcjaaaDoorL23
namespace Go.Proofs.YtbjgepnkakcjaaaDoor.Lift
open Go

mutual
/-- no reference to a block from k on -/
def blw (k : Nat) : AV → Bool
  | .ptr b _ _ _ | .sr b _ _ _ | .mr b => decide (b < k)
  | .undef | .bool _ | .int .. | .str _ | .nilp | .nilf | .nilm | .snil => true
  | .rp x _ => blw k x
  | .sl xs => blwL k xs
  | .fn _ a b => blwL k a && blwL k b
  | .mv es => blwE k es
  | .agg cs => blwL k cs
  | .tup vs => blwL k vs
def blwL (k : Nat) : List AV → Bool
  | [] => true
  | x :: r => blw k x && blwL k r
def blwE (k : Nat) : List (AV × AV) → Bool
  | [] => true
  | (a, b) :: r => blw k a && blw k b && blwE k r
end
def blwB (k : Nat) : ABlk → Bool
  | .row _ _ _ xs => blwL k xs
  | .map es => blwE k es

theorem blw_cells {k : Nat} {x : AV} (h : blw k x = true) : blwL k x.cells = true := by
  cases x <;> simp_all [AV.cells, blw, blwL]
theorem blwL_mem {k : Nat} : ∀ {l : List AV}, blwL k l = true → ∀ p ∈ l, blw k p = true
  | [], _, p, hp => by cases hp
  | a :: l, hl, p, hp => by
    simp only [blwL, Bool.and_eq_true] at hl
    rcases List.mem_cons.1 hp with rfl | hp
    · exact hl.1
    · exact blwL_mem hl.2 p hp

/-- the store is cut -/
structure Cut (k : Nat) (G H : Gh) : Prop where
  w : H.w = G.w
  φ : H.φ = G.φ
  ρ : H.ρ = G.ρ
  σ : ∀ b, b < k → H.σ[b]? = G.σ[b]?

theorem HasId.cut {k : Nat} {G H : Gh} (x : Cut k G H) {b g : Nat} {sz : Option Nat} (hb : b < k) (h : HasId G b g sz) : HasId H b g sz := by
  obtain ⟨kk, h1, h2⟩ := h
  exact ⟨kk, by rw [x.σ b hb]; exact h1, h2⟩

mutual
theorem Rep.cut {k : Nat} {G H : Gh} (x : Cut k G H) {a : AV} {v : Value} (hz : blw k a = true) (h : Rep G a v) : Rep H a v := by
  match h with
  | .undef v => exact .undef v
  | .bool b => exact .bool b
  | .int _ n => exact .int _ n
  | .str s => exact .str s
  | .nilp => exact .nilp
  | .ptr h hr => exact .ptr (h.cut x (by simpa [blw] using hz)) (by rw [x.ρ]; exact hr)
  | .rp h => exact .rp (RepCells.cut x (blw_cells (by simpa [blw] using hz)) h)
  | .snil => exact .snil
  | .sl0 a cap => exact .sl0 a cap
  | .sl hl h => exact .sl hl (RepElems.cut x (by simpa [blw] using hz) h)
  | .sr0 h hr => exact .sr0 (h.cut x (by simpa [blw] using hz)) (by rw [x.ρ]; exact hr)
  | .sr h hr hl hb hc => exact .sr (h.cut x (by simpa [blw] using hz)) (by rw [x.ρ]; exact hr) hl (by rw [x.w]; exact hb) hc
  | .srE h hr ho => exact .srE (h.cut x (by simpa [blw] using hz)) (by rw [x.ρ]; exact hr) ho
  | .fn h1 h2 =>
    simp only [blw, Bool.and_eq_true] at hz
    exact .fn (RepL.cut x hz.1 h1) (RepL.cut x hz.2 h2)
  | .nilf => exact .nilf
  | .nilm => exact .nilm
  | .mv hb hf h => exact .mv (by rw [x.w]; exact hb) (by rw [x.φ]; exact hf) (RepE.cut x (by simpa [blw] using hz) h)
  | .mv0 => exact .mv0
  | .mr h hr => exact .mr (h.cut x (by simpa [blw] using hz)) (by rw [x.ρ]; exact hr)
  | .agg h => exact .agg (RepL.cut x (by simpa [blw] using hz) h)
  | .tup h => exact .tup (RepL.cut x (by simpa [blw] using hz) h)
theorem RepL.cut {k : Nat} {G H : Gh} (x : Cut k G H) {a : List AV} {v : List Value} (hz : blwL k a = true) (h : RepL G a v) : RepL H a v := by
  match h with
  | .nil => exact .nil
  | .cons h t =>
    simp only [blwL, Bool.and_eq_true] at hz
    exact .cons (Rep.cut x hz.1 h) (RepL.cut x hz.2 t)
theorem RepCells.cut {k : Nat} {G H : Gh} (x : Cut k G H) {a : List AV} {b o : Nat} (hz : blwL k a = true) (h : RepCells G a b o) : RepCells H a b o := by
  match h with
  | .nil _ _ => exact .nil _ _
  | .cons hf hc h t =>
    simp only [blwL, Bool.and_eq_true] at hz
    exact .cons (by rw [x.φ]; exact hf) (by rw [x.w]; exact hc) (Rep.cut x hz.1 h) (RepCells.cut x hz.2 t)
theorem RepElems.cut {k : Nat} {G H : Gh} (x : Cut k G H) {a : List AV} {b o sz : Nat} (hz : blwL k a = true) (h : RepElems G a b o sz) : RepElems H a b o sz := by
  match h with
  | .nil _ _ _ => exact .nil _ _ _
  | .cons hs h t =>
    simp only [blwL, Bool.and_eq_true] at hz
    exact .cons hs (RepCells.cut x (blw_cells hz.1) h) (RepElems.cut x hz.2 t)
theorem RepE.cut {k : Nat} {G H : Gh} (x : Cut k G H) {a : List (AV × AV)} {v : List MapEntry} (hz : blwE k a = true) (h : RepE G a v) : RepE H a v := by
  match h with
  | .nil => exact .nil
  | .cons hk h1 h2 t =>
    simp only [blwE, Bool.and_eq_true] at hz
    exact .cons hk (Rep.cut x hz.1.1 h1) (Rep.cut x hz.1.2 h2) (RepE.cut x hz.2 t)
end

/-- the newest blocks are left: those that stay, and the slots that are kept, do not refer to them -/
theorem less_drop {X : Cfg} (hz : FzG X.G) {G0 : Gh} {s : ASt} {n : Nat} {fr : Nat → AV} {st st2 : Sto} (h0 : G0.σ.length ≤ st.length) (hn : s.n = n) (hst : s.st = st ++ st2) (hb : st.all (blwB st.length) = true)
    (hf : ∀ t, fr t = .undef ∨ (fr t = s.fr t ∧ blw st.length (fr t) = true)) : Less X G0 s ⟨n, fr, st⟩ := by
  intro a w ⟨G, hw, ⟨h1, h2, h3⟩, inv, hg, x, hm⟩
  let H : Gh := { G with σ := st }
  have hσ : G.σ = st ++ st2 := h3.trans hst
  have cut : Cut st.length G H := ⟨rfl, rfl, rfl, fun b hb => by show st[b]? = G.σ[b]?; rw [hσ, List.getElem?_append_left hb]⟩
  have sub : ∀ {b : Nat} {k : ABlk}, st[b]? = some k → G.σ[b]? = some k := fun {b k} hk => by
    rw [hσ, List.getElem?_append_left (List.getElem?_eq_some_iff.1 hk).1]; exact hk
  have hblk : ∀ {b : Nat} {k : ABlk}, st[b]? = some k → blwB st.length k = true := fun {b k} hk => List.all_eq_true.1 hb k (List.mem_of_getElem? hk)
  have own : ∀ blk, Owned H blk → Owned G blk := fun blk ⟨b, k, hk, hr⟩ => ⟨b, k, sub hk, hr⟩
  refine ⟨H, hw, ⟨by rw [← hn]; exact h1, fun t => ?_, rfl⟩, ?_, ?_, ?_, hm⟩
  · show Rep H (fr t) _
    rcases hf t with h | ⟨h, hq⟩
    · rw [h]; exact .undef _
    · rw [h] at hq ⊢; exact (h2 t).cut cut hq
  · exact
      { rows := fun b sz g lo xs hk => by
          obtain ⟨r1, r2, r3⟩ := inv.rows b sz g lo xs (sub hk)
          refine ⟨r1, fun blk hbk => ?_, r3⟩
          obtain ⟨c, e, fz, q1, q2, q3, q4⟩ := r2 blk hbk
          have hbl : blwL st.length xs = true := hblk hk
          refine ⟨c, e, fz, q1, q2, fun i y hy => ⟨(q3 i y hy).1, fun j z hz => ?_⟩, q4⟩
          obtain ⟨v, q5, q6⟩ := (q3 i y hy).2 j z hz
          exact ⟨v, q5, q6.cut cut (blwL_mem (blw_cells (blwL_mem hbl y (List.mem_of_getElem? hy))) z (List.mem_of_getElem? hz))⟩
        maps := fun b es hk => by
          obtain ⟨blk, ents, ck, m1, m2, m3, m4⟩ := inv.maps b es (sub hk)
          exact ⟨blk, ents, ck, m1, m2, m3.cut cut (hblk hk), m4⟩
        inj := fun b b' k k' blk hk hk' => inv.inj b b' k k' blk (sub hk) (sub hk')
        lt := inv.lt }
  · exact globG_ext (G := G) (H := H) hz ⟨fun _ _ h => h, fun _ _ _ _ h => h, fun _ _ _ _ h => h⟩ hg
  · exact
      { os := x.os, tape := x.tape, output := x.output, size := x.size, old := x.old, shape := x.shape, frozen := x.frozen, cell := x.cell, fmap := x.fmap, thaw := x.thaw, len := h0
        id := fun b k hk => by
          obtain ⟨k', i1, i2, i3⟩ := x.id b k hk
          have hlt : b < st.length := Nat.lt_of_lt_of_le (List.getElem?_eq_some_iff.1 hk).1 h0
          exact ⟨k', by rw [cut.σ b hlt]; exact i1, i2, i3⟩
        at_ := x.at_, own := fun blk ho => x.own blk (own blk ho) }
theorem less_frL {X : Cfg} (hz : FzG X.G) {G0 : Gh} {s : ASt} {n : Nat} {st st2 : Sto} {l : List (Nat × AV)} (h0 : G0.σ.length ≤ st.length) (hn : s.n = n) (hst : s.st = st ++ st2) (hb : st.all (blwB st.length) = true)
    (hf : ∀ p ∈ l, s.fr p.1 = p.2 ∧ blw st.length p.2 = true) : Less X G0 s ⟨n, frL l, st⟩ := by
  refine less_drop hz h0 hn hst hb fun t => ?_
  induction l with
  | nil => exact .inl rfl
  | cons p l ih =>
    obtain ⟨k, v⟩ := p
    simp only [frL]
    split
    · rename_i ht
      subst ht
      have := hf (t, v) (by simp)
      exact .inr ⟨this.1.symm, this.2⟩
    · exact ih fun p hp => hf p (by simp [hp])
end Go.Proofs.YtbjgepnkakcjaaaDoor.Lift
