/-
  LIFT, 21: PURE CONTRACTS (frozen values in, a value out, an empty store) and how they serve where there is a store.
-/
import Derived.Test.YtbjgepnkakcjaaaDoorL20
namespace Go.Proofs.YtbjgepnkakcjaaaDoor.Lift
open Go

mutual
theorem flat_rep {G H : Gh} {a : AV} {v : Value} (hz : flat a = true) (h : Rep G a v) : Rep H a v := by
  match h with
  | .undef v => cases hz
  | .bool b => exact .bool b
  | .int k n => exact .int k n
  | .str s => exact .str s
  | .nilp => exact .nilp
  | .ptr h hr => cases hz
  | .rp h => cases hz
  | .snil => exact .snil
  | .sl0 a cap => cases hz
  | .sl hl h => cases hz
  | .sr0 h hr => cases hz
  | .sr h hr hl hb hc => cases hz
  | .srE h hr ho => cases hz
  | .fn h1 h2 => cases hz
  | .nilf => exact .nilf
  | .nilm => exact .nilm
  | .mv hb hf h => cases hz
  | .mv0 => cases hz
  | .mr h hr => cases hz
  | .agg h => exact .agg (flat_repL (by simpa [flat] using hz) h)
  | .tup h => exact .tup (flat_repL (by simpa [flat] using hz) h)
theorem flat_repL {G H : Gh} {a : List AV} {v : List Value} (hz : flatL a = true) (h : RepL G a v) : RepL H a v := by
  match h with
  | .nil => exact .nil
  | .cons h t =>
    simp only [flatL, Bool.and_eq_true] at hz
    exact .cons (flat_rep hz.1 h) (flat_repL hz.2 t)
end

def Gh.freeze (G : Gh) : Gh := { w := G.w, φ := fun b o => G.φ b o ∨ Held G b o, ρ := G.ρ, σ := [] }

theorem owned_nil {G : Gh} (h : G.σ = []) (blk : Nat) : ¬ Owned G blk := by
  rintro ⟨b, k, hk, _⟩
  rw [h] at hk
  cases hk

theorem Inv.owned_lt {G : Gh} (inv : Inv G) {blk : Nat} (h : Owned G blk) : blk < G.w.heap.size := by
  rcases Nat.lt_or_ge blk G.w.heap.size with hl | hl
  · exact hl
  · rcases inv.owned h with ⟨c, e, fz, hb⟩ | ⟨m, k, hb⟩ <;> rw [Array.getElem?_eq_none hl] at hb <;> cases hb

theorem inv_nil {G : Gh} (hσ : G.σ = []) (lt : ∀ b o, G.φ b o → b < G.w.heap.size) : Inv G where
  rows := fun b sz g lo xs h => by rw [hσ] at h; cases h
  maps := fun b es h => by rw [hσ] at h; cases h
  inj := fun b b' k k' blk h => by rw [hσ] at h; cases h
  lt := lt

theorem inv_freeze {G : Gh} (inv : Inv G) : Inv G.freeze := inv_nil rfl fun b o h => by
  rcases h with h | h
  · exact inv.lt b o h
  · exact inv.owned_lt h.owned

theorem extF_freeze (G : Gh) : ExtF G G.freeze := ⟨fun _ _ h => .inl h, fun _ _ _ _ h => h, fun _ _ _ _ h => h⟩
theorem globG_ext {gl : Nat → Option AV} {G H : Gh} (hz : ∀ n v, gl n = some v → fzL v.cells = true) (x : ExtF G H) (h : GlobG gl G) : GlobG gl H := fun n v hv => by
  have := h n v hv
  refine fz_rep x ?_ this
  have h1 := hz n v hv
  cases v <;> simp_all [fz, fzL]

/-- the globals that the evaluator knows are frozen -/
def FzG (gl : Nat → Option AV) : Prop := ∀ n v, gl n = some v → fzL v.cells = true

theorem repR {G H : Gh} (hσ : G.σ = []) (hw : H.w = G.w) (hφ : ∀ b o, G.φ b o → H.φ b o) {a : AV} {v : Value} (h : Rep G a v) : Rep H a v := by
  refine Rep.extR ⟨fun blk c e fz hb => ⟨c, by rw [hw]; exact hb, rfl⟩, hφ, fun b o _ v hv => by rw [hw]; exact hv, fun b ents ck _ hb => by rw [hw]; exact hb, fun b k hk => ?_, fun b k g hk => ?_⟩ h <;> rw [hσ] at hk <;> cases hk

def noMaps (st : Sto) : Bool := st.all fun k => match k with | .map _ => false | _ => true
def frz : ABlk → ABlk
  | .row sz g _ xs => .row sz g xs.length xs
  | k => k
@[simp] theorem frz_gen (k : ABlk) : (frz k).gen = k.gen := by cases k <;> rfl
@[simp] theorem frz_sz (k : ABlk) : (frz k).sz = k.sz := by cases k <;> rfl

/-- a pure contract, where there is a store -/
def liftS (d : Nat) (g : List AV → Option AV) : Spec := fun args st =>
  if fzL args then (g args).map fun r => (r, st)
  else match mapO (peek st d) args with
    | none => none
    | some args' => match g args' with
      | none => none
      | some r => if flat r then some (r, st) else if noMaps st then some (r, st.map frz) else none

structure SoundP (P : Program) (gl : Nat → Option AV) (f : Nat) (g : List AV → Option AV) : Prop where
  calls : ∀ (G : Gh) (args : List AV) (vals : List Value) (r : AV), g args = some r → Inv G → G.σ = [] → GlobG gl G → RepL G args vals → CallDone P f vals.toArray G.w (Ret G r [])

theorem done_imp {P : Program} {f : Nat} {args : Array Value} {w : World} {R R' : Ending → World → Prop} (h : CallDone P f args w R) (hr : ∀ e w', R e w' → R' e w') : CallDone P f args w R' := by
  rcases h with ⟨h1, h2⟩ | ⟨v, w', h1, h2⟩
  · exact .inl ⟨h1, fun cs => let ⟨e, w', fr, r, x⟩ := h2 cs; ⟨e, w', fr, hr _ _ r, x⟩⟩
  · exact .inr ⟨v, w', h1, hr _ _ h2⟩
theorem calls_imp {P : Program} {f : FuncId} {args : Array Value} {w : World} {R R' : Ending → World → Prop} (h : Calls P f args w R) (hr : ∀ e w', R e w' → R' e w') : Calls P f args w R' :=
  fun cs => let ⟨e, w', fr, r, x⟩ := h cs; ⟨e, w', fr, hr _ _ r, x⟩

/-- the store's blocks lie as they lay -/
theorem inv_back {G H : Gh} (inv : Inv G) (hρ : H.ρ = G.ρ) (hσ : H.σ = G.σ) (x : Ext G H) (hheap : ∀ blk, blk < G.w.heap.size → H.w.heap[blk]? = G.w.heap[blk]?) (hφ : ∀ b o, b < G.w.heap.size → H.φ b o → G.φ b o) (lt : ∀ b o, H.φ b o → b < H.w.heap.size) : Inv H where
  rows := fun b sz g lo xs h => by
    rw [hσ] at h
    obtain ⟨h1, h2, h3⟩ := inv.rows b sz g lo xs h
    refine ⟨h1, fun blk hb => ?_, by rw [hρ]; exact h3⟩
    rw [hρ] at hb
    obtain ⟨c, e, fz, h4, h5, h6, h7⟩ := h2 blk hb
    have hlt : blk < G.w.heap.size := inv.owned_lt ⟨b, _, h, hb⟩
    exact ⟨c, e, fz, by rw [hheap blk hlt]; exact h4, h5, fun i y hy => ⟨(h6 i y hy).1, fun j z hz => let ⟨v, h8, h9⟩ := (h6 i y hy).2 j z hz; ⟨v, h8, h9.ext x⟩⟩, fun o ho hf => h7 o ho (hφ _ _ hlt hf)⟩
  maps := fun b es h => by
    rw [hσ] at h
    obtain ⟨blk, ents, ck, h1, h2, h3, h4⟩ := inv.maps b es h
    have hlt : blk < G.w.heap.size := inv.owned_lt ⟨b, _, h, h1⟩
    exact ⟨blk, ents, ck, by rw [hρ]; exact h1, by rw [hheap blk hlt]; exact h2, h3.ext x, fun o hf => h4 o (hφ _ _ hlt hf)⟩
  inj := fun b b' k k' blk h h' => by
    rw [hσ] at h h'
    rw [hρ]
    exact inv.inj b b' k k' blk h h'
  lt := lt

set_option maxHeartbeats 1000000 in
theorem SoundP.lift {P : Program} {gl : Nat → Option AV} {f : Nat} {g : List AV → Option AV} (hz : FzG gl) (d : Nat) (h : SoundP P gl f g) : SoundF P gl f (liftS d g) where
  calls := fun G args vals r σ' hs inv hg hr => by
    unfold liftS at hs
    split at hs
    · -- frozen arguments
      rename_i hfz
      obtain ⟨r', hr', he⟩ := Option.map_eq_some_iff.1 hs
      cases he
      let G1 : Gh := { G with σ := [] }
      have x1 : ExtF G G1 := ⟨fun _ _ h => h, fun _ _ _ _ h => h, fun _ _ _ _ h => h⟩
      refine done_imp (h.calls G1 args vals r hr' (inv_nil rfl inv.lt) rfl (globG_ext hz x1 hg) (fz_repL x1 hfz hr)) fun e w' he => ?_
      cases e with
      | panicked c => exact he.elim
      | outgrown => exact he.elim
      | returned v =>
        obtain ⟨G1', rfl, hσ, x, inv', hrep⟩ := he
        let G' : Gh := { G1' with ρ := G.ρ, σ := G.σ }
        have hheap : ∀ blk, blk < G.w.heap.size → G'.w.heap[blk]? = G.w.heap[blk]? := fun blk hb => x.old blk hb (owned_nil rfl blk)
        have hφ : ∀ b o, b < G.w.heap.size → G'.φ b o → G.φ b o := fun b o hb hf => (x.thaw b o hf hb).resolve_right (owned_nil rfl b)
        have xx : Ext G G' :=
          { os := x.os, tape := x.tape, output := x.output, size := x.size, old := fun blk hb _ => hheap blk hb, shape := x.shape, frozen := x.frozen, cell := x.cell, fmap := x.fmap
            thaw := fun b o hf hb => .inl (hφ b o hb hf), len := Nat.le_refl _, id := fun _ k h => ⟨k, h, Nat.le_refl _, rfl⟩, at_ := fun _ _ _ _ _ => rfl, own := fun _ h => .inr h }
        exact ⟨G', rfl, rfl, xx, inv_back inv rfl rfl xx hheap hφ inv'.lt, repR (H := G') hσ rfl (fun _ _ h => h) hrep⟩
    · split at hs
      · cases hs
      · rename_i args' ha
        split at hs
        · cases hs
        · rename_i r' hr'
          have hargs : RepL G.freeze args' vals := mapO_repL ha (fun x y v hxy hx => peek_rep inv (extF_freeze G) rfl (fun b o h => .inr h) d hxy hx) hr
          have hcall := h.calls G.freeze args' vals r' hr' (inv_freeze inv) rfl (globG_ext hz (extF_freeze G) hg) hargs
          split at hs
          · -- a flat result
            rename_i hfl
            cases hs
            refine done_imp hcall fun e w' he => ?_
            cases e with
            | panicked c => exact he.elim
            | outgrown => exact he.elim
            | returned v =>
              obtain ⟨G1', rfl, hσ, x, inv', hrep⟩ := he
              let G' : Gh := { G with w := G1'.w }
              have hheap : ∀ blk, blk < G.w.heap.size → G'.w.heap[blk]? = G.w.heap[blk]? := fun blk hb => x.old blk hb (owned_nil rfl blk)
              have xx : Ext G G' :=
                { os := x.os, tape := x.tape, output := x.output, size := x.size, old := fun blk hb _ => hheap blk hb, shape := x.shape, frozen := fun _ _ h => h
                  cell := fun b o hf => x.cell b o (.inl hf), fmap := fun b ents ck hf => x.fmap b ents ck (.inl hf)
                  thaw := fun b o hf hb => .inl hf, len := Nat.le_refl _, id := fun _ k h => ⟨k, h, Nat.le_refl _, rfl⟩, at_ := fun _ _ _ _ _ => rfl, own := fun _ h => .inr h }
              exact ⟨G', rfl, rfl, xx, inv_back inv rfl rfl xx hheap (fun _ _ _ h => h) (fun b o hf => Nat.lt_of_lt_of_le (inv.lt b o hf) x.size), flat_rep hfl hrep⟩
          · split at hs
            · -- the store is frozen
              rename_i hnm
              cases hs
              refine done_imp hcall fun e w' he => ?_
              cases e with
              | panicked c => exact he.elim
              | outgrown => exact he.elim
              | returned v =>
                obtain ⟨G1', rfl, hσ, x, inv', hrep⟩ := he
                let G' : Gh := { G1' with ρ := G.ρ, σ := G.σ.map frz }
                have hheap : ∀ blk, blk < G.w.heap.size → G'.w.heap[blk]? = G.w.heap[blk]? := fun blk hb => x.old blk hb (owned_nil rfl blk)
                have hφ : ∀ b o, b < G.w.heap.size → G'.φ b o → G.φ b o ∨ Held G b o := fun b o hb hf => (x.thaw b o hf hb).resolve_right (owned_nil rfl b)
                have hget : ∀ (b : Nat) k, (G.σ.map frz)[b]? = some k → ∃ k0, G.σ[b]? = some k0 ∧ k = frz k0 := fun b k hk => by
                  rw [List.getElem?_map] at hk
                  cases hb : G.σ[b]? with
                  | none => rw [hb] at hk; cases hk
                  | some k0 => rw [hb] at hk; cases hk; exact ⟨k0, rfl, rfl⟩
                have xx : Ext G G' :=
                  { os := x.os, tape := x.tape, output := x.output, size := x.size, old := fun blk hb _ => hheap blk hb, shape := x.shape
                    frozen := fun b o hf => x.frozen b o (.inl hf), cell := fun b o hf => x.cell b o (.inl hf), fmap := fun b ents ck hf => x.fmap b ents ck (.inl hf)
                    thaw := fun b o hf hb => (hφ b o hb hf).imp id Held.owned, len := by simp [G']
                    id := fun b k h => ⟨frz k, by simp only [G', List.getElem?_map, h, Option.map_some], Nat.le_of_eq (frz_gen k).symm, frz_sz k⟩, at_ := fun _ _ _ _ _ => rfl
                    own := fun blk h => by
                      obtain ⟨b, k, hk, hb⟩ := h
                      obtain ⟨k0, hk0, rfl⟩ := hget b k hk
                      rw [frz_gen] at hb
                      exact .inr ⟨b, k0, hk0, hb⟩ }
                refine ⟨G', rfl, rfl, xx, ⟨fun b sz gg lo xs hk => ?_, fun b es hk => ?_, fun b b' k k' blk hk hk' hb hb' => ?_, inv'.lt⟩, repR (H := G') hσ rfl (fun _ _ h => h) hrep⟩
                · obtain ⟨k0, hk0, he⟩ := hget b _ hk
                  cases k0 with
                  | map es => cases he
                  | row sz0 g0 lo0 xs0 =>
                    simp only [frz, ABlk.row.injEq] at he
                    obtain ⟨rfl, rfl, rfl, rfl⟩ := he
                    obtain ⟨h1, h2, h3⟩ := inv.rows b _ _ _ _ hk0
                    refine ⟨Nat.le_refl _, fun blk hb => ?_, h3⟩
                    obtain ⟨c, e, fz, h4, h5, h6, h7⟩ := h2 blk hb
                    have hlt : blk < G.w.heap.size := inv.owned_lt ⟨b, _, hk0, hb⟩
                    refine ⟨c, e, fz, by rw [hheap blk hlt]; exact h4, h5, fun i y hy => ⟨(h6 i y hy).1, fun j z hz => let ⟨v, h8, h9⟩ := (h6 i y hy).2 j z hz; ⟨v, h8, h9.ext xx⟩⟩, fun o ho hf => ?_⟩
                    rcases hφ blk o hlt hf with hf | hf
                    · exact h7 o (Nat.le_trans (Nat.mul_le_mul_right _ h1) ho) hf
                    · rcases hf with ⟨b', sz', g', lo', xs', i1, i2, i3⟩ | ⟨b', es, i1, i2⟩
                      · have := inv.inj b b' _ _ blk hk0 i1 hb i2
                        subst this
                        rw [hk0] at i1
                        cases i1
                        omega
                      · have := inv.inj b b' _ _ blk hk0 i1 hb i2
                        subst this
                        rw [hk0] at i1
                        cases i1
                · obtain ⟨k0, hk0, he⟩ := hget b _ hk
                  cases k0 with
                  | row sz0 g0 lo0 xs0 => cases he
                  | map es0 =>
                    exfalso
                    have := List.all_eq_true.1 hnm _ (List.mem_of_getElem? hk0)
                    cases this
                · obtain ⟨k0, hk0, rfl⟩ := hget b _ hk
                  obtain ⟨k1, hk1, rfl⟩ := hget b' _ hk'
                  rw [frz_gen] at hb hb'
                  exact inv.inj b b' k0 k1 blk hk0 hk1 hb hb'
            · cases hs
end Go.Proofs.YtbjgepnkakcjaaaDoor.Lift
