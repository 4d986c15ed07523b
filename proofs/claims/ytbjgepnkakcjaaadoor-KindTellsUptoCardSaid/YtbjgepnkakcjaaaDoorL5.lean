/-
  LIFT, 5: what the evaluator knows of the program's types is so; loads and stores.
-/
import Derived.Test.YtbjgepnkakcjaaaDoorL4
namespace Go.Proofs.YtbjgepnkakcjaaaDoor.Lift
open Go

@[simp] def okc : Value → Bool
  | .bool _ | .int .. | .string _ | .pointer none | .nilFunc | .map none | .slice none 0 0 => true
  | _ => false

theorem rep_const (G : Gh) (v : Value) : Rep G (ofConst v) v := by
  cases v with
  | bool b => exact .bool b
  | int k n => exact .int k n
  | string s => exact .str s
  | pointer a => cases a with
    | none => exact .nilp
    | some a => exact .undef _
  | slice a n c => cases a with
    | none => cases n with
      | zero => cases c with
        | zero => exact .snil
        | succ c => exact .undef _
      | succ n => exact .undef _
    | some a => exact .undef _
  | map r => cases r with
    | none => exact .nilm
    | some r => exact .undef _
  | nilFunc => exact .nilf
  | _ => exact .undef _

theorem ofConst_scal (v : Value) (h : okc v = true) : (ofConst v).scal = true := by
  cases v with
  | pointer a => cases a <;> simp_all
  | slice a n c => cases a <;> cases n <;> cases c <;> simp_all
  | map r => cases r <;> simp_all
  | _ => simp_all

def tdOf : TypeDesc → TD
  | .int k => .int k
  | .bool => .bool
  | .string => .str
  | .pointer e => .ptr e
  | .slice e => .slice e
  | .array n e => .array n e
  | .map k e => .map k e
  | .struct fs => .struct (fs.toList.map fun f => (f.offset, f.type))
  | .func .. => .func
  | _ => .other

mutual
/-- the kinds of the cells of a type of whose values '==' is '==' of all cells -/
def eqKs (P : Program) : Nat → TypeId → Option (List TD)
  | 0, _ => none
  | d + 1, t => if (P.info? t).isSome = true then (match P.underlying t with
    | some (.int k) => if P.cellsOf t = 1 then some [.int k] else none
    | some .bool => if P.cellsOf t = 1 then some [.bool] else none
    | some .string => if P.cellsOf t = 1 then some [.str] else none
    | some (.struct fs) => if P.stoodInHeld t = false then eqFs P d fs.toList 0 (P.cellsOf t) else none
    | _ => none) else none
def eqFs (P : Program) : Nat → List Field → Nat → Nat → Option (List TD)
  | _, [], off, n => if off = n then some [] else none
  | 0, _ :: _, _, _ => none
  | d + 1, f :: fs, off, n => if f.name ≠ "_" ∧ f.offset = off then (match eqKs P d f.type, eqFs P d fs (off + P.cellsOf f.type) n with
    | some a, some b => some (a ++ b)
    | _, _ => none) else none
end

def isAggD : TypeDesc → Bool
  | .struct _ | .array _ _ => true
  | _ => false
def isAggV : Value → Bool
  | .agg _ => true
  | _ => false

/-- what the program's table says of a type -/
def tiOf (P : Program) (t : TypeId) : Option TI :=
  match P.info? t, P.underlying t with
  | some i, some d => match i.zero with
    | some z => if z.cells.toList.all okc = true ∧ z.cells.size = i.size ∧ isAggV z = isAggD d then
        some { d := tdOf d, size := i.size, zero := z.cells.toList.map ofConst, bytes := i.bytes, eq := if P.eqGuardType P.depth t = false then eqKs P 40 t else none }
      else none
    | none => none
  | _, _ => none

structure TFacts (P : Program) (t : TypeId) (ti : TI) (i : TypeInfo) (d : TypeDesc) (z : Value) : Prop where
  info : P.info? t = some i
  und : P.underlying t = some d
  zero : i.zero = some z
  okz : z.cells.toList.all okc = true
  zsize : z.cells.size = i.size
  zagg : isAggV z = isAggD d
  d : ti.d = tdOf d
  size : ti.size = i.size
  zs : ti.zero = z.cells.toList.map ofConst
  bytes : ti.bytes = i.bytes
  eq : ti.eq = if P.eqGuardType P.depth t = false then eqKs P 40 t else none

theorem tiOf_facts {P : Program} {t : TypeId} {ti : TI} (h : tiOf P t = some ti) : ∃ i d z, TFacts P t ti i d z := by
  unfold tiOf at h
  split at h
  · rename_i i d hi hd
    split at h
    · rename_i z hz
      split at h
      · rename_i hc
        cases h
        exact ⟨i, d, z, hi, hd, hz, hc.1, hc.2.1, hc.2.2, rfl, rfl, rfl, rfl, rfl⟩
      · cases h
    · cases h
  · cases h

section
variable {P : Program} {t : TypeId} {ti : TI} {i : TypeInfo} {d : TypeDesc} {z : Value} (F : TFacts P t ti i d z) (w : World)
include F
theorem TFacts.run_info : (typeInfo t).run P w = .ok i w := by simp [typeInfo, F.info]
theorem TFacts.run_size : (sizeOf t).run P w = .ok ti.size w := by simp [sizeOf, F.run_info, F.size]
theorem TFacts.run_und : (underlying t).run P w = .ok d w := run_underlying F.und w
theorem TFacts.run_zero : (zeroValue t).run P w = .ok z w := by simp [zeroValue, F.run_info, F.zero]
theorem TFacts.agg : ti.agg = isAggD d := by
  simp only [TI.agg, F.d]
  cases d <;> rfl
theorem TFacts.run_agg : (isAgg t).run P w = .ok ti.agg w := by
  rw [F.agg]
  simp only [isAgg, Sem.run_bind, F.run_und, Result.andThen_ok]
  cases d <;> rfl
theorem TFacts.rep_zero (G : Gh) : RepL G ti.zero z.cells.toList := by
  rw [F.zs]
  exact RepL.of_get (by simp) fun i x u hx hu => by
    rw [List.getElem?_map, hu] at hx
    cases hx
    exact rep_const G u
theorem TFacts.zero_len : ti.zero.length = ti.size := by rw [F.zs, F.size, ← F.zsize]; simp
theorem TFacts.zero_mkv : mkv ti.agg ti.zero = if ti.agg = true then .agg ti.zero else ofConst z := by
  cases ha : ti.agg with
  | true => rfl
  | false =>
    have hz := F.zagg
    rw [← F.agg, ha] at hz
    have : ti.zero = [ofConst z] := by
      rw [F.zs]
      cases z <;> simp_all [isAggV, Value.cells]
    simp [this]
end

/-- the part of a value whose cells lie in memory is loaded -/
theorem run_loadPart {P : Program} {G : Gh} {t : TypeId} {ti : TI} (ht : tiOf P t = some ti) {x v : AV} {off blk base : Nat} (h : part ti x off = some v)
    (hc : ∀ j y, x.cells[j]? = some y → ∃ u, G.w.cell? ⟨blk, base + j, none⟩ = some u ∧ Rep G y u) :
    ∃ u, (loadVar t ⟨blk, base + off, none⟩).run P G.w = .ok u G.w ∧ Rep G v u := by
  obtain ⟨i, d, z, F⟩ := tiOf_facts ht
  have many : ∀ (n off : Nat), off + n ≤ x.cells.length → ∃ us : List Value, us.length = n ∧ (loadCells ⟨blk, base + off, none⟩ n).run P G.w = .ok us.toArray G.w ∧ RepL G ((x.cells.drop off).take n) us := by
    intro n off hn
    have hex : ∀ j, ∃ u, j < n → G.w.cell? ⟨blk, base + off + j, none⟩ = some u ∧ ∃ y, x.cells[off + j]? = some y ∧ Rep G y u := fun j => by
      by_cases hj : j < n
      · obtain ⟨y, hy⟩ : ∃ y, x.cells[off + j]? = some y := ⟨_, List.getElem?_eq_getElem (by omega)⟩
        obtain ⟨u, h1, h2⟩ := hc _ _ hy
        exact ⟨u, fun _ => ⟨by rwa [← Nat.add_assoc] at h1, y, hy, h2⟩⟩
      · exact ⟨undef, fun h => absurd h hj⟩
    obtain ⟨f, hf⟩ := Classical.axiomOfChoice hex
    refine ⟨(List.range n).map f, by simp, ?_, ?_⟩
    · exact run_loadCells G.w ⟨blk, base + off, none⟩ n f fun j hj => by rw [Addr.add_lit]; exact (hf j hj).1
    · refine RepL.of_get (by rw [List.length_take, List.length_drop, List.length_map, List.length_range]; omega) fun j y u hy hu => ?_
      have hj : j < n := by
        rcases Nat.lt_or_ge j n with h | h
        · exact h
        · rw [List.getElem?_eq_none (by simp; omega)] at hu; cases hu
      rw [List.getElem?_take_of_lt hj, List.getElem?_drop] at hy
      rw [List.getElem?_map, List.getElem?_range hj] at hu
      cases hu
      obtain ⟨_, y', hy', hr⟩ := hf j hj
      rw [hy] at hy'
      cases hy'
      exact hr
  simp only [part] at h
  simp only [loadVar, Sem.run_bind, F.run_agg, Result.andThen_ok]
  split at h
  · rename_i hw
    cases h
    obtain ⟨rfl, hxa, ha, hl⟩ := hw
    obtain ⟨us, hlen, hrun, hrep⟩ := many ti.size 0 (by omega)
    refine ⟨.agg us.toArray, ?_, ?_⟩
    · simp only [ha, if_true, Sem.run_bind, F.run_size, Result.andThen_ok, hrun, Sem.run_pure]
    · cases x <;> simp at hxa
      rw [List.drop_zero, List.take_of_length_le (by simp at hl ⊢; omega)] at hrep
      exact .agg hrep
  · split at h
    · rename_i ha
      split at h
      · rename_i hl
        cases h
        obtain ⟨us, hlen, hrun, hrep⟩ := many ti.size off hl
        exact ⟨.agg us.toArray, by simp only [ha, if_true, Sem.run_bind, F.run_size, Result.andThen_ok, hrun, Sem.run_pure], .agg hrep⟩
      · cases h
    · rename_i ha
      obtain ⟨u, h1, h2⟩ := hc _ _ h
      exact ⟨u, by simp only [ha, Bool.false_eq_true, if_false, run_load, h1], h2⟩

theorem run_loadAt {P : Program} {G : Gh} (inv : Inv G) {t : TypeId} {ti : TI} (ht : tiOf P t = some ti) {p v : AV} {r : Value} (hp : Rep G p r) (h : loadAt ti G.σ p = some v) :
    ∃ u, (Instr.loadAt t r).run P G.w = .ok u G.w ∧ Rep G v u := by
  cases hp with
  | rp hx =>
    simp only [loadAt] at h
    obtain ⟨u, h1, h2⟩ := run_loadPart (P := P) ht h fun j y hy => let ⟨u, _, hc, hr⟩ := hx.get hy; ⟨u, hc, hr⟩
    exact ⟨u, by simpa [Instr.loadAt, Instr.sureAddr] using h1, h2⟩
  | ptr hid hr =>
    rename_i b g i off sz blk
    simp only [loadAt] at h
    split at h
    · rename_i s g' lo xs hb
      split at h
      · rename_i hg
        subst hg
        split at h
        · rename_i x hx
          obtain ⟨_, r2, _⟩ := inv.rows b s g lo xs hb
          obtain ⟨c, e, fz, q1, q2, q3, q4⟩ := r2 blk hr
          have hs : s = sz := by
            obtain ⟨k, hk, _, hk2⟩ := hid
            rw [hb] at hk; cases hk; simpa [ABlk.sz] using hk2
          subst hs
          obtain ⟨u, h1, h2⟩ := run_loadPart (P := P) (blk := blk) (base := i * s) ht h fun j y hy => by
            obtain ⟨v, hv1, hv2⟩ := (q3 i x hx).2 j y hy
            exact ⟨v, by simp [World.cell?, q1, hv1], hv2⟩
          exact ⟨u, by simpa [Instr.loadAt, Instr.sureAddr] using h1, h2⟩
        · cases h
      · cases h
    · cases h
  | _ => cases h

/-- cells that are put in a row -/
def putCells : Array Value → Nat → List Value → Array Value
  | c, _, [] => c
  | c, o, v :: vs => putCells (c.setIfInBounds o v) (o + 1) vs
theorem putCells_size : ∀ (vs : List Value) (c : Array Value) (o : Nat), (putCells c o vs).size = c.size
  | [], _, _ => rfl
  | _ :: vs, c, o => by simp [putCells, putCells_size vs]
theorem putCells_get : ∀ (vs : List Value) (c : Array Value) (o j : Nat), o + vs.length ≤ c.size → (putCells c o vs)[j]? = if o ≤ j ∧ j < o + vs.length then vs[j - o]? else c[j]?
  | [], c, o, j, _ => by rw [if_neg (by simp only [List.length_nil]; omega)]; rfl
  | v :: vs, c, o, j, h => by
    simp only [List.length_cons] at h
    rw [putCells, putCells_get vs _ (o + 1) j (by simp; omega)]
    by_cases h1 : o + 1 ≤ j ∧ j < o + 1 + vs.length
    · rw [if_pos h1, if_pos (by simp; omega), show j - o = (j - (o + 1)) + 1 by omega]
      rfl
    · rw [if_neg h1]
      by_cases h2 : j = o
      · subst h2
        rw [if_pos (by simp), Nat.sub_self, Array.getElem?_setIfInBounds_self, if_pos (by omega)]
        simp
      · rw [if_neg (by simp; omega), Array.getElem?_setIfInBounds_ne (by omega)]

theorem run_storeCells {P : Program} {blk : Nat} {e : TypeId} {fz : Nat × Nat} : ∀ (vs : List Value) (w : World) (c : Array Value) (o i : Nat), w.heap[blk]? = some (.cells c e fz) → Unfrozen c.size fz →
    o + i + vs.length ≤ c.size → (∀ v ∈ vs, v.oneCell' = true) →
    (storeCells ⟨blk, o, none⟩ vs i).run P w = .ok () { w with heap := w.heap.setIfInBounds blk (.cells (putCells c (o + i) vs) e fz) }
  | [], w, c, o, i, hb, _, _, _ => by
    simp only [storeCells, Sem.run_pure, putCells]
    congr 1
    have : w.heap.setIfInBounds blk (.cells c e fz) = w.heap := by
      apply Array.ext_getElem?
      intro j
      by_cases h : blk = j
      · subst h
        rw [Array.getElem?_setIfInBounds_self, if_pos (Array.getElem?_eq_some_iff.1 hb).1, hb]
      · rw [Array.getElem?_setIfInBounds_ne h]
    rw [this]
  | v :: vs, w, c, o, i, hb, hf, hl, h1 => by
    simp only [List.length_cons] at hl
    have hlt := (Array.getElem?_eq_some_iff.1 hb).1
    have hcell : ∃ u, w.cell? ⟨blk, o + i, none⟩ = some u := ⟨c[o + i]'(by omega), by simp [World.cell?, hb]⟩
    obtain ⟨u, hu⟩ := hcell
    have hfr : w.frozen? ⟨blk, o + i, none⟩ = false := by simpa [World.frozen?, hb] using hf (o + i) (by omega)
    have hset : w.setCell ⟨blk, o + i, none⟩ v = { w with heap := w.heap.setIfInBounds blk (.cells (c.setIfInBounds (o + i) v) e fz) } := by
      unfold World.setCell
      congr 1
      apply Array.ext_getElem?
      intro j
      rw [Array.getElem?_modify]
      by_cases h : blk = j
      · subst h
        rw [Array.getElem?_setIfInBounds_self, if_pos hlt]
        simp [hb]
      · rw [Array.getElem?_setIfInBounds_ne h]
        simp [h]
    have ih := run_storeCells (P := P) (blk := blk) (e := e) (fz := fz) vs (w.setCell ⟨blk, o + i, none⟩ v) (c.setIfInBounds (o + i) v) o (i + 1) (by rw [hset]; simp [hlt]) (by simpa using hf) (by simp; omega) (fun x hx => h1 x (List.mem_cons_of_mem _ hx))
    simp only [storeCells, Sem.run_bind, Addr.add_lit, run_store P w _ v .plain (h1 v List.mem_cons_self), hu, hfr, Bool.false_eq_true, if_false, Result.andThen_ok]
    rw [ih, hset, putCells, show o + (i + 1) = o + i + 1 by omega]
    simp

theorem Rep.oneCell {G : Gh} {y : AV} {u : Value} (h : Rep G y u) (hs : y.scal = true) : u.oneCell' = true := by
  cases h <;> first | rfl | (simp at hs; done)

theorem RepL.oneCells {G : Gh} {a : List AV} {v : List Value} (h : RepL G a v) (hs : a.all AV.scal = true) : ∀ u ∈ v, u.oneCell' = true := by
  match h with
  | .nil => intro u hu; cases hu
  | .cons h t =>
    intro u hu
    simp only [List.all_cons, Bool.and_eq_true] at hs
    rcases List.mem_cons.1 hu with rfl | hu
    · exact h.oneCell hs.1
    · exact t.oneCells hs.2 u hu

theorem whole_ne_undef {v : AV} (h : v.whole = true) : v ≠ .undef := by rintro rfl; simp at h

theorem splice_get (cs vs : List AV) (off j : Nat) (h : off + vs.length ≤ cs.length) : (splice cs off vs)[j]? = if off ≤ j ∧ j < off + vs.length then vs[j - off]? else cs[j]? := by
  simp only [splice]
  by_cases h1 : off ≤ j ∧ j < off + vs.length
  · rw [if_pos h1, List.getElem?_append_left (by simp; omega), List.getElem?_append_right (by simp; omega)]
    congr 1
    simp; omega
  · rw [if_neg h1]
    by_cases h2 : j < off
    · rw [List.getElem?_append_left (by simp; omega), List.getElem?_append_left (by simp; omega), List.getElem?_take_of_lt h2]
    · rw [List.getElem?_append_right (by simp; omega), List.getElem?_drop]
      congr 1
      simp; omega

/-- 'setPart' as its cells -/
theorem setPart_cells {x v x' : AV} {off : Nat} (h : setPart x off v = some x') (hv : v.whole = true) : off + v.cells.length ≤ x.cells.length ∧ x'.cells = splice x.cells off v.cells ∧ (x.isAgg = true → x'.isAgg = true) := by
  cases x with
  | agg cs =>
    simp only [setPart] at h
    split at h
    · rename_i hl
      cases h
      exact ⟨hl, rfl, fun _ => rfl⟩
    · cases h
  | _ =>
    simp only [setPart] at h
    cases v <;> first
      | (cases h; done)
      | (simp at hv; done)
      | (simp only at h
         split at h
         · rename_i h0
           subst h0
           cases h
           simp
         · cases h)

/-- a store, carried out -/
theorem run_storeAt {P : Program} {G : Gh} (inv : Inv G) {t : TypeId} {ti : TI} (ht : tiOf P t = some ti) {p v : AV} {r u : Value} {st : Sto} (hp : Rep G p r) (hv : Rep G v u) (h : storeAt ti G.σ p v = some st) :
    ∃ G', (Instr.storeAt t r u).run P G.w = .ok () G'.w ∧ G'.σ = st ∧ Ext G G' ∧ Inv G' := by
  obtain ⟨ii, d, z, F⟩ := tiOf_facts ht
  cases hp with
  | ptr hid hr =>
    rename_i b g i off sz blk
    simp only [storeAt] at h
    split at h
    · rename_i s g' lo xs hb
      split at h
      · rename_i hc
        obtain ⟨rfl, hlo, hlen, hwh⟩ := hc
        split at h
        · rename_i x hx
          split at h
          · rename_i x' hx'
            cases h
            obtain ⟨hle, hcells, _⟩ := setPart_cells hx' hwh
            obtain ⟨r1, r2, _⟩ := inv.rows b s g lo xs hb
            obtain ⟨c, e, fz, q1, q2, q3, q4⟩ := r2 blk hr
            have hs : s = sz := by
              obtain ⟨k, hk, _, hk2⟩ := hid
              rw [hb] at hk; cases hk; simpa [ABlk.sz] using hk2
            subst hs
            obtain ⟨hxs, hxc⟩ := q3 i x hx
            have hus := hv.cells (whole_ne_undef hwh)
            have hul : u.cells.toList.length = v.cells.length := hus.length.symm
            -- the cells of the element lie in the block
            have hin : i * s + x.cells.length ≤ c.size := by
              rcases Nat.eq_zero_or_pos x.cells.length with h0 | h0
              · rcases Nat.lt_or_ge c.size (i * s + x.cells.length) with hlt | hge
                · exfalso
                  have h0' : s = 0 := by omega
                  rw [h0, h0'] at hlt
                  omega
                · exact hge
              · obtain ⟨vv, hvv, _⟩ := hxc (x.cells.length - 1) _ (List.getElem?_eq_getElem (by omega))
                have := (Array.getElem?_eq_some_iff.1 hvv).1
                omega
            have hrun := run_storeCells (P := P) u.cells.toList G.w c (i * s + off) 0 q1 q2 (by omega) (hus.oneCells (by simpa [AV.whole] using hwh))
            have hcs : ∀ j, (putCells c (i * s + off) u.cells.toList)[j]? = if i * s + off ≤ j ∧ j < i * s + off + u.cells.toList.length then u.cells.toList[j - (i * s + off)]? else c[j]? := fun j => putCells_get _ _ _ _ (by omega)
            have hi : i < xs.length := by
              rcases Nat.lt_or_ge i xs.length with h | h
              · exact h
              · rw [List.getElem?_eq_none h] at hx; cases hx
            have hloi : lo * s ≤ i * s := Nat.mul_le_mul_right s hlo
            have hrow : RowAt G (xs.set i x') (putCells c (i * s + off) u.cells.toList) s := by
              intro k y hy
              by_cases hk : i = k
              · subst hk
                rw [List.getElem?_set_self hi] at hy
                cases hy
                refine ⟨by rw [hcells]; simp only [splice, List.length_append, List.length_take, List.length_drop]; omega, fun j y hy => ?_⟩
                rw [hcells, splice_get _ _ _ _ hle] at hy
                rw [hcs]
                by_cases hj : off ≤ j ∧ j < off + v.cells.length
                · rw [if_pos hj] at hy
                  rw [if_pos (by omega), show i * s + j - (i * s + off) = j - off by omega]
                  exact hus.get hy
                · rw [if_neg hj] at hy
                  rw [if_neg (by omega)]
                  exact hxc j y hy
              · rw [List.getElem?_set_ne hk] at hy
                obtain ⟨hys, hyc⟩ := q3 k y hy
                refine ⟨hys, fun j y' hy' => ?_⟩
                have hj : j < s := by
                  rcases Nat.lt_or_ge j s with h | h
                  · exact h
                  · rw [List.getElem?_eq_none (by omega)] at hy'; cases hy'
                rw [hcs, if_neg ?_]
                · exact hyc j y' hy'
                · rintro ⟨h1, h2⟩
                  rcases Nat.lt_or_ge i k with hik | hik
                  · have : (i + 1) * s ≤ k * s := Nat.mul_le_mul_right s hik
                    rw [Nat.add_mul] at this
                    omega
                  · have : (k + 1) * s ≤ i * s := Nat.mul_le_mul_right s (by omega)
                    rw [Nat.add_mul] at this
                    omega
            have x := ext_put (G := G) (ys := xs.set i x') inv hb hr q1 rfl (putCells_size u.cells.toList c (i * s + off)) (fun o ho => by rw [hcs, if_neg (by omega)]) (Nat.le_refl g)
            have iv := inv_put (G := G) inv hb hr q1 rfl (putCells_size u.cells.toList c (i * s + off)) x hrow (by simpa using r1)
            refine ⟨_, ?_, rfl, x, iv⟩
            have hcz : u.cells.size = ti.size := by
              have : u.cells.toList.length = u.cells.size := by simp
              omega
            simp only [Instr.storeAt, Instr.sureAddr, storeVar, Sem.run_bind, Sem.run_pure, Result.andThen_ok, F.run_size, hcz, ne_eq, not_true_eq_false, if_false]
            rw [Nat.add_zero] at hrun
            exact hrun
          · cases h
        · cases h
      · cases h
    · cases h
  | _ => cases h
end Go.Proofs.YtbjgepnkakcjaaaDoor.Lift
