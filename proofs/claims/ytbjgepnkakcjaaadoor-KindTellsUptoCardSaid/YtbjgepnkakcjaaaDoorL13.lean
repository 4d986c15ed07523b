/-
  LIFT, 13: make; conversions; maps.
-/
import Derived.Test.YtbjgepnkakcjaaaDoorL12
import Derived.Lib.ConvBytes
import Derived.Laws.BytesString
import Derived.Laws.BytesArg
import Derived.Laws.MakeOwn
namespace Go.Proofs.YtbjgepnkakcjaaaDoor.Lift
open Go

section
variable {P : Program} {G : Gh}

theorem TFacts.mkv_cells {t : TypeId} {ti : TI} {i : TypeInfo} {d : TypeDesc} {z : Value} (F : TFacts P t ti i d z) : (mkv ti.agg ti.zero).cells = ti.zero := by
  rw [F.zero_mkv]
  split
  · rfl
  · rename_i ha
    have hzz := F.zagg
    rw [← F.agg] at hzz
    have ha' : isAggV z = false := by rw [hzz]; simpa using ha
    have hv : ti.zero = [ofConst z] := by rw [F.zs]; cases z <;> simp_all [isAggV, Value.cells]
    have hok := F.okz
    have hz : okc z = true := by cases z <;> simp_all [isAggV, Value.cells]
    have hs := ofConst_scal z hz
    rw [hv]
    generalize ofConst z = q at hs
    cases q <;> first | rfl | (simp at hs; done)

theorem run_makeSlice' (inv : Inv G) {t e : TypeId} {ti te : TI} (ht : tiOf P t = some ti) (hd : ti.d = .slice e) (he : tiOf P e = some te) {kl kc : IntKind} {n m : Int} (h0 : 0 ≤ n) (h1 : n ≤ m) (hb : m * te.bytes ≤ 140737488355328) (h63 : m ≤ 140737488355328) :
    Does P G (Instr.makeSlice t (.int kl n) (.int kc m)) (.sr G.σ.length 0 0 n.toNat) (G.σ ++ [.row te.size 0 0 (List.replicate n.toNat (mkv te.agg te.zero))]) := by
  obtain ⟨i, d, z, F⟩ := tiOf_facts ht
  obtain ⟨i2, d2, z2, F2⟩ := tiOf_facts he
  obtain rfl := tdOf_slice (F.d ▸ hd)
  have hr := run_make (P := P) G.w t e i2 z2 F.und F2.info F2.zero kl kc n m h0 h1 (by rw [← F2.bytes, Int.mul_comm]; omega) (by omega)
  have hzl : te.zero.length = z2.cells.size := by rw [F2.zero_len, F2.size, F2.zsize]
  have hrow : RowAt G (List.replicate n.toNat (mkv te.agg te.zero)) (madeCells z2.cells (m.toNat * i2.size)) te.size := by
    intro k x hx
    rw [List.getElem?_replicate] at hx
    split at hx
    · rename_i hk
      cases hx
      refine ⟨by rw [F2.mkv_cells]; exact F2.zero_len, fun j y hy => ?_⟩
      rw [F2.mkv_cells] at hy
      obtain ⟨u, q1, q2⟩ := (F2.rep_zero G).get hy
      have hj : j < te.size := by
        rw [← F2.zero_len]
        rcases Nat.lt_or_ge j te.zero.length with h | h
        · exact h
        · rw [List.getElem?_eq_none h] at hy; cases hy
      refine ⟨u, ?_, q2⟩
      have hkm : k * te.size + j < m.toNat * i2.size := by
        rw [← F2.size]
        have : (k + 1) * te.size ≤ m.toNat * te.size := Nat.mul_le_mul_right _ (by omega)
        rw [Nat.add_mul] at this
        omega
      have hmod : (k * te.size + j) % z2.cells.size = j := by
        rw [← hzl, F2.zero_len, Nat.add_comm, Nat.add_mul_mod_self_right, Nat.mod_eq_of_lt hj]
      simp only [madeCells, Array.getElem?_map, Array.getElem?_range, hkm, if_true, Option.map_some, hmod]
      rw [Array.getElem?_toList] at q1
      have hj2 : j < z2.cells.size := by rw [← hzl, F2.zero_len]; exact hj
      rw [Array.getElem?_eq_getElem hj2] at q1
      rw [getElem!_pos z2.cells j hj2]
      exact q1
    · cases hx
  obtain ⟨G', g1, g2, g3, g4, g5⟩ := new_slice (G := G) inv (G.w.alloc (.cells (madeCells z2.cells (m.toNat * i2.size)) e)) ⟨G.w, rfl, rfl, rfl, rfl, rfl⟩ (unfrozen0 _) (xs := List.replicate n.toNat (mkv te.agg te.zero)) (sz := te.size) (cap := m.toNat) hrow (by simp; omega)
    (by rw [size_madeCells, F2.size]; exact Nat.le_refl _)
  rw [List.length_replicate] at g5
  exact ⟨_, G', by rw [g1]; exact hr, g2, g3, g4, g5⟩

theorem run_convert_int {src dst : TypeId} {ts td : TI} (hs : tiOf P src = some ts) (hd : tiOf P dst = some td) {k : IntKind} (hk : td.d = .int k) (j : IntKind) (n : Int) (w : World) : (convert src dst (.int j n)).run P w = .ok (.int k (k.wrap n)) w := by
  obtain ⟨i, d, z, F⟩ := tiOf_facts hs
  obtain ⟨i2, d2, z2, F2⟩ := tiOf_facts hd
  obtain rfl := tdOf_int (F2.d ▸ hk)
  simp only [convert, Sem.run_bind, F.run_und, F2.run_und, Result.andThen_ok, Conv.intToInt, Sem.run_pure]

theorem run_convert_str {src dst : TypeId} {ts td : TI} (hs : tiOf P src = some ts) (hd : tiOf P dst = some td) (hk1 : ts.d = .str) (hk : td.d = .str) (s : ByteArray) (w : World) : (convert src dst (.string s)).run P w = .ok (.string s) w := by
  obtain ⟨i, d, z, F⟩ := tiOf_facts hs
  obtain ⟨i2, d2, z2, F2⟩ := tiOf_facts hd
  obtain rfl := tdOf_str (F2.d ▸ hk)
  obtain rfl := tdOf_str (F.d ▸ hk1)
  simp only [convert, Sem.run_bind, F.run_und, F2.run_und, Result.andThen_ok, Sem.run_pure]

theorem does_convert_sb (inv : Inv G) {src dst e : TypeId} {ts td te : TI} (hs : tiOf P src = some ts) (hd : tiOf P dst = some td) (hk : td.d = .slice e) (he : tiOf P e = some te) (hke : te.d = .int .u8) {b : List UInt8} {v : Value} (hb : Rep G (.str b) v) :
    Does P G (convert src dst v) (.sr G.σ.length 0 0 b.length) (G.σ ++ [.row 1 0 0 (b.map fun c => .int .u8 c.toNat)]) := by
  obtain ⟨i, d, z, F⟩ := tiOf_facts hs
  obtain ⟨i2, d2, z2, F2⟩ := tiOf_facts hd
  obtain ⟨i3, d3, z3, F3⟩ := tiOf_facts he
  obtain rfl := tdOf_slice (F2.d ▸ hk)
  obtain rfl := tdOf_int (F3.d ▸ hke)
  generalize hbb : b = b' at hb
  cases hb with
  | str s =>
    subst hbb
    have hr := Lib.run_convert_string_bytes (P := P) G.w src dst e s F.und F2.und F3.und
    have hge := grownCap_ge G.w s.size 0 e
    have hrow : RowAt G (s.data.toList.map fun c => AV.int .u8 c.toNat) (Lib.bytesCells G.w e s) 1 := by
      have h := rowAt_flat (G := G) (xs := s.data.toList.map fun c => AV.int .u8 c.toNat) (l := s.data.toList.map fun c => Value.int .u8 c.toNat) (sz := 1) (fun x hx => by
        obtain ⟨c, _, rfl⟩ := List.mem_map.1 hx; rfl) (by rw [bytes_cells]; exact bytes_rep _) (List.replicate (grownCap G.w s.size 0 e - s.size) (.int .u8 0))
      have e1 : Lib.bytesCells G.w e s = ((s.data.toList.map fun (c : UInt8) => Value.int .u8 c.toNat) ++ List.replicate (grownCap G.w s.size 0 e - s.size) (Value.int .u8 0)).toArray := by
        apply Array.ext'
        simp [Lib.bytesCells]
      rw [e1]; exact h
    have hsz : (Lib.bytesCells G.w e s).size = grownCap G.w s.size 0 e := by
      simp only [Lib.bytesCells, Array.size_append, Array.size_map, Array.size_replicate]
      have : s.data.size = s.size := rfl
      omega
    have h5 : ∀ j, j < G.w.heap.size → (Lib.bytesWorld G.w e s).heap[j]? = G.w.heap[j]? := fun j hj => Lib.bytesWorld_at_old G.w e s j hj
    have hw : (Lib.bytesWorld G.w e s).os = G.w.os ∧ (Lib.bytesWorld G.w e s).tape = G.w.tape ∧ (Lib.bytesWorld G.w e s).output = G.w.output := by
      simp only [Lib.bytesWorld, World.freeze]
      split <;> exact ⟨rfl, rfl, rfl⟩
    have x := ext_grow inv (Lib.bytesWorld G.w e s) (some G.w.heap.size) (.row 1 0 0 (s.data.toList.map fun c => AV.int .u8 c.toNat)) hw.1 hw.2.1 hw.2.2 (by rw [Lib.bytesWorld_size]; omega) h5 (fun j hj => by cases hj; omega)
    have hun : Unfrozen (Lib.bytesCells G.w e s).size ((Lib.bytesCells G.w e s).size, (Lib.bytesCells G.w e s).size + 1) := fun o ho => by simp; omega
    have iv := inv_grow_row inv _ _ 1 _ x h5 (fun j hj => by
      cases hj
      exact ⟨Nat.le_refl _, _, e, _, Lib.bytesWorld_at_new G.w e s, hun, hrow⟩) (fun h => by cases h)
    refine ⟨_, G.grow (Lib.bytesWorld G.w e s) (some G.w.heap.size) (.row 1 0 0 (s.data.toList.map fun c => AV.int .u8 c.toNat)), hr, rfl, x, iv, ?_⟩
    have := Rep.sr (G := G.grow (Lib.bytesWorld G.w e s) (some G.w.heap.size) (.row 1 0 0 (s.data.toList.map fun c => AV.int .u8 c.toNat))) (off := 0) (len := s.data.toList.length) (cap := grownCap G.w s.size 0 e)
      (hasId_new G _ (some G.w.heap.size) 1 0 _) (blk := G.w.heap.size) (by simp [Gh.grow]) (by rw [ba_len]; exact hge) (Lib.bytesWorld_at_new G.w e s) (by rw [hsz]; simp)
    rw [ba_len] at this ⊢
    simpa using this

theorem bytesOf_map : ∀ {xs : List AV} {b : List UInt8}, bytesOf xs = some b → ∃ ns : List Int, xs = ns.map (AV.int .u8) ∧ b = ns.map fun n => UInt8.ofNat n.toNat
  | [], b, h => by cases h; exact ⟨[], rfl, rfl⟩
  | x :: xs, b, h => by
    cases x with
    | int k n => cases k <;> first
        | (cases h; done)
        | (simp only [bytesOf] at h
           cases hb : bytesOf xs with
           | none => rw [hb] at h; cases h
           | some b' =>
             rw [hb] at h; cases h
             obtain ⟨ns, rfl, rfl⟩ := bytesOf_map hb
             exact ⟨n :: ns, rfl, rfl⟩)
    | _ => cases h

theorem run_convert_bs (inv : Inv G) {src dst e : TypeId} {ts td te : TI} (hs : tiOf P src = some ts) (hks : ts.d = .slice e) (hd : tiOf P dst = some td) (hk : td.d = .str) (he : tiOf P e = some te) (hke : te.d = .int .u8) (hsz : te.size = 1) {x : AV} {v : Value} (hx : Rep G x v) {xs : List AV} (hxs : elemsOf G.σ x = some xs)
    {b : List UInt8} (hb : bytesOf xs = some b) : ∃ u, (convert src dst v).run P G.w = .ok u G.w ∧ Rep G (.str b) u := by
  obtain ⟨i, d, z, F⟩ := tiOf_facts hs
  obtain ⟨i2, d2, z2, F2⟩ := tiOf_facts hd
  obtain ⟨i3, d3, z3, F3⟩ := tiOf_facts he
  obtain rfl := tdOf_slice (F.d ▸ hks)
  obtain rfl := tdOf_int (F3.d ▸ hke)
  obtain rfl := tdOf_str (F2.d ▸ hk)
  obtain ⟨ns, rfl, rfl⟩ := bytesOf_map hb
  obtain ⟨l, hl, hrl⟩ := run_firstCells (P := P) inv hx hxs (esz := 1) (fun x hx => by obtain ⟨n, _, rfl⟩ := List.mem_map.1 hx; rfl)
  have hlen := run_lenOf_slice (P := P) hx hxs
  have hcells : (ns.map (AV.int .u8)).flatMap AV.cells = ns.map (AV.int .u8) := by
    clear hb hxs hl hrl hlen
    induction ns with
    | nil => rfl
    | cons n ns ih => rw [List.map_cons, List.flatMap_cons, ih]; rfl
  rw [hcells] at hrl
  have hll : l = ns.map (Value.int .u8) := by
    clear hb hxs hl hlen hcells
    induction ns generalizing l with
    | nil => cases hrl; rfl
    | cons n ns ih =>
      cases hrl with
      | cons h t => cases h; rw [ih _ t]; rfl
  subst hll
  have hv : ∃ a len cap, v = .slice a len cap := by
    cases hx <;> first
      | exact ⟨_, _, _, rfl⟩
      | (simp [elemsOf] at hxs; done)
  obtain ⟨a, len, cap, rfl⟩ := hv
  simp only [Builtin.lenOf, Sem.run_pure, List.length_map, Result.ok.injEq, and_true] at hlen
  refine ⟨.string (strOfNums ns), ?_, ?_⟩
  · rw [run_convert_bytes_string G.w src dst e a len cap F.und F3.und F2.und]
    have hl := hl G.w rfl
    simp only [Builtin.firstCells, List.length_map, Nat.mul_one] at hl
    cases a with
    | none =>
      simp only [Sem.run_pure, Result.ok.injEq, and_true] at hl
      have : ns = [] := by
        have := congrArg Array.size hl
        simp at this
        exact List.eq_nil_of_length_eq_zero this.symm
      subst this
      simp only [Conv.bytesToString, Sem.run_pure]
      rfl
    | some a =>
      rw [← hlen] at hl
      rw [run_bytesToString G.w a len cap ns hl, foldl_push_bytes]
      simp [strOfNums, ByteArray.empty, ByteArray.emptyWithCapacity]
      rfl
  · rw [← strOfNums_data]; exact .str _
end
end Go.Proofs.YtbjgepnkakcjaaaDoor.Lift
