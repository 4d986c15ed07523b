/-
  LIFT, Y: THE ARGUMENTS OF A STATEMENT, OPENED: what a reading reads is a typed value that lies there.
  LIFT, R0: how the program's structs are read out of a statement's arguments.
  LIFT, G: PACKAGE-LEVEL VARIABLES: what they read as lies in memory.
-/
import Derived.Test.YtgpkochbmfhmdaaGreatDoorQ11
import Derived.Test.YtgpkochbmfhmdaaGreatDoorRows
import Derived.ChangeArms
import Derived.ChangeMaps5
import Derived.KernelRfl
import Derived.Lib.LaidTab
import Derived.OpenShut
namespace Go.Proofs.YtgpkochbmfhmdaaGreatDoor.Lift
open Go

/-- what is read of a type lies there as a typed value (z: how much it is) -/
structure Reads (P : Program) (t : TypeId) {α : Type} (c : Cod α) (z : α → Nat) : Prop where
  read : ∀ {H : Type} {enc : TypeId × Value → H} {W : World} {base : Nat} {sp : Nat → Bool} {n : Nat} {cs : List Value} {x : DataW H × List MemPlace}, DataW.trod enc P W base sp true n t cs = some x → ∃ a : α, RepL (startG W) (c.enc a).cells cs ∧ z a ≤ Rows.uptoBulk x.1
  top : ∀ {W W' : World} {r : Reach} {b : Nat} {a : α} {v : Value}, Value.okWide P W' r b t v → RepL (startG W) (c.enc a).cells v.cells.toList → Rep (startG W) (c.enc a) v
  size : ∀ a, (c.enc a).cells.length = P.cellsOf t

theorem repL_length {G : Gh} : ∀ {xs : List AV} {vs : List Value}, RepL G xs vs → xs.length = vs.length
  | _, _, .nil => rfl
  | _, _, .cons _ t => by simp [repL_length t]
theorem repL_append {G : Gh} : ∀ {xs ys : List AV} {vs ws : List Value}, RepL G xs vs → RepL G ys ws → RepL G (xs ++ ys) (vs ++ ws)
  | _, _, _, _, .nil, h => h
  | _, _, _, _, .cons h t, h' => .cons h (repL_append t h')

theorem reads_int {P : Program} {t : TypeId} (ht : P.underlying t = some (.int .i64)) (hc : P.cellsOf t = 1) : Reads P t cInt (fun _ => 1) where
  read := fun h => by
    obtain ⟨n, rfl, rfl, _⟩ := DataW.trod_int ht h
    exact ⟨n, .cons (.int _ _) .nil, by simp [Rows.uptoBulk]⟩
  top := fun hv h => by
    obtain ⟨n, rfl⟩ := WideShapes.okWide_int ht hv
    cases h with
    | cons h _ => exact h
  size := fun a => by rw [hc]; rfl
theorem reads_bool {P : Program} {t : TypeId} (ht : P.underlying t = some .bool) (hc : P.cellsOf t = 1) : Reads P t cBool (fun _ => 1) where
  read := fun h => by
    obtain ⟨n, rfl, rfl⟩ := DataW.trod_bool ht h
    exact ⟨n, .cons (.bool _) .nil, by simp [Rows.uptoBulk]⟩
  top := fun hv h => by
    obtain ⟨n, rfl⟩ := WideShapes.okWide_bool ht hv
    cases h with
    | cons h _ => exact h
  size := fun a => by rw [hc]; rfl
theorem reads_str {P : Program} {t : TypeId} (ht : P.underlying t = some .string) (hc : P.cellsOf t = 1) : Reads P t cStr (fun s => s.length + 1) where
  read := fun h => by
    obtain ⟨s, rfl, rfl, _⟩ := DataW.trod_string ht h
    exact ⟨s.data.toList, .cons (.str s) .nil, by simp [Rows.uptoBulk]⟩
  top := fun hv h => by
    obtain ⟨n, rfl⟩ := WideShapes.okWide_string ht hv
    cases h with
    | cons h _ => exact h
  size := fun a => by rw [hc]; rfl
theorem reads_byte {P : Program} {t : TypeId} (ht : P.underlying t = some (.int .u8)) (hc : P.cellsOf t = 1) : Reads P t cByte (fun _ => 1) where
  read := fun h => by
    obtain ⟨n, rfl, rfl, hw⟩ := DataW.trod_int ht h
    have hw' : 0 ≤ n ∧ n < 256 := by
      simp [Lit.wf, IntKind.has, IntKind.min, IntKind.max, IntKind.bits, IntKind.signed] at hw
      omega
    refine ⟨UInt8.ofNat n.toNat, ?_, by simp [Rows.uptoBulk]⟩
    have : (cByte.enc (UInt8.ofNat n.toNat)) = .int .u8 n := by
      show AV.int .u8 _ = _
      congr 1
      rw [UInt8.toNat_ofNat_of_lt' (by show n.toNat < 256; omega)]
      omega
    rw [this]
    exact .cons (.int _ _) .nil
  top := fun hv h => by
    obtain ⟨n, rfl⟩ := WideShapes.okWide_int ht hv
    cases h with
    | cons h _ => exact h
  size := fun a => by rw [hc]; rfl

/-- what a list is -/
def zL {α : Type} (z : α → Nat) (l : List α) : Nat := (l.map z).sum + 1

theorem repCells_start {W : World} : ∀ {xs : List AV} {cs : List Value} {b o : Nat}, RepL (startG W) xs cs → (∀ (i : Nat) v, cs[i]? = some v → W.cell? ⟨b, o + i, none⟩ = some v) → RepCells (startG W) xs b o
  | _, _, b, o, .nil, _ => .nil b o
  | _, _, b, o, .cons h t, hc => by
    have h0 := hc 0 _ rfl
    refine .cons ?_ h0 h (repCells_start t fun i v hv => by have := hc (i + 1) v (by simpa using hv); rwa [show o + (i + 1) = o + 1 + i by omega] at this)
    show b < W.heap.size
    apply Classical.byContradiction
    intro hb
    have : W.heap[b]? = none := by simp; omega
    simp [World.cell?, this] at h0

theorem cells_start {P : Program} {W : World} {base : Nat} {a : Addr} {n : Nat} {cs : List Value} {xs : List AV} (hn : 0 < n) (h : W.cells? base a n = some cs) (hr : RepL (startG W) xs cs) : a.spot = none ∧ RepCells (startG W) xs a.block a.off := by
  unfold World.cells? at h
  split at h
  · have hg : ∀ i, i < n → W.cell? (a.add i) = cs[i]? := fun i hi => by
      have := mapM_some_get h i i (by simp [hi])
      exact this
    have hl : cs.length = n := by have := mapM_some_length h; simpa using this
    have h0 : a.spot = none := by
      have := hg 0 hn
      rw [show a.add 0 = a from rfl] at this
      have h1 : cs[0]? = some cs[0] := by simp
      rw [h1] at this
      unfold World.cell? at this
      split at this
      · split at this
        · cases this
        · rename_i hs; simpa using hs
      · cases this
    refine ⟨h0, repCells_start hr fun i v hv => ?_⟩
    have hi : i < n := by rw [← hl]; exact (List.getElem?_eq_some_iff.1 hv).1
    have := hg i hi
    rw [hv] at this
    have e : a.add i = ⟨a.block, a.off + i, none⟩ := by
      unfold Addr.add
      split
      · rename_i hz; subst hz; cases a; simp_all
      · rfl
    rwa [e] at this
  · cases h

theorem reads_slice {P : Program} {t e : TypeId} {α : Type} {c : Cod α} {z : α → Nat} (ht : P.underlying t = some (.slice e)) (he : Reads P e c z) (hc : P.cellsOf t = 1) (hpos0 : decide (0 < P.cellsOf e) = true) : Reads P t (cL c) (zL z) where
  read := fun {H} {enc} {W} {base} {sp} {n} {cs} {x} h => by
    have hpos := of_decide_eq_true hpos0
    rcases DataW.trod_slice ht h with ⟨rfl, rfl⟩ | ⟨a, len, cap, elems, rest, m, _, rfl, rfl, _, hlc, _, hl, hel, _, _⟩
    · exact ⟨[], .cons (.sl0 none 0 (fun _ => rfl)) .nil, by simp [Rows.uptoBulk, zL]⟩
    · have key : ∀ k, k ≤ len → ∃ l : List α, l.length = k ∧ (0 < k → a.spot = none ∨ k < len) ∧ RepElems (startG W) (l.map c.enc) a.block (a.off + (len - k) * P.cellsOf e) (P.cellsOf e) ∧ (l.map z).sum ≤ Rows.uptoBulkAll ((elems.drop (len - k)).map (·.1)) := by
        intro k
        induction k with
        | zero => exact fun _ => ⟨[], rfl, fun h => absurd h (by omega), .nil _ _ _, by simp⟩
        | succ k ih =>
          intro hk
          obtain ⟨l, h1, h2, h3, h4⟩ := ih (by omega)
          have hi : len - (k + 1) < len := by omega
          have hlt : len - (k + 1) < elems.length := by omega
          have hget := hel (len - (k + 1)) hi
          rw [List.getElem?_eq_getElem hlt] at hget
          simp only [Option.bind_eq_some_iff] at hget
          obtain ⟨cs', hcs, htr⟩ := hget
          obtain ⟨y, hy, hz⟩ := he.read htr
          obtain ⟨hs, hcells⟩ := cells_start (P := P) hpos hcs hy
          have hsz := he.size y
          have e1 : (a.add ((len - (k + 1)) * P.cellsOf e)).block = a.block := by unfold Addr.add; split <;> rfl
          have e2 : (a.add ((len - (k + 1)) * P.cellsOf e)).off = a.off + (len - (k + 1)) * P.cellsOf e := by
            unfold Addr.add
            split
            · rename_i hz; rw [hz]; rfl
            · rfl
          rw [e1, e2] at hcells
          have e3 : a.off + (len - (k + 1)) * P.cellsOf e + P.cellsOf e = a.off + (len - k) * P.cellsOf e := by
            have : len - k = (len - (k + 1)) + 1 := by omega
            rw [this, Nat.add_mul]
            omega
          refine ⟨y :: l, by simp [h1], fun _ => ?_, ?_, ?_⟩
          · by_cases hk' : k + 1 < len
            · exact .inr hk'
            · left
              have : len - (k + 1) = 0 := by omega
              rw [this, Nat.zero_mul] at hs
              exact hs
          · rw [List.map_cons]
            refine .cons hsz hcells ?_
            rw [e3]
            exact h3
          · rw [List.drop_eq_getElem_cons hlt, List.map_cons, List.map_cons, List.sum_cons]
            simp only [Rows.uptoBulkAll]
            have : len - (k + 1) + 1 = len - k := by omega
            rw [this]
            omega
      obtain ⟨l, h1, h2, h3, h4⟩ := key len (Nat.le_refl _)
      rw [Nat.sub_self, Nat.zero_mul, Nat.add_zero] at h3
      rw [Nat.sub_self, List.drop_zero] at h4
      refine ⟨l, .cons ?_ .nil, ?_⟩
      · show Rep (startG W) (.sl (l.map c.enc)) _
        by_cases h0 : len = 0
        · have : l = [] := List.eq_nil_of_length_eq_zero (by omega)
          subst this h0
          exact .sl0 (some a) cap (fun e => by cases e)
        · have hs := (h2 (by omega)).resolve_right (by omega)
          have ea : a = ⟨a.block, a.off, none⟩ := by cases a; simp_all
          have hlen : (l.map c.enc).length = len := by simp [h1]
          rw [ea, ← hlen]
          exact .sl (by omega) h3
      · simp only [Rows.uptoBulk, zL]
        omega
  top := fun hv h => by
    obtain ⟨a, len, cap, rfl⟩ := WideShapes.okWide_slice ht hv
    cases h with
    | cons h _ => exact h
  size := fun a => by rw [hc]; rfl

/-- the fields of a struct, from one on -/
def ReadsF (P : Program) (tot off : Nat) (fs : List Field) {T : Type} (f : T → List AV) (z : T → Nat) : Prop :=
  ∀ {H : Type} {enc : TypeId × Value → H} {W : World} {base : Nat} {sp : Nat → Bool} {n : Nat} {cs : List Value} {xs : List (DataW H × List MemPlace)}, cs.length = tot → xs.length = fs.length →
    (∀ (i : Nat) (g : Field), fs[i]? = some g → DataW.trod enc P W base sp true n g.type ((cs.drop g.offset).take (P.cellsOf g.type)) = xs[i]?) → ∃ a : T, RepL (startG W) (f a) (cs.drop off) ∧ z a ≤ Rows.uptoBulkAll (xs.map (·.1))
theorem readsF_nil {P : Program} {tot : Nat} : ReadsF P tot tot [] (fun _ : Unit => []) (fun _ => 0) := by
  intro H enc W base sp n cs xs h1 _ _
  refine ⟨(), ?_, Nat.zero_le _⟩
  rw [← h1, List.drop_length]
  exact .nil
theorem readsF_cons {P : Program} {tot off off' : Nat} {g : Field} {fs : List Field} {α T : Type} {c : Cod α} {zc : α → Nat} {f : T → List AV} {z : T → Nat} (h : Reads P g.type c zc) (ho : g.offset = off) (ho' : off + P.cellsOf g.type = off') (r : ReadsF P tot off' fs f z) :
    ReadsF P tot off (g :: fs) (fun x : α × T => (c.enc x.1).cells ++ f x.2) (fun x => zc x.1 + z x.2) := by
  intro H enc W base sp n cs xs h1 h2 h3
  cases xs with
  | nil => simp at h2
  | cons y ys =>
    have h0 := h3 0 g rfl
    simp only [List.getElem?_cons_zero] at h0
    obtain ⟨a, ha, hza⟩ := h.read h0
    obtain ⟨b, hb, hzb⟩ := r h1 (by simpa using h2) (fun i g' hg => by have := h3 (i + 1) g' (by simpa using hg); simpa using this)
    refine ⟨(a, b), ?_, ?_⟩
    · have := repL_append ha hb
      rw [ho, ← ho', ← List.drop_drop, List.take_append_drop] at this
      exact this
    · simp only [List.map_cons, Rows.uptoBulkAll]
      omega
theorem reads_struct {P : Program} {t : TypeId} {fs : Array Field} {α T : Type} {c : Cod α} {f : T → List AV} {z : T → Nat} (mk : T → α) (zc : α → Nat) (ht : P.underlying t = some (.struct fs)) (r : ReadsF P (P.cellsOf t) 0 fs.toList f z) (hf : ∀ x, c.enc (mk x) = .agg (f x)) (hz : ∀ x, zc (mk x) = z x + 1)
    (hagg : ∀ a, (c.enc a).isAgg = true) (hs : ∀ a, (c.enc a).cells.length = P.cellsOf t) : Reads P t c zc where
  read := fun {H} {enc} {W} {base} {sp} {n} {cs} {x} h => by
    obtain ⟨xs, m, rfl, rfl, hl, hxl, hfs⟩ := DataW.trod_struct ht h
    obtain ⟨a, ha, hza⟩ := r hl (by simpa using hxl) (fun i g hg => hfs i g (by simpa using hg))
    refine ⟨mk a, ?_, ?_⟩
    · rw [hf]; exact ha
    · rw [hz]; simp only [Rows.uptoBulk]; omega
  top := fun {W} {W'} {r} {b} {a} {v} hv h => by
    obtain ⟨cs, rfl, _⟩ := WideShapes.okWide_struct ht hv
    have := hagg a
    generalize c.enc a = q at *
    cases q with
    | agg xs => exact .agg h
    | _ => simp at this
  size := hs

theorem zL_len {α : Type} {z : α → Nat} (h : ∀ a, 1 ≤ z a) (l : List α) : l.length + 1 ≤ zL z l := by
  unfold zL
  induction l with
  | nil => simp
  | cons a l ih => have := h a; simp at ih ⊢; omega
theorem zL_mem {α : Type} {z : α → Nat} {a : α} : ∀ {l : List α}, a ∈ l → z a + 1 ≤ zL z l
  | b :: l, h => by
    unfold zL
    rcases List.mem_cons.1 h with rfl | h
    · simp
    · have := zL_mem (z := z) h; unfold zL at this; simp; omega
end Go.Proofs.YtgpkochbmfhmdaaGreatDoor.Lift
namespace Go.Proofs.YtgpkochbmfhmdaaGreatDoor.Lift
open Go
set_option maxRecDepth 100000

theorem rd_int : Reads Tryz.prog 3 cInt (fun _ => 1) := reads_int Tryz.underlying3 (by kernel_rfl)
theorem rd_str : Reads Tryz.prog 9 cStr (fun s => s.length + 1) := reads_str Tryz.underlying9 (by kernel_rfl)
theorem rd_bool : Reads Tryz.prog 4 cBool (fun _ => 1) := reads_bool Tryz.underlying4 (by kernel_rfl)

def zTy (x : ATy) : Nat := 1 + (x.name.length + 1) + 1
theorem rd_Ty : Reads Tryz.prog 48 cTy zTy :=
  reads_struct (fun x : Int × Str × Unit => ⟨x.1, x.2.1⟩) zTy Tryz.underlying48
    (readsF_cons rd_int rfl (off' := 1) (by kernel_rfl) (readsF_cons rd_str rfl (by kernel_rfl) readsF_nil)) (fun _ => rfl) (fun _ => by simp [zTy]) (fun _ => rfl) (fun _ => by show 2 = _; kernel_rfl)
theorem rd_Tys : Reads Tryz.prog 135 (cL cTy) (zL zTy) := reads_slice Tryz.underlying135 rd_Ty (by kernel_rfl) (by kernel_rfl)
theorem zTy_pos (x : ATy) : 1 ≤ zTy x := by unfold zTy; omega
end Go.Proofs.YtgpkochbmfhmdaaGreatDoor.Lift
namespace Go.Proofs.YtgpkochbmfhmdaaGreatDoor.Lift
open Go
set_option maxRecDepth 100000

section
variable {H : Type} {enc : TypeId × Value → H} {P : Program} {w : World} {base : Nat} {sp : Nat → Bool} {held : Bool}
theorem cut_cells {c : Nat} : ∀ (n : Nat) (cs : List Value), cs.length = n * c → cs = ((List.range n).map fun i => (cs.drop (i * c)).take c).flatten
  | 0, cs, h => by
    have : cs = [] := List.eq_nil_of_length_eq_zero (by omega)
    subst this; rfl
  | n + 1, cs, h => by
    rw [Nat.succ_mul] at h
    have ih := cut_cells (c := c) n (cs.drop c) (by rw [List.length_drop]; omega)
    rw [List.range_succ_eq_map, List.map_cons, List.flatten_cons, List.map_map]
    have e : ((List.range n).map ((fun i => (cs.drop (i * c)).take c) ∘ Nat.succ)) = (List.range n).map fun i => ((cs.drop c).drop (i * c)).take c := List.map_congr_left fun i _ => by
      simp only [Function.comp, List.drop_drop, Nat.succ_mul]
      rw [Nat.add_comm]
    rw [e, ← ih]
    simp
theorem cells_of_arr {fuel : Nat} {t e : TypeId} {n : Nat} {cs : List Value} {ds : List (DataW H)} {p : List MemPlace} (F : DataW H → List Value) (ht : P.underlying t = some (.array n e)) (hct : P.cellsOf t = n * P.cellsOf e)
    (hF : ∀ (fuel : Nat) (cs' : List Value) (d : DataW H) (p : List MemPlace), DataW.trod enc P w base sp held fuel e cs' = some (d, p) → cs' = F d)
    (h : DataW.trod enc P w base sp held fuel t cs = some (.agg ds, p)) : cs = ds.flatMap F := by
  cases fuel with
  | zero => simp [DataW.trod] at h
  | succ fuel =>
    simp only [DataW.trod, ht] at h
    split at h
    · rename_i hl
      obtain ⟨xs, hm, hx⟩ := Option.map_eq_some_iff.1 h
      have hxs : xs.map (·.1) = ds := by
        have := congrArg Prod.fst hx
        simpa using this
      have hxl : xs.length = n := by simpa using Lib.mapM_length hm
      rw [cut_cells n cs (hl.trans hct), List.flatMap_def]
      congr 1
      apply List.ext_getElem?
      intro i
      by_cases hi : i < n
      · obtain ⟨b, hb, hf⟩ := Lib.mapM_at hm i i (by simp [hi])
        have h1 := hF fuel _ b.1 b.2 hf
        rw [← hxs]
        simp only [List.getElem?_map, hb, Option.map_some, List.getElem?_range hi]
        rw [← h1]
      · rw [List.getElem?_eq_none (by simp; omega), List.getElem?_eq_none (by rw [← hxs]; simp; omega)]
    · cases h
def F0 : DataW H → List Value
  | .lit (.int k z) => [.int k z]
  | .lit (.string s) => [.string ⟨s.toArray⟩]
  | _ => []
def F1 : DataW H → List Value
  | .agg ds => ds.flatMap F0
  | _ => []
theorem F0_str {e : TypeId} (he : P.underlying e = some .string) (fuel : Nat) (cs' : List Value) (d : DataW H) (p : List MemPlace) (h : DataW.trod enc P w base sp held fuel e cs' = some (d, p)) : cs' = F0 d := by
  obtain ⟨s, rfl, hx, _⟩ := DataW.trod_string he h
  cases hx
  simp [F0]
theorem F0_int {e : TypeId} {k : IntKind} (he : P.underlying e = some (.int k)) (fuel : Nat) (cs' : List Value) (d : DataW H) (p : List MemPlace) (h : DataW.trod enc P w base sp held fuel e cs' = some (d, p)) : cs' = F0 d := by
  obtain ⟨n, rfl, hx, _⟩ := DataW.trod_int he h
  cases hx
  rfl
theorem F1_arr {t e : TypeId} {n : Nat} (ht : P.underlying t = some (.array n e)) (he : P.underlying e = some .string) (hct : P.cellsOf t = n * P.cellsOf e) (fuel : Nat) (cs' : List Value) (d : DataW H) (p : List MemPlace) (h : DataW.trod enc P w base sp held fuel t cs' = some (d, p)) : cs' = F1 d := by
  have h' := h
  cases fuel with
  | zero => simp [DataW.trod] at h
  | succ fuel =>
    simp only [DataW.trod, ht] at h
    split at h
    · obtain ⟨xs, hm, hx⟩ := Option.map_eq_some_iff.1 h
      cases hx
      exact cells_of_arr F0 ht hct (F0_str he) h'
    · cases h
end
/-- what a variable of the list reads as -/
theorem laid_get {P : Program} {w : World} {n : String} {d : DataW Unit} : ∀ {l : List (String × DataW Unit)} {ps : List MemPlace}, DataW.LaidVars P w l ps → (n, d) ∈ l →
    ∃ g t cs fuel p, P.globalNamed n = some g ∧ (P.globals[g]?).map (·.type) = some t ∧ w.var? P n = some cs ∧ DataW.trod (fun _ => ()) P w 0 (fun _ => true) false fuel t cs.toList = some (d, p)
  | [], _, _, hm => by cases hm
  | (n', d') :: r, ps, h, hm => by
    obtain ⟨g, t, cs, fuel, p, q, h1, h2, h3, h4, h5, _⟩ := h
    rcases List.mem_cons.1 hm with e | hm
    · cases e
      exact ⟨g, t, cs, fuel, p, h1, h2, h3, h4⟩
    · exact laid_get h5 hm
/-- values of one cell -/
def one1 : Value → Bool
  | .int .. | .string _ => true
  | _ => false
theorem rep_one {G : Gh} {v : Value} (h : one1 v = true) : Rep G (ofConst v) v := by
  cases v <;> first | (cases h; done) | skip
  · exact .int _ _
  · exact .str _
theorem rep_cells {W : World} {g : Nat} {cs : Array Value} {t : TypeId} {fz : Nat × Nat} (h : W.heap[g]? = some (.cells cs t fz)) (hall : cs.toList.all one1 = true) : Rep (startG W) (.rp (.agg (cs.toList.map ofConst)) 0) (.pointer (some ⟨g, 0, none⟩)) := by
  have : RepCells (startG W) (cs.toList.map ofConst) g 0 := RepCells.of_get fun i x hx => by
    rw [List.getElem?_map] at hx
    obtain ⟨v, hv, rfl⟩ := Option.map_eq_some_iff.1 hx
    refine ⟨v, ?_, ?_, rep_one (List.all_eq_true.1 hall v (List.mem_of_getElem? hv))⟩
    · exact (Array.getElem?_eq_some_iff.1 h).1
    · rw [Nat.zero_add]
      unfold World.cell?
      simp only [startG, h]
      simpa using hv
  exact Rep.rp (x := .agg (cs.toList.map ofConst)) (off := 0) this
/-- a variable's cells, and how they lie -/
theorem glob_of {P : Program} {W : World} {laid : List (String × DataW Unit)} (h : laidMet P laid W) {name : String} {ds : List (DataW Unit)} (hm : (name, .agg ds) ∈ laid) {g : Nat} {t : TypeId} (hg : P.globalNamed name = some g) (hty : (P.globals[g]?).map (·.type) = some t)
    (F : DataW Unit → List Value) (hF : ∀ (fuel : Nat) (cs : List Value) (p : List MemPlace), DataW.trod (fun _ => ()) P W 0 (fun _ => true) false fuel t cs = some (.agg ds, p) → cs = ds.flatMap F) {v : AV} (hv : v = .agg ((ds.flatMap F).map ofConst)) (hall : (ds.flatMap F).all one1 = true) :
    Rep (startG W) (.rp v 0) (.pointer (some ⟨g, 0, none⟩)) := by
  obtain ⟨ps, hl, _⟩ := h
  obtain ⟨g', t', cs, fuel, p, h1, h2, h3, h4⟩ := laid_get hl hm
  obtain rfl := Option.some.inj (hg.symm.trans h1)
  obtain rfl := Option.some.inj (hty.symm.trans h2)
  have hc := hF fuel cs.toList p h4
  unfold World.var? at h3
  rw [hg] at h3
  simp only [Option.bind_some] at h3
  split at h3
  · rename_i cs' t' fz hb
    cases h3
    subst hv
    rw [← hc]
    exact rep_cells hb (by rw [hc]; exact hall)
  · cases h3
end Go.Proofs.YtgpkochbmfhmdaaGreatDoor.Lift
