/-
  LIFT, 20: FREEZING. A value that is read out of the store as a frozen one ('peek') stands for the same real value, once the store's blocks are frozen.
-/
import Derived.Test.YtbjgepnkakcjaaaDoorL19
namespace Go.Proofs.YtbjgepnkakcjaaaDoor.Lift
open Go

/-- what it takes for a value to keep what it stands for -/
structure ExtR (G H : Gh) : Prop where
  shape : ∀ (blk : Nat) (c : Array Value) e fz, G.w.heap[blk]? = some (.cells c e fz) → ∃ c', H.w.heap[blk]? = some (.cells c' e fz) ∧ c'.size = c.size
  frozen : ∀ b o, G.φ b o → H.φ b o
  cell : ∀ b o, G.φ b o → ∀ v, G.w.cell? ⟨b, o, none⟩ = some v → H.w.cell? ⟨b, o, none⟩ = some v
  fmap : ∀ (b : Nat) ents ck, G.φ b 0 → G.w.heap[b]? = some (.map ents ck) → H.w.heap[b]? = some (.map ents ck)
  id : ∀ (b : Nat) (k : ABlk), G.σ[b]? = some k → ∃ k' : ABlk, H.σ[b]? = some k' ∧ k.gen ≤ k'.gen ∧ k'.sz = k.sz
  at_ : ∀ (b : Nat) (k : ABlk) (g : Nat), G.σ[b]? = some k → g ≤ k.gen → H.ρ b g = G.ρ b g

theorem HasId.extR {G H : Gh} (x : ExtR G H) {b g : Nat} {sz : Option Nat} (h : HasId G b g sz) : HasId H b g sz := by
  obtain ⟨k, hk, hg, hs⟩ := h
  obtain ⟨k', hk', hg', hs'⟩ := x.id b k hk
  exact ⟨k', hk', Nat.le_trans hg hg', hs'.trans hs⟩
theorem HasId.rhoR {G H : Gh} (x : ExtR G H) {b g : Nat} {sz : Option Nat} (h : HasId G b g sz) : H.ρ b g = G.ρ b g := by
  obtain ⟨k, hk, hg, _⟩ := h
  exact x.at_ b k g hk hg

mutual
theorem Rep.extR {G H : Gh} (x : ExtR G H) {a : AV} {v : Value} (h : Rep G a v) : Rep H a v := by
  match h with
  | .undef v => exact .undef v
  | .bool b => exact .bool b
  | .int k n => exact .int k n
  | .str s => exact .str s
  | .nilp => exact .nilp
  | .ptr h hr => exact .ptr (h.extR x) ((h.rhoR x).trans hr)
  | .rp h => exact .rp (RepCells.extR x h)
  | .snil => exact .snil
  | .sl0 a cap => exact .sl0 a cap
  | .sl hl h => exact .sl hl (RepElems.extR x h)
  | .sr0 h hr => exact .sr0 (h.extR x) ((h.rhoR x).trans hr)
  | .sr h hr hl hb hc =>
    obtain ⟨c', hb', hs⟩ := x.shape _ _ _ _ hb
    exact .sr (h.extR x) ((h.rhoR x).trans hr) hl hb' (by rw [hs]; exact hc)
  | .srE h hr ho => exact .srE (h.extR x) ((h.rhoR x).trans hr) ho
  | .fn h1 h2 => exact .fn (RepL.extR x h1) (RepL.extR x h2)
  | .nilf => exact .nilf
  | .nilm => exact .nilm
  | .mv hb hf h => exact .mv (x.fmap _ _ _ hf hb) (x.frozen _ _ hf) (RepE.extR x h)
  | .mv0 => exact .mv0
  | .mr h hr => exact .mr (h.extR x) ((h.rhoR x).trans hr)
  | .agg h => exact .agg (RepL.extR x h)
  | .tup h => exact .tup (RepL.extR x h)
theorem RepL.extR {G H : Gh} (x : ExtR G H) {a : List AV} {v : List Value} (h : RepL G a v) : RepL H a v := by
  match h with
  | .nil => exact .nil
  | .cons h t => exact .cons (Rep.extR x h) (RepL.extR x t)
theorem RepCells.extR {G H : Gh} (x : ExtR G H) {a : List AV} {b o : Nat} (h : RepCells G a b o) : RepCells H a b o := by
  match h with
  | .nil _ _ => exact .nil _ _
  | .cons hf hc h t => exact .cons (x.frozen _ _ hf) (x.cell _ _ hf _ hc) (Rep.extR x h) (RepCells.extR x t)
theorem RepElems.extR {G H : Gh} (x : ExtR G H) {a : List AV} {b o sz : Nat} (h : RepElems G a b o sz) : RepElems H a b o sz := by
  match h with
  | .nil _ _ _ => exact .nil _ _ _
  | .cons hs h t => exact .cons hs (RepCells.extR x h) (RepElems.extR x t)
theorem RepE.extR {G H : Gh} (x : ExtR G H) {a : List (AV × AV)} {v : List MapEntry} (h : RepE G a v) : RepE H a v := by
  match h with
  | .nil => exact .nil
  | .cons hk h1 h2 t => exact .cons hk (Rep.extR x h1) (Rep.extR x h2) (RepE.extR x t)
end


/-- the cells that the store's blocks hold -/
def Held (G : Gh) (b o : Nat) : Prop :=
  (∃ b' sz g lo xs, G.σ[b']? = some (.row sz g lo xs) ∧ G.ρ b' g = some b ∧ o < xs.length * sz) ∨ ∃ b' es, G.σ[b']? = some (.map es) ∧ G.ρ b' 0 = some b

theorem Held.owned {G : Gh} {b o : Nat} (h : Held G b o) : Owned G b := by
  rcases h with ⟨b', sz, g, lo, xs, h1, h2, _⟩ | ⟨b', es, h1, h2⟩
  · exact ⟨b', _, h1, h2⟩
  · exact ⟨b', _, h1, h2⟩

theorem elems_of_row {G H : Gh} (hw : H.w = G.w) {xs : List AV} {c : Array Value} {sz blk : Nat} {e : TypeId} {fz : Nat × Nat} (hb : G.w.heap[blk]? = some (.cells c e fz)) (hr : RowAt G xs c sz) {ys : List AV} {off : Nat}
    (hφ : ∀ o, o < xs.length * sz → H.φ blk o) (hy : ∀ (i : Nat) (y : AV), ys[i]? = some y → ∃ x, xs[off + i]? = some x ∧ y.cells.length = x.cells.length ∧ ∀ (j : Nat) (p q : AV) (v : Value), x.cells[j]? = some p → y.cells[j]? = some q → Rep G p v → Rep H q v) :
    RepElems H ys blk (off * sz) sz := by
  refine RepElems.of_get fun i y hyi => ?_
  obtain ⟨x, hx, hl, hc⟩ := hy i y hyi
  obtain ⟨h1, h2⟩ := hr (off + i) x hx
  refine ⟨hl.trans h1, RepCells.of_get fun j q hq => ?_⟩
  have hjlt : j < x.cells.length := by
    have := (List.getElem?_eq_some_iff.1 hq).1
    omega
  obtain ⟨u, h3, h4⟩ := h2 j x.cells[j] (by simp [hjlt])
  have hlt : off + i < xs.length := (List.getElem?_eq_some_iff.1 hx).1
  have hlt2 : (off + i) * sz + j < xs.length * sz := by
    have : (off + i + 1) * sz ≤ xs.length * sz := Nat.mul_le_mul_right _ hlt
    rw [Nat.add_mul, Nat.one_mul] at this
    omega
  have e1 : off * sz + i * sz + j = (off + i) * sz + j := by rw [Nat.add_mul]
  refine ⟨u, ?_, ?_, hc j _ q u (by simp [hjlt]) hq h4⟩
  · rw [e1]; exact hφ _ hlt2
  · rw [e1, hw]
    simp only [World.cell?, hb]
    simpa using h3

/-- what a frozen value needs to keep what it stands for -/
structure ExtF (G H : Gh) : Prop where
  frozen : ∀ b o, G.φ b o → H.φ b o
  cell : ∀ b o, G.φ b o → ∀ v, G.w.cell? ⟨b, o, none⟩ = some v → H.w.cell? ⟨b, o, none⟩ = some v
  fmap : ∀ (b : Nat) ents ck, G.φ b 0 → G.w.heap[b]? = some (.map ents ck) → H.w.heap[b]? = some (.map ents ck)

theorem fz_cells {x : AV} (h : fz x = true) : fzL x.cells = true := by
  cases x <;> simp_all [AV.cells, fz, fzL]

mutual
theorem fz_rep {G H : Gh} (x : ExtF G H) {a : AV} {v : Value} (hz : fz a = true) (h : Rep G a v) : Rep H a v := by
  match h with
  | .undef v => exact .undef v
  | .bool b => exact .bool b
  | .int k n => exact .int k n
  | .str s => exact .str s
  | .nilp => exact .nilp
  | .ptr h hr => cases hz
  | .rp h => exact .rp (fz_repCells x (fz_cells (by simpa [fz] using hz)) h)
  | .snil => exact .snil
  | .sl0 a cap => exact .sl0 a cap
  | .sl hl h => exact .sl hl (fz_repElems x (by simpa [fz] using hz) h)
  | .sr0 h hr => cases hz
  | .sr h hr hl hb hc => cases hz
  | .srE h hr ho => cases hz
  | .fn h1 h2 =>
    simp only [fz, Bool.and_eq_true] at hz
    exact .fn (fz_repL x hz.1 h1) (fz_repL x hz.2 h2)
  | .nilf => exact .nilf
  | .nilm => exact .nilm
  | .mv hb hf h => exact .mv (x.fmap _ _ _ hf hb) (x.frozen _ _ hf) (fz_repE x (by simpa [fz] using hz) h)
  | .mv0 => exact .mv0
  | .mr h hr => cases hz
  | .agg h => exact .agg (fz_repL x (by simpa [fz] using hz) h)
  | .tup h => exact .tup (fz_repL x (by simpa [fz] using hz) h)
theorem fz_repL {G H : Gh} (x : ExtF G H) {a : List AV} {v : List Value} (hz : fzL a = true) (h : RepL G a v) : RepL H a v := by
  match h with
  | .nil => exact .nil
  | .cons h t =>
    simp only [fzL, Bool.and_eq_true] at hz
    exact .cons (fz_rep x hz.1 h) (fz_repL x hz.2 t)
theorem fz_repCells {G H : Gh} (x : ExtF G H) {a : List AV} {b o : Nat} (hz : fzL a = true) (h : RepCells G a b o) : RepCells H a b o := by
  match h with
  | .nil _ _ => exact .nil _ _
  | .cons hf hc h t =>
    simp only [fzL, Bool.and_eq_true] at hz
    exact .cons (x.frozen _ _ hf) (x.cell _ _ hf _ hc) (fz_rep x hz.1 h) (fz_repCells x hz.2 t)
theorem fz_repElems {G H : Gh} (x : ExtF G H) {a : List AV} {b o sz : Nat} (hz : fzL a = true) (h : RepElems G a b o sz) : RepElems H a b o sz := by
  match h with
  | .nil _ _ _ => exact .nil _ _ _
  | .cons hs h t =>
    simp only [fzL, Bool.and_eq_true] at hz
    exact .cons hs (fz_repCells x (fz_cells hz.1) h) (fz_repElems x hz.2 t)
theorem fz_repE {G H : Gh} (x : ExtF G H) {a : List (AV × AV)} {v : List MapEntry} (hz : fzE a = true) (h : RepE G a v) : RepE H a v := by
  match h with
  | .nil => exact .nil
  | .cons hk h1 h2 t =>
    simp only [fzE, Bool.and_eq_true] at hz
    exact .cons hk (fz_rep x hz.1.1 h1) (fz_rep x hz.1.2 h2) (fz_repE x hz.2 t)
end

theorem mapO_get {α β : Type} {f : α → Option β} : ∀ {l : List α} {r : List β}, mapO f l = some r → r.length = l.length ∧ ∀ (i : Nat) y, r[i]? = some y → ∃ x, l[i]? = some x ∧ f x = some y
  | [], r, h => by cases h; exact ⟨rfl, fun i y h => by simp at h⟩
  | x :: l, r, h => by
    simp only [mapO] at h
    split at h
    · rename_i a b ha hb
      cases h
      obtain ⟨h1, h2⟩ := mapO_get hb
      refine ⟨by simp [h1], fun i y hy => ?_⟩
      cases i with
      | zero => simp at hy; subst hy; exact ⟨x, rfl, ha⟩
      | succ i => simpa using h2 i y (by simpa using hy)
    · cases h

theorem mapO_repL {G H : Gh} {f : AV → Option AV} {l r : List AV} {vs : List Value} (h : mapO f l = some r) (hf : ∀ x y v, f x = some y → Rep G x v → Rep H y v) (hr : RepL G l vs) : RepL H r vs := by
  obtain ⟨h1, h2⟩ := mapO_get h
  refine RepL.of_get (h1.trans hr.length) fun i y u hy hu => ?_
  obtain ⟨x, hx, hxy⟩ := h2 i y hy
  obtain ⟨u', hu', hr'⟩ := hr.get hx
  rw [hu] at hu'
  cases hu'
  exact hf x y u hxy hr'

theorem peek_fz {st : Sto} {d : Nat} {v : AV} (h : fz v = true) : peek st d v = some v := by
  cases d <;> simp [peek, h]
theorem mapO_mono {α β : Type} {f g : α → Option β} (h : ∀ x y, f x = some y → g x = some y) : ∀ {l : List α} {r : List β}, mapO f l = some r → mapO g l = some r
  | [], _, h' => h'
  | x :: l, r, h' => by
    simp only [mapO] at h' ⊢
    split at h'
    · rename_i a b ha hb
      rw [h _ _ ha, mapO_mono h hb]
      exact h'
    · cases h'
theorem peek_succ (st : Sto) (d : Nat) (v : AV) : peek st (d + 1) v = if fz v then some v else peek1 st (peek st d) v := rfl
theorem peek_mono {st : Sto} : ∀ (d : Nat) (a b : AV), peek st d a = some b → peek st (d + 1) a = some b := by
  intro d
  induction d with
  | zero =>
    intro a b h
    simp only [peek] at h
    split at h
    · cases h; exact peek_fz ‹_›
    · cases h
  | succ d ih =>
    intro a b h
    rw [peek_succ] at h ⊢
    split at h
    · rename_i hz; rw [if_pos hz]; exact h
    · rename_i hz
      rw [if_neg hz]
      cases a with
      | sl xs =>
        simp only [peek1] at h ⊢
        obtain ⟨r, h1, rfl⟩ := Option.map_eq_some_iff.1 h
        simp only [mapO_mono ih h1, Option.map_some]
      | sr b' g off len =>
        simp only [peek1] at h ⊢
        cases hb : st[b']? with
        | none => rw [hb] at h; cases h
        | some k =>
          rw [hb] at h
          cases k with
          | map es => cases h
          | row sz g' lo xs =>
            simp only at h ⊢
            split at h
            · rename_i hc
              rw [if_pos hc]
              obtain ⟨r, h1, rfl⟩ := Option.map_eq_some_iff.1 h
              simp only [mapO_mono ih h1, Option.map_some]
            · cases h
      | ptr b' g i off =>
        simp only [peek1] at h ⊢
        cases hb : st[b']? with
        | none => rw [hb] at h; cases h
        | some k =>
          rw [hb] at h
          cases k with
          | map es => cases h
          | row sz g' lo xs =>
            simp only at h ⊢
            split at h
            · rename_i hc
              rw [if_pos hc]
              cases hx : xs[i]? with
              | none => rw [hx] at h; cases h
              | some x =>
                rw [hx] at h
                obtain ⟨r, h1, rfl⟩ := Option.map_eq_some_iff.1 h
                simp only [ih _ _ h1, Option.map_some]
            · cases h
      | fn f a1 b1 =>
        simp only [peek1] at h ⊢
        split at h
        · rename_i a' b' ha hb
          rw [mapO_mono ih ha, mapO_mono ih hb]
          exact h
        · cases h
      | agg cs =>
        simp only [peek1] at h ⊢
        obtain ⟨r, h1, rfl⟩ := Option.map_eq_some_iff.1 h
        simp only [mapO_mono ih h1, Option.map_some]
      | tup cs =>
        simp only [peek1] at h ⊢
        obtain ⟨r, h1, rfl⟩ := Option.map_eq_some_iff.1 h
        simp only [mapO_mono ih h1, Option.map_some]
      | _ => exact h

theorem fzL_mem : ∀ {l : List AV}, fzL l = true → ∀ p ∈ l, fz p = true
  | [], _, p, hp => by cases hp
  | a :: l, hl, p, hp => by
    simp only [fzL, Bool.and_eq_true] at hl
    rcases List.mem_cons.1 hp with rfl | hp
    · exact hl.1
    · exact fzL_mem hl.2 p hp

/-- peek, cell by cell -/
theorem peek_cells {st : Sto} {d : Nat} {x y : AV} (h : peek st d x = some y) : y.cells.length = x.cells.length ∧ ∀ (j : Nat) p q, x.cells[j]? = some p → y.cells[j]? = some q → peek st d p = some q := by
  have one : ∀ {y : AV}, x.cells = [x] → y.cells = [y] → peek st d x = some y → y.cells.length = x.cells.length ∧ ∀ (j : Nat) p q, x.cells[j]? = some p → y.cells[j]? = some q → peek st d p = some q := by
    intro y hx hy h
    rw [hx, hy]
    refine ⟨rfl, fun j p q hp hq => ?_⟩
    cases j with
    | zero => simp at hp hq; subst hp; subst hq; exact h
    | succ j => simp at hp
  by_cases hz : fz x = true
  · rw [peek_fz hz] at h
    cases h
    refine ⟨rfl, fun j p q hp hq => ?_⟩
    rw [hp] at hq
    cases hq
    exact peek_fz (fzL_mem (fz_cells hz) p (List.mem_of_getElem? hp))
  · cases d with
    | zero => simp [peek, hz] at h
    | succ d =>
      have h0 := h
      rw [peek_succ, if_neg hz, peek1.eq_def] at h
      cases x with
      | agg cs =>
        obtain ⟨a, ha, rfl⟩ := Option.map_eq_some_iff.1 h
        obtain ⟨h1, h2⟩ := mapO_get ha
        refine ⟨h1, fun j p q hp hq => ?_⟩
        obtain ⟨x, hx, hf⟩ := h2 j q hq
        simp only [AV.cells] at hp
        rw [hx] at hp
        cases hp
        exact peek_mono _ _ _ hf
      | snil => cases h; exact one rfl rfl h0
      | sl xs => obtain ⟨a, _, rfl⟩ := Option.map_eq_some_iff.1 h; exact one rfl rfl h0
      | tup xs => obtain ⟨a, _, rfl⟩ := Option.map_eq_some_iff.1 h; exact one rfl rfl h0
      | sr b g off len =>
        simp only at h
        split at h
        · split at h
          · obtain ⟨a, _, rfl⟩ := Option.map_eq_some_iff.1 h; exact one rfl rfl h0
          · cases h
        · cases h
      | ptr b g i off =>
        simp only at h
        split at h
        · split at h
          · split at h
            · obtain ⟨a, _, rfl⟩ := Option.map_eq_some_iff.1 h; exact one rfl rfl h0
            · cases h
          · cases h
        · cases h
      | mr b =>
        simp only at h
        split at h
        · split at h
          · cases h; exact one rfl rfl h0
          · cases h
        · cases h
      | fn f a b =>
        simp only at h
        split at h
        · cases h; exact one rfl rfl h0
        · cases h
      | _ => cases h

set_option maxHeartbeats 1000000 in
theorem peek_rep {G H : Gh} (inv : Inv G) (x : ExtF G H) (hw : H.w = G.w) (hh : ∀ b o, Held G b o → H.φ b o) : ∀ (d : Nat) {v v' : AV} {u : Value}, peek G.σ d v = some v' → Rep G v u → Rep H v' u := by
  intro d
  induction d with
  | zero =>
    intro v v' u h hr
    simp only [peek] at h
    split at h
    · cases h; exact fz_rep x ‹_› hr
    · cases h
  | succ d ih =>
    intro v v' u h hr
    by_cases hz : fz v = true
    · rw [peek_fz hz] at h
      cases h
      exact fz_rep x hz hr
    rw [peek_succ, if_neg hz, peek1.eq_def] at h
    -- the cells of an element that was read
    have cells : ∀ {p q : AV}, peek G.σ d p = some q → q.cells.length = p.cells.length ∧ ∀ (j : Nat) (a b : AV) (v : Value), p.cells[j]? = some a → q.cells[j]? = some b → Rep G a v → Rep H b v := fun {p q} hpq =>
      ⟨(peek_cells hpq).1, fun j a b v ha hb hr => ih ((peek_cells hpq).2 j a b ha hb) hr⟩
    cases v with
    | snil =>
      cases h
      cases hr
      exact .sl0 _ _
    | sl xs =>
      obtain ⟨ys, hys, rfl⟩ := Option.map_eq_some_iff.1 h
      obtain ⟨h1, h2⟩ := mapO_get hys
      cases hr with
      | sl0 a cap =>
        cases ys with
        | nil => exact .sl0 _ _
        | cons y ys => simp at h1
      | sl hl hE =>
        rename_i blk o sz cap
        rw [← h1]
        refine .sl (sz := sz) (by omega) (RepElems.of_get fun i y hy => ?_)
        · obtain ⟨p, hp, hpq⟩ := h2 i y hy
          obtain ⟨h3, h4⟩ := hE.get hp
          obtain ⟨h5, h6⟩ := cells hpq
          refine ⟨h5.trans h3, RepCells.of_get fun j q hq => ?_⟩
          have hjlt : j < p.cells.length := by
            have := (List.getElem?_eq_some_iff.1 hq).1
            omega
          obtain ⟨u, g1, g2, g3⟩ := h4.get (i := j) (x := p.cells[j]) (by simp [hjlt])
          exact ⟨u, x.frozen _ _ g1, x.cell _ _ g1 _ g2, h6 j _ q u (by simp [hjlt]) hq g3⟩
    | sr b g off len =>
      simp only at h
      cases hb : G.σ[b]? with
      | none => rw [hb] at h; cases h
      | some k =>
        rw [hb] at h
        cases k with
        | map es => cases h
        | row sz g' lo xs =>
          simp only at h
          split at h
          · rename_i hc
            obtain ⟨rfl, hlen⟩ := hc
            obtain ⟨ys, hys, rfl⟩ := Option.map_eq_some_iff.1 h
            obtain ⟨h1, h2⟩ := mapO_get hys
            have hyl : ys.length = len := by rw [h1]; simp; omega
            obtain ⟨r1, r2, r3⟩ := inv.rows b sz g lo xs hb
            cases hr with
            | sr0 hI hρ =>
              cases ys with
              | nil => exact .sl0 _ _
              | cons y ys => simp at hyl
            | srE hI hρ ho =>
              cases ys with
              | nil => exact .sl0 _ _
              | cons y ys => simp at hyl
            | sr hI hρ hl hb' hc' =>
              rename_i sz' blk cap c e fz'
              obtain ⟨k', hk', _, hs'⟩ := hI
              rw [hb] at hk'
              cases hk'
              simp only [ABlk.sz, Option.some.injEq] at hs'
              subst hs'
              obtain ⟨c2, e2, fz2, hb2, _, hrow, _⟩ := r2 blk hρ
              have := elems_of_row (G := G) (H := H) hw hb2 hrow (ys := ys) (off := off) (fun o ho => hh _ _ (.inl ⟨b, sz, g, lo, xs, hb, hρ, ho⟩)) (fun i y hy => by
                obtain ⟨p, hp, hpq⟩ := h2 i y hy
                obtain ⟨h5, h6⟩ := cells hpq
                refine ⟨p, ?_, h5, h6⟩
                have hi : i < len := by have := (List.getElem?_eq_some_iff.1 hy).1; omega
                simpa [List.getElem?_take, List.getElem?_drop, hi] using hp)
              have h7 := Rep.sl (G := H) (cap := cap) (by omega) this
              rw [hyl] at h7
              exact h7
          · cases h
    | ptr b g i off =>
      simp only at h
      cases hb : G.σ[b]? with
      | none => rw [hb] at h; cases h
      | some k =>
        rw [hb] at h
        cases k with
        | map es => cases h
        | row sz g' lo xs =>
          simp only at h
          split at h
          · rename_i hc
            subst hc
            cases hx : xs[i]? with
            | none => rw [hx] at h; cases h
            | some p =>
              rw [hx] at h
              obtain ⟨y, hy, rfl⟩ := Option.map_eq_some_iff.1 h
              obtain ⟨r1, r2, r3⟩ := inv.rows b sz g lo xs hb
              cases hr with
              | ptr hI hρ =>
                rename_i sz' blk
                obtain ⟨k', hk', _, hs'⟩ := hI
                rw [hb] at hk'
                cases hk'
                simp only [ABlk.sz, Option.some.injEq] at hs'
                subst hs'
                obtain ⟨c2, e2, fz2, hb2, _, hrow, _⟩ := r2 blk hρ
                have := elems_of_row (G := G) (H := H) hw hb2 hrow (ys := [y]) (off := i) (fun o ho => hh _ _ (.inl ⟨b, sz, g, lo, xs, hb, hρ, ho⟩)) (fun k z hz => by
                  cases k with
                  | zero =>
                    simp at hz
                    subst hz
                    obtain ⟨h5, h6⟩ := cells hy
                    exact ⟨p, by simpa using hx, h5, h6⟩
                  | succ k => simp at hz)
                have h8 := (this.get (i := 0) (x := y) rfl).2
                simp only [Nat.zero_mul, Nat.add_zero] at h8
                exact .rp h8
          · cases h
    | mr b =>
      simp only at h
      cases hb : G.σ[b]? with
      | none => rw [hb] at h; cases h
      | some k =>
        rw [hb] at h
        cases k with
        | row sz g' lo xs => cases h
        | map es =>
          simp only at h
          split at h
          · rename_i hz
            cases h
            obtain ⟨blk, ents, ck, m1, m2, m3, _⟩ := inv.maps b es hb
            cases hr with
            | mr hI hρ =>
              rw [m1] at hρ
              cases hρ
              exact .mv (by rw [hw]; exact m2) (hh _ _ (.inr ⟨b, es, hb, m1⟩)) (fz_repE x hz m3)
          · cases h
    | fn f a b =>
      simp only at h
      split at h
      · rename_i a' b' ha hb
        cases h
        cases hr with
        | fn h1 h2 => exact .fn (mapO_repL ha (fun _ _ _ h hr => ih h hr) h1) (mapO_repL hb (fun _ _ _ h hr => ih h hr) h2)
      · cases h
    | agg cs =>
      obtain ⟨r, h1, rfl⟩ := Option.map_eq_some_iff.1 h
      cases hr with
      | agg hl => exact .agg (mapO_repL h1 (fun _ _ _ h hr => ih h hr) hl)
    | tup cs =>
      obtain ⟨r, h1, rfl⟩ := Option.map_eq_some_iff.1 h
      cases hr with
      | tup hl => exact .tup (mapO_repL h1 (fun _ _ _ h hr => ih h hr) hl)
    | _ => cases h
end Go.Proofs.YtbjgepnkakcjaaaDoor.Lift
