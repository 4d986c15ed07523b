/-
  LIFT, 14: maps.
-/
import Derived.Test.YtbjgepnkakcjaaaDoorL13
namespace Go.Proofs.YtbjgepnkakcjaaaDoor.Lift
open Go

theorem ext_mput {G : Gh} (inv : Inv G) {w : World} {b : Nat} {es es' : List (AV × AV)} {blk : Nat} {ents ents' : Array MapEntry} {ck ck' : Nat}
    (hb : G.σ[b]? = some (.map es)) (hr : G.ρ b 0 = some blk) (hc : G.w.heap[blk]? = some (.map ents ck)) (hw : w = { G.w with heap := G.w.heap.setIfInBounds blk (.map ents' ck') }) : Ext G (G.turn w b (.map es') (some blk)) := by
  have hlt := (Array.getElem?_eq_some_iff.1 hc).1
  have hother : ∀ j, j ≠ blk → w.heap[j]? = G.w.heap[j]? := fun j hj => by rw [hw]; simp only; rw [Array.getElem?_setIfInBounds_ne (by omega)]
  have hφ : ∀ o, ¬ G.φ blk o := by
    obtain ⟨blk', _, _, q1, _, _, q4⟩ := inv.maps b es hb
    rw [hr] at q1; cases q1; exact q4
  have hρ : ∀ b' g', (G.turn w b (.map es') (some blk)).ρ b' g' = G.ρ b' g' := fun b' g' => by
    show (if b' = b ∧ g' = 0 then some blk else G.ρ b' g') = G.ρ b' g'
    by_cases h : b' = b ∧ g' = 0
    · rw [if_pos h]; obtain ⟨rfl, rfl⟩ := h; exact hr.symm
    · rw [if_neg h]
  refine { os := by rw [Gh.turn, hw], tape := by rw [Gh.turn, hw], output := by rw [Gh.turn, hw], size := by simp [Gh.turn, hw], old := ?_, shape := ?_, frozen := fun _ _ h => h, cell := ?_, fmap := ?_, thaw := fun _ _ h _ => .inl h, len := by simp [Gh.turn], id := ?_, at_ := fun b' _ g' _ _ => hρ b' g', own := ?_ }
  · intro k hk ho
    exact hother k fun e => ho (e ▸ ⟨b, _, hb, hr⟩)
  · intro k d e' fz' hk
    by_cases ek : k = blk
    · subst ek; rw [hc] at hk; cases hk
    · exact ⟨d, (hother k ek).trans hk, rfl⟩
  · intro k o ho
    by_cases ek : k = blk
    · subst ek; exact absurd ho (hφ o)
    · exact World.cell?_of_block (a := ⟨k, o, none⟩) (hother k ek)
  · intro k ents ck ho hk
    by_cases ek : k = blk
    · subst ek; exact absurd ho (hφ 0)
    · exact (hother k ek).trans hk
  · intro b' k' hk'
    by_cases eb : b' = b
    · subst eb
      rw [hb] at hk'
      cases hk'
      exact ⟨_, sto_set_same hb, Nat.le_refl _, rfl⟩
    · exact ⟨k', (sto_set_other eb).trans hk', Nat.le_refl _, rfl⟩
  · rintro k ⟨b', k', hk', hr'⟩
    rw [hρ] at hr'
    rcases sto_set_cases hk' with ⟨_, h⟩ | ⟨h1, h2, _⟩
    · exact .inr ⟨b', k', h, hr'⟩
    · subst h1 h2
      exact .inr ⟨b', _, hb, hr'⟩

theorem inv_mput {G : Gh} (inv : Inv G) {w : World} {b : Nat} {es es' : List (AV × AV)} {blk : Nat} {ents ents' : Array MapEntry} {ck ck' : Nat}
    (hb : G.σ[b]? = some (.map es)) (hr : G.ρ b 0 = some blk) (hc : G.w.heap[blk]? = some (.map ents ck)) (hw : w = { G.w with heap := G.w.heap.setIfInBounds blk (.map ents' ck') })
    (x : Ext G (G.turn w b (.map es') (some blk))) (hE : RepE G es' ents'.toList) : Inv (G.turn w b (.map es') (some blk)) := by
  have hlt := (Array.getElem?_eq_some_iff.1 hc).1
  have hsame : w.heap[blk]? = some (.map ents' ck') := by rw [hw]; simp [hlt]
  have hother : ∀ j, j ≠ blk → w.heap[j]? = G.w.heap[j]? := fun j hj => by rw [hw]; simp only; rw [Array.getElem?_setIfInBounds_ne (by omega)]
  have hρ : ∀ b' g', (G.turn w b (.map es') (some blk)).ρ b' g' = G.ρ b' g' := fun b' g' => by
    show (if b' = b ∧ g' = 0 then some blk else G.ρ b' g') = G.ρ b' g'
    by_cases h : b' = b ∧ g' = 0
    · rw [if_pos h]; obtain ⟨rfl, rfl⟩ := h; exact hr.symm
    · rw [if_neg h]
  have hne : ∀ b' k' blk', b' ≠ b → G.σ[b']? = some k' → G.ρ b' k'.gen = some blk' → blk' ≠ blk := fun b' k' blk' hne hk' hr' e => hne (inv.inj b' b k' _ blk hk' hb (e ▸ hr') hr)
  refine { rows := ?_, maps := ?_, inj := ?_, lt := fun k o h => Nat.lt_of_lt_of_le (inv.lt k o h) x.size }
  · intro b' s g' lo' zs hk'
    rcases sto_set_cases hk' with ⟨hb', hk'⟩ | ⟨h1, h2, _⟩
    · obtain ⟨r1, r2, r3⟩ := inv.rows b' s g' lo' zs hk'
      refine ⟨r1, fun blk' hblk => ?_, fun hn => r3 ((hρ _ _).symm.trans hn)⟩
      rw [hρ] at hblk
      obtain ⟨d, e', fz', q1, q2, q3, q4⟩ := r2 blk' hblk
      exact ⟨d, e', fz', (hother blk' (hne b' _ blk' hb' hk' hblk)).trans q1, q2, q3.ext x, q4⟩
    · cases h2
  · intro b' es2 hk'
    rcases sto_set_cases hk' with ⟨hb', hk'⟩ | ⟨h1, h2, _⟩
    · obtain ⟨blk', ents2, ck2, q1, q2, q3, q4⟩ := inv.maps b' es2 hk'
      exact ⟨blk', ents2, ck2, (hρ _ _).trans q1, (hother blk' (hne b' _ blk' hb' hk' q1)).trans q2, q3.ext x, q4⟩
    · cases h2
      subst h1
      obtain ⟨blk', ents2, ck2, q1, q2, q3, q4⟩ := inv.maps b' es hb
      rw [hr] at q1; cases q1
      exact ⟨blk, ents', ck', (hρ _ _).trans hr, hsame, hE.ext x, q4⟩
  · intro b1 b2 k1 k2 bk h1 h2 hr1 hr2
    rw [hρ] at hr1 hr2
    rcases sto_set_cases h1 with ⟨e1, q1⟩ | ⟨e1, f1, _⟩ <;> rcases sto_set_cases h2 with ⟨e2, q2⟩ | ⟨e2, f2, _⟩
    · exact inv.inj b1 b2 k1 k2 bk q1 q2 hr1 hr2
    · subst e2 f2
      exact inv.inj b1 b2 k1 _ bk q1 hb hr1 hr2
    · subst e1 f1
      exact inv.inj b1 b2 _ k2 bk hb q2 hr1 hr2
    · omega

section
variable {P : Program} {G : Gh}

/-- a key's kind -/
def keyD : TypeDesc → Value → Bool
  | .int k, .int j _ => decide (j = k)
  | .string, .string _ => true
  | .bool, .bool _ => true
  | _, _ => false

theorem keyTD_rep {d : TypeDesc} {x : AV} {v : Value} (hx : Rep G x v) (h : keyTD (tdOf d) x = true) : keyD d v = true ∧ isKey x = true := by
  cases d <;> simp only [tdOf] at h <;> cases x <;> first
    | (cases h; done)
    | (cases hx; exact ⟨h, rfl⟩)
    | (cases hx; exact ⟨rfl, rfl⟩)

theorem sameNow_rep {d : TypeDesc} {k x : AV} {vk vx : Value} (hk : Rep G k vk) (hx : Rep G x vx) (hd : keyD d vx = true) {b : Bool} (h : keyEq k x = some b) : Instr.sameNow d vx vk = some b ∧ (b = true → vk = vx) := by
  cases hk <;> cases hx <;> simp only [keyEq] at h <;> first
    | (cases h; done)
    | skip
  · cases h
    cases d <;> first
      | (cases hd; done)
      | (refine ⟨?_, fun hb => by simp at hb; rw [hb]⟩
         simp only [Instr.sameNow]
         rename_i a c
         cases a <;> cases c <;> rfl)
  · split at h
    · rename_i hk
      subst hk
      cases h
      cases d <;> first
        | (cases hd; done)
        | (refine ⟨?_, fun hb => by simp at hb; rw [hb]⟩
           simp only [Instr.sameNow, if_true]
           rw [beq_decide]
           congr 2
           exact propext eq_comm)
    · cases h
  · cases h
    rename_i s1 s2
    cases d <;> first
      | (cases hd; done)
      | (refine ⟨?_, fun hb => ?_⟩
         · simp only [Instr.sameNow]
           rw [beq_toListBytes, ByteArray.toList_eq, ByteArray.toList_eq, beq_decide]
           congr 2
           exact propext eq_comm
         · simp only [decide_eq_true_eq] at hb
           obtain ⟨⟨l1⟩⟩ := s1
           obtain ⟨⟨l2⟩⟩ := s2
           simp at hb
           rw [hb])

theorem findNow_get {d : TypeDesc} {x : AV} {vx : Value} (hx : Rep G x vx) (hd : keyD d vx = true) : ∀ {es : List (AV × AV)} {ents : List MapEntry} {r : Option AV} (i : Nat), RepE G es ents → mget es x = some r →
    match r with
    | none => Instr.findNow d vx ents i = some none
    | some v => ∃ j u, Instr.findNow d vx ents i = some (some (i + j, u)) ∧ Rep G v u
  | [], [], r, i, _, h => by cases h; rfl
  | (k, v) :: es, e :: ents, r, i, hE, h => by
    cases hE with
    | cons hk h1 h2 t =>
      simp only [mget] at h
      split at h
      · rename_i hq
        cases h
        obtain ⟨q, _⟩ := sameNow_rep h1 hx hd hq
        exact ⟨0, e.val, by simp only [Instr.findNow, q, Nat.add_zero], h2⟩
      · rename_i hq
        obtain ⟨q, _⟩ := sameNow_rep h1 hx hd hq
        have := findNow_get hx hd (i + 1) t h
        cases r with
        | none => simp only [Instr.findNow, q]; exact this
        | some v' =>
          obtain ⟨j, u, p1, p2⟩ := this
          exact ⟨j + 1, u, by simp only [Instr.findNow, q, p1]; congr 3; omega, p2⟩
      · cases h
  | [], _ :: _, _, _, hE, _ => by cases hE
  | _ :: _, [], _, _, hE, _ => by cases hE

theorem findNow_set {d : TypeDesc} {x : AV} {vx : Value} (hx : Rep G x vx) (hik : isKey x = true) (hd : keyD d vx = true) {v : AV} {u : Value} (hv : Rep G v u) : ∀ {es es' : List (AV × AV)} {ents : List MapEntry} (i : Nat), RepE G es ents → mset es x v = some es' →
    (Instr.findNow d vx ents i = some none ∧ ∀ c, RepE G es' (ents ++ [{ key := vx, val := u, born := c }])) ∨
    (∃ j o e, Instr.findNow d vx ents i = some (some (i + j, o)) ∧ ents[j]? = some e ∧ e.key = vx ∧ RepE G es' (ents.modify j fun e => { e with key := vx, val := u }))
  | [], es', [], i, _, h => by cases h; exact .inl ⟨rfl, fun c => .cons hik hx hv .nil⟩
  | (k, w) :: es, es', e :: ents, i, hE, h => by
    cases hE with
    | cons hk h1 h2 t =>
      simp only [mset] at h
      split at h
      · rename_i hq
        cases h
        obtain ⟨q, q2⟩ := sameNow_rep h1 hx hd hq
        have hkv := q2 rfl
        refine .inr ⟨0, e.val, e, by simp only [Instr.findNow, q, Nat.add_zero], rfl, hkv, ?_⟩
        simp only [List.modify_zero_cons]
        exact .cons hk (by simpa [hkv] using h1) hv t
      · rename_i hq
        obtain ⟨q, _⟩ := sameNow_rep h1 hx hd hq
        cases hm : mset es x v with
        | none => rw [hm] at h; cases h
        | some es2 =>
          rw [hm] at h; cases h
          rcases findNow_set hx hik hd hv (i + 1) t hm with ⟨p1, p2⟩ | ⟨j, o, e2, p1, p2, p3, p4⟩
          · exact .inl ⟨by simp only [Instr.findNow, q]; exact p1, fun c => .cons hk h1 h2 (p2 c)⟩
          · exact .inr ⟨j + 1, o, e2, by simp only [Instr.findNow, q, p1]; congr 3; omega, by simpa using p2, p3, by simpa using RepE.cons hk h1 h2 p4⟩
      · cases h
  | [], _, _ :: _, _, hE, _ => by cases hE
  | _ :: _, _, [], _, hE, _ => by cases hE

theorem run_checkKey (w : World) {kt : TypeId} {d : TypeDesc} (hu : P.underlying kt = some d) {v : Value} (hd : keyD d v = true) (b : Bool) (n : Nat) : (Instr.checkKey b (n + 1) kt v).run P w = .ok () w := by
  cases d <;> cases v <;> first
    | (cases hd; done)
    | simp [Instr.checkKey, run_underlying hu]

theorem run_ents (inv : Inv G) {x : AV} {v : Value} (hx : Rep G x v) {es : List (AV × AV)} (h : entsOf G.σ x = some es) : (v = .map none ∧ es = []) ∨ (∃ blk ents ck, v = .map (some blk) ∧ G.w.heap[blk]? = some (.map ents ck) ∧ RepE G es ents.toList) := by
  cases hx <;> simp only [entsOf] at h <;> try (cases h; done)
  · cases h; exact .inl ⟨rfl, rfl⟩
  · cases h; exact .inr ⟨_, _, _, rfl, ‹_›, ‹_›⟩
  · cases h; exact .inl ⟨rfl, rfl⟩
  · split at h
    · rename_i hid hr _ es' hb
      cases h
      obtain ⟨blk', ents, ck, q1, q2, q3, _⟩ := inv.maps _ _ hb
      rw [hr] at q1; cases q1
      exact .inr ⟨_, ents, ck, rfl, q2, q3⟩
    · cases h

theorem run_lookup (inv : Inv G) {t kt e : TypeId} {ti tk te : TI} (ht : tiOf P t = some ti) (hd : ti.d = .map kt e) (hk : tiOf P kt = some tk) (he : tiOf P e = some te) {m x : AV} {vm vx : Value} (hm : Rep G m vm) (hx : Rep G x vx)
    {es : List (AV × AV)} (hes : entsOf G.σ m = some es) (hkey : keyTD tk.d x = true) {r : Option AV} (hg : mget es x = some r) (ok : Bool) :
    ∃ u, (Instr.lookup t vm vx ok).run P G.w = .ok u G.w ∧ Rep G (if ok then .tup [r.getD (mkv te.agg te.zero), .bool r.isSome] else r.getD (mkv te.agg te.zero)) u := by
  obtain ⟨i, d, z, F⟩ := tiOf_facts ht
  obtain ⟨i2, d2, z2, F2⟩ := tiOf_facts hk
  obtain ⟨i3, d3, z3, F3⟩ := tiOf_facts he
  obtain rfl := tdOf_map (F.d ▸ hd)
  obtain ⟨hkd, hik⟩ := keyTD_rep hx (F2.d ▸ hkey)
  have hzr : Rep G (mkv te.agg te.zero) z3 := by
    rw [F3.zero_mkv]
    split
    · rename_i ha
      have hzz := F3.zagg
      rw [← F3.agg, ha] at hzz
      cases z3 <;> first
        | (cases hzz; done)
        | exact .agg (F3.rep_zero G)
    · exact rep_const G z3
  have fin : ∀ (ents : Array MapEntry), RepE G es ents.toList → ∃ u, (do
      Instr.checkKey ents.isEmpty 10000 kt vx
      let (v, ok') ← match ← Instr.findKey kt vx ents.toList with
        | some (_, v) => pure (v, true)
        | none => pure (← zeroValue e, false)
      pure (if ok = true then .tuple #[v, .bool ok'] else v) : Sem Value).run P G.w = .ok u G.w ∧ Rep G (if ok then .tup [r.getD (mkv te.agg te.zero), .bool r.isSome] else r.getD (mkv te.agg te.zero)) u := fun ents hE => by
    have hck := run_checkKey (P := P) G.w F2.und hkd ents.isEmpty 9999
    have hf := findNow_get hx hkd 0 hE hg
    have wrap : ∀ (v : AV) (u : Value) (b : Bool), Rep G v u → Rep G (if ok then AV.tup [v, .bool b] else v) (if ok = true then Value.tuple #[u, .bool b] else u) := fun v u b hv => by
      cases ok
      · exact hv
      · exact .tup (.cons hv (.cons (.bool b) .nil))
    cases r with
    | none =>
      simp only at hf
      refine ⟨if ok = true then .tuple #[z3, .bool false] else z3, ?_, wrap _ _ _ hzr⟩
      simp only [Sem.run_bind, hck, Result.andThen_ok, Instr.findKey, F2.run_und, hf, Sem.run_pure, F3.run_zero]
    | some v =>
      obtain ⟨j, u, h1, h2⟩ := hf
      refine ⟨if ok = true then .tuple #[u, .bool true] else u, ?_, wrap _ _ _ h2⟩
      simp only [Sem.run_bind, hck, Result.andThen_ok, Instr.findKey, F2.run_und, h1, Sem.run_pure]
  rcases run_ents inv hm hes with ⟨rfl, rfl⟩ | ⟨blk, ents, ck, rfl, hb, hE⟩
  · obtain ⟨u, h1, h2⟩ := fin #[] .nil
    refine ⟨u, ?_, h2⟩
    simp only [Instr.lookup, Sem.run_bind, F.run_und, Result.andThen_ok, Sem.run_pure] at h1 ⊢
    exact h1
  · obtain ⟨u, h1, h2⟩ := fin ents hE
    refine ⟨u, ?_, h2⟩
    have hgo : (getObj blk).run P G.w = .ok (.map ents ck) G.w := by simp [getObj, Sem.run, hb]
    simp only [Instr.lookup, Sem.run_bind, F.run_und, Result.andThen_ok, hgo, Sem.run_pure] at h1 ⊢
    exact h1

theorem run_mapUpdate (inv : Inv G) {t kt e : TypeId} {ti tk : TI} (ht : tiOf P t = some ti) (hd : ti.d = .map kt e) (hk : tiOf P kt = some tk) {b : Nat} {x v : AV} {vm vx u : Value} (hm : Rep G (.mr b) vm) (hx : Rep G x vx) (hv : Rep G v u)
    {es es' : List (AV × AV)} (hes : G.σ[b]? = some (.map es)) (hkey : keyTD tk.d x = true) (hs : mset es x v = some es') :
    ∃ G', (Instr.mapUpdate t vm vx u).run P G.w = .ok () G'.w ∧ G'.σ = G.σ.set b (.map es') ∧ Ext G G' ∧ Inv G' := by
  obtain ⟨i, d, z, F⟩ := tiOf_facts ht
  obtain ⟨i2, d2, z2, F2⟩ := tiOf_facts hk
  obtain rfl := tdOf_map (F.d ▸ hd)
  obtain ⟨hkd, hik⟩ := keyTD_rep hx (F2.d ▸ hkey)
  cases hm with
  | mr hid hr =>
    rename_i blk
    obtain ⟨blk', ents, ck, q1, q2, q3, q4⟩ := inv.maps b es hes
    rw [hr] at q1; cases q1
    have hlt := (Array.getElem?_eq_some_iff.1 q2).1
    have hgo : (getObj blk).run P G.w = .ok (.map ents ck) G.w := by simp [getObj, Sem.run, q2]
    have hso : ∀ o, (setObj blk o).run P G.w = .ok () { G.w with heap := G.w.heap.setIfInBounds blk o } := fun o => by simp [setObj, Sem.run, q2]
    have hck := run_checkKey (P := P) G.w F2.und hkd false 9999
    rcases findNow_set hx hik hkd hv 0 q3 hs with ⟨h1, h2⟩ | ⟨j, o, e0, h1, h2, h3, h4⟩
    · have hE : RepE G es' (ents.push { key := vx, val := u, born := ck }).toList := by simpa using h2 ck
      have x1 := ext_mput (G := G) (es' := es') inv hes hr q2 rfl (ents' := ents.push { key := vx, val := u, born := ck }) (ck' := ck + 1)
      refine ⟨_, ?_, rfl, x1, inv_mput inv hes hr q2 rfl x1 hE⟩
      simp only [Instr.mapUpdate, Sem.run_bind, F.run_und, Result.andThen_ok, hgo, hck, Instr.findKey, F2.run_und, h1, Sem.run_pure, hso]
      rfl
    · rw [Nat.zero_add] at h1
      have hE : RepE G es' (ents.modify j fun e => { e with key := vx, val := u }).toList := by simpa using h4
      have x1 := ext_mput (G := G) (es' := es') inv hes hr q2 rfl (ents' := ents.modify j fun e => { e with key := vx, val := u }) (ck' := ck)
      refine ⟨_, ?_, rfl, x1, inv_mput inv hes hr q2 rfl x1 hE⟩
      have hej : ents[j]? = some e0 := by rw [← Array.getElem?_toList]; exact h2
      have hsb : Instr.sameBits 10000 vx vx = true := by
        cases d2 <;> cases vx <;> first
          | (cases hkd; done)
          | simp [Instr.sameBits, beq_toListBytes]
      have hst : (Instr.keyThatStays (((ents[j]?).map (·.key)).getD vx) vx).run P G.w = .ok vx G.w := by
        rw [hej]
        simp only [Option.map_some, Option.getD_some, h3, Instr.keyThatStays, hsb, if_true, Sem.run_pure]
      simp only [Instr.mapUpdate, Sem.run_bind, F.run_und, Result.andThen_ok, hgo, hck, Instr.findKey, F2.run_und, h1, Sem.run_pure, hst, hso]
      rfl
end
end Go.Proofs.YtbjgepnkakcjaaaDoor.Lift
