/-
  LIFT, 16: EVERY OPERATION OF THE EVALUATOR IS AS THE MACHINE's (calls of function values apart).
-/
import Derived.Test.YtbjgepnkakcjaaaDoorL15
namespace Go.Proofs.YtbjgepnkakcjaaaDoor.Lift
open Go

theorem parts_rep {X : Cfg} {G : Gh} {s : ASt} {a : Act} (hs : Slots G s a) (hg : Glob X G) (parts : Array (Nat × Operand)) (i : Nat) (p : Nat × AV) (h : (parts.toList.map fun p => (p.1, s.ev X p.2))[i]? = some p) :
    ∃ v, (parts.map fun (i, x) => (i, a.eval x)).toList[i]? = some (p.1, v) ∧ Rep G p.2 v := by
  rw [List.getElem?_map] at h
  cases hp : parts.toList[i]? with
  | none => rw [hp] at h; cases h
  | some q =>
    rw [hp] at h; cases h
    refine ⟨a.eval q.2, ?_, hs.ev hg q.2⟩
    rw [Array.toList_map, List.getElem?_map, hp]
    rfl

set_option maxHeartbeats 2000000 in
theorem evOper_sound {P : Program} {X : Cfg} (hT : X.T = tiOf P) {G : Gh} (inv : Inv G) (hg : Glob X G) {s : ASt} {a : Act} (hs : Slots G s a) (o : Oper) (hc : isCallV o.op = false) {v : AV} {st : Sto}
    (h : evOper X s o = some (v, st)) : OpDone P G (execOp a.eval o) v st := by
  obtain ⟨_, _, hσ⟩ := id hs
  obtain ⟨dst, op, type, pos, after, guard⟩ := o
  have stay : ∀ {y : Sem Value}, execOp a.eval ⟨dst, op, type, pos, after, guard⟩ = (do pure (.value (← y))) → (∃ u, y.run P G.w = .ok u G.w ∧ Rep G v u) → st = s.st → OpDone P G (execOp a.eval ⟨dst, op, type, pos, after, guard⟩) v st := fun h1 h2 h3 => by
    rw [h3, ← hσ]
    exact opDone_value h1 (does_of inv h2)
  cases op <;> simp only [evOper] at h <;> try (cases h; done)
  case move x =>
    cases h
    exact stay (y := pure (a.eval x)) rfl ⟨_, rfl, hs.ev hg x⟩ rfl
  case assign x =>
    cases h
    exact stay (y := pure (a.eval x)) rfl ⟨_, rfl, hs.ev hg x⟩ rfl
  case pick c p q =>
    split at h
    · rename_i t ht
      cases h
      have hcv := hs.ev hg c
      rw [ht] at hcv
      refine ⟨G, .inl ⟨⟨if t = true then a.eval p else a.eval q, ?_, ?_⟩, hσ, Ext.refl G, inv⟩⟩
      · simp only [execOp]
        generalize a.eval c = vc at hcv ⊢
        cases hcv
        rfl
      · cases t
        · exact hs.ev hg q
        · exact hs.ev hg p
    · cases h
  case alloc t =>
    split at h
    · rename_i ti ht
      cases h
      rw [← hσ]
      exact opDone_value rfl (run_alloc inv (hT ▸ ht))
    · cases h
  case box t x =>
    split at h
    · rename_i hw
      cases h
      rw [← hσ]
      exact opDone_value rfl (run_box inv t (hs.ev hg x) hw)
    · cases h
  case build t parts =>
    split at h
    · rename_i fs sz z by_ eq_ ht
      split at h
      · rename_i hc1
        obtain ⟨hall, hwh⟩ := hc1
        split at h
        · rename_i cs hf
          cases h
          rw [← hσ]
          rw [hT] at ht hall hf
          refine opDone_value rfl (run_build' inv ht rfl hall (fun i p hp => ?_) (by simp) hf)
          obtain ⟨u, h1, h2⟩ := parts_rep hs hg parts i p hp
          refine ⟨u, h1, h2, whole_ne_undef ?_⟩
          rw [List.getElem?_map] at hp
          cases hq : parts.toList[i]? with
          | none => rw [hq] at hp; cases hp
          | some q =>
            rw [hq] at hp; cases hp
            exact List.all_eq_true.1 hwh _ (List.mem_map.2 ⟨q, List.mem_of_getElem? hq, rfl⟩)
        · cases h
      · cases h
    · cases h
  case buildSlice t len parts =>
    split at h
    · rename_i e sz z by_ eq_ ht
      split at h
      · rename_i te he
        split at h
        · rename_i hc1
          obtain ⟨hidx, hall, hb⟩ := hc1
          cases h
          rw [← hσ]
          rw [hT] at ht he
          have hlen : parts.toList.length = len := by have := congrArg List.length hidx; simpa using this
          refine opDone_value rfl (run_buildSlice inv ht rfl he (fun i x hx => ?_) (by simp) (by simpa using hlen) hall hb)
          rw [List.getElem?_map] at hx
          cases hq : parts.toList[i]? with
          | none => rw [hq] at hx; cases hx
          | some q =>
            rw [hq] at hx; cases hx
            refine ⟨a.eval q.2, ?_, hs.ev hg q.2⟩
            have hi : i < len := by
              rcases Nat.lt_or_ge i len with h | h
              · exact h
              · rw [List.getElem?_eq_none (by omega)] at hq; cases hq
            have : q.1 = i := by
              have := congrArg (·[i]?) hidx
              simp only [List.getElem?_map, hq, Option.map_some, List.getElem?_range hi, Option.some.injEq] at this
              exact this
            rw [Array.toList_map, List.getElem?_map, hq, ← this]
            rfl
        · cases h
      · cases h
    · cases h
  case load t x =>
    split at h
    · rename_i ti ht
      cases hl : loadAt ti s.st (s.ev X x) with
      | none => rw [hl] at h; cases h
      | some u =>
        rw [hl] at h; cases h
        rw [hT] at ht
        exact stay rfl (run_loadAt inv ht (hs.ev hg x) (hσ ▸ hl)) rfl
    · cases h
  case store t x y =>
    split at h
    · rename_i ti ht
      cases hl : storeAt ti s.st (s.ev X x) (s.ev X y) with
      | none => rw [hl] at h; cases h
      | some u =>
        rw [hl] at h; cases h
        rw [hT] at ht
        exact opDone_unit rfl (run_storeAt inv ht (hs.ev hg x) (hs.ev hg y) (hσ ▸ hl))
    · cases h
  case nilCheck x =>
    have hx := hs.ev hg x
    split at h
    · rename_i b g i off he
      cases h
      rw [he] at hx
      refine ⟨G, .inl ⟨⟨a.eval x, ?_, hx⟩, hσ, Ext.refl G, inv⟩⟩
      show (execOp a.eval ⟨dst, .nilCheck x, type, pos, after, guard⟩).run P G.w = _
      simp only [execOp]
      generalize a.eval x = vx at hx ⊢
      cases hx; rfl
    · rename_i y off he
      cases h
      rw [he] at hx
      refine ⟨G, .inl ⟨⟨a.eval x, ?_, hx⟩, hσ, Ext.refl G, inv⟩⟩
      simp only [execOp]
      generalize a.eval x = vx at hx ⊢
      cases hx; rfl
    · rename_i f p q he
      cases h
      rw [he] at hx
      refine ⟨G, .inl ⟨⟨a.eval x, ?_, hx⟩, hσ, Ext.refl G, inv⟩⟩
      simp only [execOp]
      generalize a.eval x = vx at hx ⊢
      cases hx; rfl
    · cases h
  case binOp op t x y yt =>
    split at h
    · rename_i ti ht
      cases hl : evBin op ti (s.ev X x) (s.ev X y) with
      | none => rw [hl] at h; cases h
      | some u =>
        rw [hl] at h; cases h
        rw [hT] at ht
        exact stay (y := do eqGuard op t x y (a.eval x) (a.eval y); binOp op t (a.eval x) (a.eval y)) rfl (run_evBin op ht (hs.ev hg x) (hs.ev hg y) hl x y) rfl
    · cases h
  case unOp op t x =>
    cases hl : evUn op (s.ev X x) with
    | none => rw [hl] at h; cases h
    | some u =>
      rw [hl] at h; cases h
      exact stay rfl (run_evUn op (hs.ev hg x) hl) rfl
  case convert src dt x =>
    have hx := hs.ev hg x
    split at h
    · -- to an integer
      rename_i ts k sz z by_ eq_ j n hts htd he
      cases h
      rw [he] at hx
      rw [hT] at hts htd
      refine stay (y := convert src dt (a.eval x)) rfl ⟨.int k (k.wrap n), ?_, .int _ _⟩ rfl
      generalize a.eval x = vx at hx ⊢
      cases hx
      exact run_convert_int hts htd rfl j n G.w
    · -- string to string
      rename_i q1 q2 q3 q4 q5 q6 q7 q8 b hts htd he
      cases h
      rw [hT] at hts htd
      have hx' := hx
      rw [he] at hx'
      refine stay (y := convert src dt (a.eval x)) rfl ⟨a.eval x, ?_, hx'⟩ rfl
      generalize a.eval x = vx at hx' ⊢
      cases hx'
      exact run_convert_str hts htd rfl rfl _ G.w
    · -- string to bytes
      rename_i q1 q2 q3 q4 e q5 q6 q7 q8 b hts htd he
      split at h
      · rename_i p1 p2 p3 hte
        cases h
        rw [hT] at hts htd hte
        rw [he] at hx
        rw [← hσ]
        exact opDone_value rfl (does_convert_sb inv hts htd rfl hte rfl hx)
      · cases h
    · -- bytes to string
      rename_i e q1 q2 q3 q4 q5 q6 q7 q8 hts htd
      split at h
      · rename_i p1 p2 p3 xs hte hxs
        cases hb : bytesOf xs with
        | none => rw [hb] at h; cases h
        | some b =>
          rw [hb] at h; cases h
          rw [hT] at hts htd hte
          exact stay rfl (run_convert_bs inv hts rfl htd rfl hte rfl rfl hx (hσ ▸ hxs) hb) rfl
      · cases h
    · cases h
  case makeFunc f first cap =>
    cases h
    refine stay (y := Instr.makeFunc f (first.map a.eval) (cap.map a.eval)) rfl ⟨_, rfl, .fn ?_ ?_⟩ rfl
    · rw [Array.toList_map]; exact rep_list_map fun x => hs.ev hg x
    · rw [Array.toList_map]; exact rep_list_map fun x => hs.ev hg x
  case makeMap t r =>
    cases r with
    | some r => cases h
    | none =>
      simp only at h
      split at h
      · cases h
        rw [← hσ]
        have h5 : ∀ j, j < G.w.heap.size → (G.w.alloc (.map #[] 0)).heap[j]? = G.w.heap[j]? := fun j hj => heap_alloc_lt _ _ hj
        have x := ext_grow inv (G.w.alloc (.map #[] 0)) (some G.w.heap.size) (.map []) rfl rfl rfl (by rw [World.size_alloc]; omega) h5 (fun j hj => by cases hj; exact Nat.le_refl _)
        have iv := inv_grow_map inv _ _ x h5 (Nat.le_refl _) (heap_alloc_new _ _)
        refine opDone_value rfl ⟨.map (some G.w.heap.size), G.grow (G.w.alloc (.map #[] 0)) (some G.w.heap.size) (.map []), rfl, rfl, x, iv, .mr ⟨.map [], by simp [Gh.grow], Nat.le_refl _, rfl⟩ (by simp [Gh.grow])⟩
      · cases h
  case makeSlice t l c =>
    split at h
    · rename_i e q1 q2 q3 q4 k1 n k2 m ht hl hcc
      split at h
      · rename_i te he
        split at h
        · rename_i hc1
          obtain ⟨c0, c1, c2, c3⟩ := hc1
          cases h
          rw [hT] at ht he
          rw [← hσ]
          have r1 := hs.ev hg l
          have r2 := hs.ev hg c
          rw [hl] at r1
          rw [hcc] at r2
          refine opDone_value (y := Instr.makeSlice t (a.eval l) (a.eval c)) rfl ?_
          generalize a.eval l = v1 at r1 ⊢
          generalize a.eval c = v2 at r2 ⊢
          cases r1
          cases r2
          exact run_makeSlice' inv ht rfl he c0 c1 c2 c3
        · cases h
      · cases h
    · cases h
  case slice t x lo hi mx =>
    cases mx with
    | some m => cases h
    | none =>
      have hx := hs.ev hg x
      simp only at h
      split at h
      · rename_i b he
        rw [he] at hx
        split at h
        · rename_i l hh ht hl hhi
          split at h
          · rename_i hc1
            cases h
            rw [hT] at ht
            exact stay (y := Instr.sliceAt t (a.eval x) (lo.map a.eval) (hi.map a.eval) none) rfl (run_sliceAt_str ht rfl hx (repO_map hs hg lo) (repO_map hs hg hi) hl hhi hc1.1 hc1.2) rfl
          · cases h
        · cases h
      · rename_i xs he
        rw [he] at hx
        split at h
        · rename_i l hh ht hl hhi
          split at h
          · rename_i te hte
            split at h
            · rename_i hc1
              cases h
              rw [hT] at ht hte
              exact stay (y := Instr.sliceAt t (a.eval x) (lo.map a.eval) (hi.map a.eval) none) rfl (run_sliceAt_sl ht rfl hte hx (repO_map hs hg lo) (repO_map hs hg hi) hl hhi hc1.1 hc1.2.1 hc1.2.2) rfl
            · cases h
          · cases h
        · cases h
      · rename_i b g off len he
        rw [he] at hx
        split at h
        · rename_i l hh ht hl hhi
          split at h
          · rename_i te kk hte hkk
            split at h
            · rename_i hc1
              cases h
              rw [hT] at ht hte
              exact stay (y := Instr.sliceAt t (a.eval x) (lo.map a.eval) (hi.map a.eval) none) rfl (run_sliceAt_sr ht rfl hte hx (repO_map hs hg lo) (repO_map hs hg hi) hl hhi hc1.1 hc1.2.1 (hσ ▸ hkk) hc1.2.2) rfl
            · cases h
          · cases h
        · cases h
      · rename_i he
        rw [he] at hx
        split at h
        · rename_i e q1 q2 q3 q4 ht hl hhi
          split at h
          · rename_i hte
            cases h
            obtain ⟨te, hte⟩ := Option.isSome_iff_exists.1 hte
            rw [hT] at ht hte
            obtain ⟨i, d, z, F⟩ := tiOf_facts ht
            obtain ⟨i2, d2, z2, F2⟩ := tiOf_facts hte
            obtain rfl := tdOf_slice F.d.symm
            have hb := run_sliceBounds (P := P) (repO_map hs hg lo) (repO_map hs hg hi) true (len := 0) (cap := 0) hl hhi (Nat.le_refl _) (Nat.le_refl _)
            refine stay (y := Instr.sliceAt t (a.eval x) (lo.map a.eval) (hi.map a.eval) none) rfl ⟨.slice none 0 0, ?_, .snil⟩ rfl
            generalize a.eval x = vx at hx ⊢
            cases hx
            simp only [Instr.sliceAt, Sem.run_bind, F.run_und, Result.andThen_ok, Instr.slice, hb, F2.run_size, Sem.run_pure, if_true, Nat.sub_self]
          · cases h
        · cases h
      · cases h
  case fieldAddr t x f =>
    split at h
    · rename_i fs q1 q2 q3 q4 ht
      split at h
      · rename_i o ft hf
        split at h
        · rename_i fti hft
          split at h
          · cases h
          · rename_i hsz
            rw [hT] at ht hft
            split at h
            · rename_i b g i off he
              cases h
              exact stay rfl (run_fieldAt ht rfl hf hft hsz (hs.ev hg x) (by rw [he]; rfl)) rfl
            · rename_i y off he
              cases h
              exact stay rfl (run_fieldAt ht rfl hf hft hsz (hs.ev hg x) (by rw [he]; rfl)) rfl
            · cases h
        · cases h
      · cases h
    · cases h
  case field t x f =>
    split at h
    · rename_i fs q1 q2 q3 q4 ht
      split at h
      · rename_i o ft hf
        split at h
        · rename_i fti hft
          split at h
          · rename_i cs he
            cases hp : part fti (.agg cs) o with
            | none => rw [hp] at h; cases h
            | some u =>
              rw [hp] at h; cases h
              rw [hT] at ht hft
              exact stay rfl (run_field ht rfl hf hft (he ▸ hs.ev hg x) hp) rfl
          · cases h
        · cases h
      · cases h
    · cases h
  case indexAddr t x ix =>
    split at h
    · rename_i e q1 q2 q3 q4 ht
      split at h
      · rename_i te hte
        split at h
        · rename_i k i hi
          have r1 := hs.ev hg ix
          rw [hi] at r1
          rw [hT] at ht hte
          split at h
          · rename_i xs he
            split at h
            · rename_i h0
              split at h
              · rename_i u hu
                split at h
                · rename_i hsz
                  cases h
                  refine stay (y := Instr.indexAt t (a.eval x) (a.eval ix)) rfl ?_ rfl
                  generalize a.eval ix = v1 at r1 ⊢
                  cases r1
                  exact run_indexAt_sl ht rfl hte h0 hu hsz (he ▸ hs.ev hg x)
                · cases h
              · cases h
            · cases h
          · rename_i b g off len he
            split at h
            · rename_i h0
              split at h
              · rename_i kk hkk
                split at h
                · rename_i hsz
                  cases h
                  refine stay (y := Instr.indexAt t (a.eval x) (a.eval ix)) rfl ?_ rfl
                  generalize a.eval ix = v1 at r1 ⊢
                  cases r1
                  exact run_indexAt_sr ht rfl hte h0.1 h0.2 ⟨kk, hσ ▸ hkk, hsz⟩ (he ▸ hs.ev hg x)
                · cases h
              · cases h
            · cases h
          · cases h
        · cases h
      · cases h
    · rename_i n e q1 q2 q3 q4 ht
      split at h
      · rename_i te hte
        split at h
        · rename_i k i hi
          have r1 := hs.ev hg ix
          rw [hi] at r1
          rw [hT] at ht hte
          split at h
          · rename_i h0
            split at h
            · rename_i b g j off he
              cases h
              refine stay (y := Instr.indexAt t (a.eval x) (a.eval ix)) rfl ?_ rfl
              generalize a.eval ix = v1 at r1 ⊢
              cases r1
              exact run_indexAt_arr ht rfl hte h0.1 h0.2 (hs.ev hg x) (by rw [he]; rfl)
            · rename_i y off he
              cases h
              refine stay (y := Instr.indexAt t (a.eval x) (a.eval ix)) rfl ?_ rfl
              generalize a.eval ix = v1 at r1 ⊢
              cases r1
              exact run_indexAt_arr ht rfl hte h0.1 h0.2 (hs.ev hg x) (by rw [he]; rfl)
            · cases h
          · cases h
        · cases h
      · cases h
    · cases h
  case index t x ix =>
    split at h
    · rename_i q1 q2 q3 q4 ht
      split at h
      · rename_i b k i he hi
        split at h
        · rename_i h0
          split at h
          · rename_i c hcc
            cases h
            rw [hT] at ht
            have r1 := hs.ev hg ix
            rw [hi] at r1
            refine stay (y := Instr.index t (a.eval x) (a.eval ix)) rfl ⟨.int .u8 c.toNat, ?_, .int _ _⟩ rfl
            generalize a.eval ix = v1 at r1 ⊢
            cases r1
            exact run_index_str ht rfl h0 hcc (he ▸ hs.ev hg x)
          · cases h
        · cases h
      · cases h
    · rename_i n e q1 q2 q3 q4 ht
      split at h
      · rename_i te hte
        split at h
        · rename_i cs k i he hi
          split at h
          · rename_i h0
            cases hp : part te (.agg cs) (i.toNat * te.size) with
            | none => rw [hp] at h; cases h
            | some u =>
              rw [hp] at h; cases h
              rw [hT] at ht hte
              have r1 := hs.ev hg ix
              rw [hi] at r1
              refine stay (y := Instr.index t (a.eval x) (a.eval ix)) rfl ?_ rfl
              generalize a.eval ix = v1 at r1 ⊢
              cases r1
              exact run_index_arr ht rfl hte h0.1 h0.2 (he ▸ hs.ev hg x) hp
          · cases h
        · cases h
      · cases h
    · cases h
  case lookup t m k ok =>
    split at h
    · rename_i kt e q1 q2 q3 q4 ht
      split at h
      · rename_i tk te es htk hte hes
        split at h
        · rename_i hkey
          split at h
          · rename_i r hr
            cases h
            rw [hT] at ht htk hte
            exact stay rfl (run_lookup inv ht rfl htk hte (hs.ev hg m) (hs.ev hg k) (hσ ▸ hes) hkey hr ok) rfl
          · cases h
        · cases h
      · cases h
    · cases h
  case mapUpdate t m k x =>
    split at h
    · rename_i kt e q1 q2 q3 q4 ht
      split at h
      · rename_i tk b htk hm
        split at h
        · rename_i es hes
          split at h
          · rename_i hc1
            cases hp : mset es (s.ev X k) (s.ev X x) with
            | none => rw [hp] at h; cases h
            | some es' =>
              rw [hp] at h; cases h
              rw [hT] at ht htk
              rw [← hσ] at hes ⊢
              exact opDone_unit rfl (run_mapUpdate inv ht rfl htk (hm ▸ hs.ev hg m) (hs.ev hg k) (hs.ev hg x) hes hc1.1 hp)
          · cases h
        · cases h
      · cases h
    · cases h
  case extract t i =>
    split at h
    · rename_i vs he
      cases hp : vs[i]? with
      | none => rw [hp] at h; cases h
      | some u =>
        rw [hp] at h; cases h
        exact stay rfl (run_extract (he ▸ hs.ev hg t) hp) rfl
    · cases h
  case call c =>
    obtain ⟨callee, args, ats⟩ := c
    simp only at h
    cases callee with
    | value f => simp [isCallV] at hc
    | invoke r n => cases h
    | builtin b =>
      have := evBuiltin_sound hT inv hg hs b ats args h type (args.map fun | .const _ => true | _ => false)
      exact this
end Go.Proofs.YtbjgepnkakcjaaaDoor.Lift
