/- Slices made and appended to; maps written. -/
import Derived.Test.YtfdemnefkfkghaaRF
import Derived.Great.BuildSlice
namespace Go.Proofs.Ytfdemnefkfkghaa.R
set_option linter.unusedVariables false
set_option linter.unusedSimpArgs false
open Go Go.RowKit

section
variable {P : Program} {T : TT} (hT : TOK P T) {B : Base} {F : Froz} {w : World} {β : Place} {H : Heap} {l l' : List Nat} {v : V} {u : Upd}

/-- Rows, cell by cell. -/
def RowsAt (F : Froz) (c : Nat → Nat → Option Value) (β : Place) (st : Nat) (rows : List (List V)) (f : Nat → Value) : Prop := ∀ r j row v, rows[r]? = some row → row[j]? = some v → Rel F c β v (f (r * st + j))

theorem cell_of {F : Froz} {c : Nat → Nat → Option Value} {β : Place} {x : V} {cx : Value} (h : Rel F c β x cx) (hx : x.isCell = true) : cx.oneCell' = true := by
  have := h.one hx
  cases cx <;> first | rfl | (simp [oneCell] at this)

theorem fillR_ok {st : Nat} (hst : 0 < st) : ∀ (ps : List (Nat × V)) (cps : List (Nat × Value)) (rows rows' : List (List V)) (cells : Array Value), PartsRel F (cl w) β ps cps → RowsAt F (cl w) β st rows (fun k => cells.getD k undef) → cells.size = rows.length * st →
    (∀ row ∈ rows, row.length = st) → (∀ row ∈ rows, ∀ v ∈ row, v.isCell = true) → fillR st rows ps = some rows' →
      ∃ cells', Instr.fill (fun i => some (i * st, st)) cells cps = some cells' ∧ RowsAt F (cl w) β st rows' (fun k => cells'.getD k undef) ∧ cells'.size = cells.size ∧ rows'.length = rows.length ∧ (∀ row ∈ rows', row.length = st) ∧ (∀ row ∈ rows', ∀ v ∈ row, v.isCell = true)
  | [], [], rows, rows', cells, _, hr, hs, hl, hc, h => by
    simp only [fillR, Option.some.injEq] at h
    subst h
    exact ⟨cells, rfl, hr, rfl, rfl, hl, hc⟩
  | [], _ :: _, _, _, _, hp, _, _, _, _, _ => hp.elim
  | _ :: _, [], _, _, _, hp, _, _, _, _, _ => by cases hp
  | (i, x) :: ps, (j, cx) :: cps, rows, rows', cells, hpr, hr, hs, hl, hc, h => by
    obtain ⟨rfl, hx, hrest⟩ := hpr
    simp only [fillR] at h
    split at h
    · rename_i hcond
      obtain ⟨c1, c2, c3⟩ := hcond
      have hcx := hx.cells c3
      have e : (cx.cells.zipIdx.foldl (fun cs (c, j) => cs.setIfInBounds (i * st + j) c) cells) = (cx.cells.toList.zipIdx 0).foldl (fun cs (x : Value × Nat) => cs.setIfInBounds (i * st + x.2) x.1) cells := by
        rw [← Array.foldl_toList, Array.toList_zipIdx]
      obtain ⟨g1, g2⟩ := Great.foldl_set (i * st) cx.cells.toList 0 cells
      have hvl : cx.cells.toList.length = st := by simp [hcx.size, c1]
      have hin : (i + 1) * st ≤ rows.length * st := Nat.mul_le_mul_right _ (by omega)
      rw [Nat.add_mul] at hin
      obtain ⟨cells', h1, h2, h3, h4, h5, h6⟩ := fillR_ok hst ps cps (rows.set i x.cells) rows' ((cx.cells.toList.zipIdx 0).foldl (fun cs (x : Value × Nat) => cs.setIfInBounds (i * st + x.2) x.1) cells) hrest (by
        intro r j row v hrow hv
        show Rel F (cl w) β v (Array.getD _ _ _)
        rw [Array.getD_eq_getD_getElem?, g2, hvl]
        rw [List.getElem?_set] at hrow
        by_cases e : i = r
        · subst e
          rw [if_pos rfl, if_pos c2] at hrow
          cases hrow
          have hj := (List.getElem?_eq_some_iff.1 hv).1
          rw [if_pos (by omega)]
          have := hcx.at_ j v hv
          rw [show i * st + j - (i * st + 0) = j by omega]
          rwa [Array.getD_eq_getD_getElem?, ← Array.getElem?_toList] at this
        · rw [if_neg e] at hrow
          have hj := (List.getElem?_eq_some_iff.1 hv).1
          have hrl := hl row (List.mem_of_getElem? hrow)
          have hne : ¬ (i * st + 0 ≤ r * st + j ∧ r * st + j < i * st + 0 + st ∧ r * st + j < cells.size) := by
            rcases Nat.lt_or_gt_of_ne e with hlt | hgt
            · have : (i + 1) * st ≤ r * st := Nat.mul_le_mul_right _ hlt
              rw [Nat.add_mul] at this
              omega
            · have : (r + 1) * st ≤ i * st := Nat.mul_le_mul_right _ hgt
              rw [Nat.add_mul] at this
              omega
          rw [if_neg hne]
          have : Rel F (cl w) β v (cells.getD (r * st + j) undef) := hr r j row v hrow hv
          rwa [Array.getD_eq_getD_getElem?] at this) (by rw [g1, hs]; simp)
        (fun row hm => by
          rcases List.mem_or_eq_of_mem_set hm with h | rfl
          · exact hl _ h
          · exact c1)
        (fun row hm => by
          rcases List.mem_or_eq_of_mem_set hm with h | rfl
          · exact hc _ h
          · simpa using c3) h
      refine ⟨cells', ?_, h2, by rw [h3, g1], by rw [h4]; simp, h5, h6⟩
      unfold Instr.fill
      simp only
      rw [if_neg]
      · rw [e]; exact h1
      · have := hcx.size
        simp
        omega
    · cases h

include hT in
theorem buildSlice_ok {n : Nat} {t : TypeId} {len : Nat} {ps : List (Nat × V)} {cps : Array (Nat × Value)} (hI : Inv B β F H w) (h : (buildSliceR T n t len ps).run H l = some ((v, u), l')) (hp : PartsRel F (cl w) β ps cps.toList) (hn : β n = none) :
    ∃ cv w' β' F', (Instr.buildSlice t len cps).run P w = .ok cv w' ∧ Left n B β F H w v u cv w' β' F' := by
  unfold buildSliceR at h
  split at h
  · rename_i ti' ht'
    split at h
    · rename_i el hk
      have hu := (hT.told ht').slice hk
      split at h
      · rename_i ti ht
        split at h
        · simp [Rd.run] at h
        · rename_i hcond
          split at h
          · rename_i rows hrows
            simp only [Rd.run, Option.some.injEq, Prod.mk.injEq] at h
            obtain ⟨⟨rfl, rfl⟩, _⟩ := h
            have h0 : 0 < ti.size := by omega
            have hsmall : ¬ len * ti.size > 2 ^ 24 := by omega
            obtain ⟨i, z, hi, hs, _, hz, hzok⟩ := (hT.told ht).info
            obtain ⟨hzr, hzc, hzi⟩ := zOK_rel hzok F (cl w) β
            have hzcells := hzr.cells hzc
            have hzl := (hT.told ht).zlen
            have hzsz : z.cells.size = ti.size := by rw [hzcells.size, hzl]
            obtain ⟨cells', f1, f2, f3, f4, f5, f6⟩ := fillR_ok (F := F) (w := w) (β := β) h0 ps cps.toList (List.replicate len ti.zero.cells) rows ((Array.range (len * ti.size)).map (z.cells[· % z.cells.size]!)) hp (fun r j row v hrow hv => by
                have hm := List.mem_of_getElem? hrow
                have hlt := (List.getElem?_eq_some_iff.1 hrow).1
                simp only [List.length_replicate] at hlt
                have := List.eq_of_mem_replicate hm
                subst this
                have hj := (List.getElem?_eq_some_iff.1 hv).1
                have hb : (r + 1) * ti.size ≤ len * ti.size := Nat.mul_le_mul_right _ (by omega)
                rw [Nat.add_mul] at hb
                have hmod : (r * ti.size + j) % ti.size = j := by rw [Nat.add_comm, Nat.add_mul_mod_self_right]; exact Nat.mod_eq_of_lt (by omega)
                have := hzcells.at_ j v hv
                show Rel F (cl w) β v (Array.getD _ _ _)
                rw [Array.getD_eq_getD_getElem?, Array.getElem?_map]
                rw [Array.getElem?_eq_getElem (by simp; omega)]
                simp only [Array.getElem_range, Option.map_some, Option.getD_some, hzsz, hmod]
                rw [Array.getElem!_eq_getD, Array.getD_eq_getD_getElem?, Array.getElem?_eq_getElem (by omega)]
                rw [Array.getD_eq_getD_getElem?, Array.getElem?_eq_getElem (by omega)] at this
                exact this) (by simp) (fun row hm => by rw [List.eq_of_mem_replicate hm, hzl]) (fun row hm => by rw [List.eq_of_mem_replicate hm]; simpa using hzc) hrows
            have hF : ∀ b o, F b o → b < w.heap.size := fun b o hf => (hI.froz b o hf).1
            have hext : Ext β (β.set n (.at w.heap.size ti.size len)) F F w (w.alloc (.cells cells' el)) := alloc_ext hn hF
            have hlen : rows.length = len := by rw [f4]; simp
            have hcsz : cells'.size = len * ti.size := by rw [f3]; simp
            refine ⟨.slice (some ⟨w.heap.size, 0, none⟩) len len, w.alloc (.cells cells' el), β.set n (.at w.heap.size ti.size len), F, ?_, ⟨?_, ?_, hext, set_only hn (.head _)⟩⟩
            · by_cases hz0 : len = 0
              · subst hz0
                have hc0 : cells' = #[] := by
                  apply Array.eq_empty_of_size_eq_zero
                  rw [hcsz]; simp
                subst hc0
                have hr0 : Array.range 0 = #[] := rfl
                have f1' : Instr.fill (fun i => some (i * ti.size, ti.size)) #[] cps.toList = some #[] := by simpa [hr0] using f1
                simp [hr0, Instr.buildSlice, run_underlying hu, (hT.told ht).sizeOf w, f1', newRow]
              · exact run_buildSlice w t el len cps cells' i z hu hi hz (by rw [hs]; exact hsmall) (by rw [hs]; have := Nat.mul_pos (Nat.pos_of_ne_zero hz0) h0; omega) (by rw [hs]; exact f1)
            · exact .ms _ _ _ _ _ _ _ len len 0 (by simp [Place.set]) (by omega) (Nat.le_refl _) (by simp) (by simp) (by simp)
            · exact hI.alloc hn rfl (new_rel h0 (by omega) (by omega) f5 f6 (fun hp => rowIds_mem.1 (by simpa using hp)) (fun r j row v hr hv => hext.rel (f2 r j row v hr hv)) false)
          · simp [Rd.run] at h
      · simp [Rd.run] at h
    · simp [Rd.run] at h
  · simp [Rd.run] at h

/-! Maps. -/
theorem setKey_ok {d : TypeDesc} {k x : V} {ck : Value} (hk : Rel F (cl w) β k ck) (hd : MapKept.IsKey d ck) : ∀ (es es' : List (V × V)) (ces : List MapEntry) (i : Nat), es.length = ces.length →
    (∀ (j : Nat) (e : V × V), es[j]? = some e → ∃ ce, ces[j]? = some ce ∧ Rel F (cl w) β e.1 ce.key ∧ Rel F (cl w) β e.2 ce.val) → setKey k x es = some es' →
      (∃ j ce, Instr.findNow d ck ces i = some (some (i + j, ce.val)) ∧ ces[j]? = some ce ∧ ce.key = ck ∧ es' = es.set j (k, x) ∧ j < es.length) ∨ (Instr.findNow d ck ces i = some none ∧ es' = es ++ [(k, x)])
  | [], es', [], i, _, _, h => by
    simp only [setKey, Option.some.injEq] at h
    exact .inr ⟨rfl, h.symm⟩
  | [], _, _ :: _, _, hl, _, _ => by simp at hl
  | _ :: _, _, [], _, hl, _, _ => by simp at hl
  | (k', v') :: es, es', ce :: ces, i, hl, hr, h => by
    obtain ⟨ce', hce, r1, r2⟩ := hr 0 (k', v') rfl
    simp only [List.getElem?_cons_zero, Option.some.injEq] at hce
    subst hce
    have same : ∀ b, eqCell k k' = some b → Instr.sameNow d ck ce.key = some b ∧ (b = true → ce.key = ck) := by
      intro b hb
      unfold eqCell at hb
      split at hb
      · cases hk; cases d <;> simp [MapKept.IsKey] at hd; simp at r1; cases hb; generalize ce.key = q at *; cases r1; exact ⟨rfl, fun e => by simp at e; rw [e]⟩
      · split at hb
        · rename_i hkk
          subst hkk
          cases hk; cases d <;> simp [MapKept.IsKey] at hd
          cases hb; generalize ce.key = q at *; cases r1; exact ⟨by simp [Instr.sameNow], fun e => by simp at e; rw [e]⟩
        · cases hb
      · cases hk; cases d <;> simp [MapKept.IsKey] at hd; cases hb; generalize ce.key = q at *; cases r1; exact ⟨rfl, fun e => by rw [(MapKept.bytes_beq _ _).1 e]⟩
      · cases hb
    simp only [setKey] at h
    split at h
    · rename_i hb
      cases h
      exact .inl ⟨0, ce, by simp [Instr.findNow, (same _ hb).1], rfl, (same _ hb).2 rfl, rfl, by simp⟩
    · rename_i hb
      simp only [Option.map_eq_some_iff] at h
      obtain ⟨es'', h1, rfl⟩ := h
      rcases setKey_ok hk hd es es'' ces (i + 1) (by simpa using hl) (fun j e he => hr (j + 1) e he) h1 with ⟨j, c, g1, g2, g3, g4, g5⟩ | ⟨g1, g2⟩
      · exact .inl ⟨j + 1, c, by simp [Instr.findNow, (same _ hb).1, g1]; omega, by simpa using g2, g3, by rw [g4]; rfl, by simp; omega⟩
      · exact .inr ⟨by simp [Instr.findNow, (same _ hb).1, g1], by rw [g2]; rfl⟩
    · cases h

theorem fits_rel {ti : TI} {x : V} (h : fits ti x = true) : (x.isCell = true ∨ ∃ cs, x = .agg cs ∧ cs.all V.isCell = true) := by
  unfold fits at h
  split at h
  · simp only [Bool.and_eq_true] at h
    exact .inr ⟨_, rfl, h.2⟩
  · simp only [Bool.and_eq_true] at h
    exact .inl h.2

include hT in
theorem mapUpdate_ok {n : Nat} {t : TypeId} {m k x : V} {cm ck cx : Value} (hI : Inv B β F H w) (h : (mapUpdateR T t m k x).run H l = some ((v, u), l')) (hm : Rel F (cl w) β m cm) (hk : Rel F (cl w) β k ck) (hx : Rel F (cl w) β x cx) :
    ∃ w' β' F', (Instr.mapUpdate t cm ck cx).run P w = .ok () w' ∧ Left n B β F H w v u undef w' β' F' := by
  unfold mapUpdateR at h
  split at h
  · rename_i ti' ht'
    split at h
    · rename_i kt et hkd
      have hu := (hT.told ht').map hkd
      split at h
      · rename_i ti hti
        split at h
        · rename_i hcond
          obtain ⟨hkey, hfit⟩ := hcond
          obtain ⟨d, hd, hisk⟩ := isKey_ok hT hkey hk
          split at h
          · rename_i i
            simp only [Rd.run] at h
            split at h
            · rename_i ob hob
              split at h
              · rename_i es p
                split at h
                · rename_i es' hes
                  simp only [Rd.run, Option.some.injEq, Prod.mk.injEq] at h
                  obtain ⟨⟨rfl, rfl⟩, _⟩ := h
                  cases hm with
                  | map _ _ b hb =>
                    obtain ⟨lc, hl, ho⟩ := hI.obs _ _ hob
                    rw [hb] at hl
                    cases hl
                    cases ho with
                    | mp _ _ _ ces clock hw hs hpure hre =>
                      have hre' : ∀ (j : Nat) (e : V × V), es[j]? = some e → ∃ ce, ces.toList[j]? = some ce ∧ Rel F (cl w) β e.1 ce.key ∧ Rel F (cl w) β e.2 ce.val := fun j e he => by
                        have hj := (List.getElem?_eq_some_iff.1 he).1
                        obtain ⟨q1, q2⟩ := hre j e he
                        have hc : ces[j]? = some (ces[j]'(by omega)) := by simp
                        rw [Array.getD_eq_getD_getElem?, hc] at q1 q2
                        exact ⟨_, by simp, q1, q2⟩
                      have hblt : b < w.heap.size := (Array.getElem?_eq_some_iff.1 hw).1
                      have turn : ∀ ces' clock', ces'.size = es'.length → (∀ j e, es'[j]? = some e → Rel F (cl w) β e.1 (ces'.getD j default).key ∧ Rel F (cl w) β e.2 (ces'.getD j default).val) → (∀ e ∈ es', e ∈ es ∨ e = (k, x)) →
                          Inv B β F (H.put i (some (.mp es' (p && !x.hasIds)))) { w with heap := w.heap.setIfInBounds b (.map ces' clock') } ∧ Ext β β F F w { w with heap := w.heap.setIfInBounds b (.map ces' clock') } := by
                        intro ces' clock' q1 q2 q3
                        have hset := MapKept.heap_set (w := w) (r := b) (o' := .map ces' clock') hw
                        have hnoF : ∀ o, F b o → cl { w with heap := w.heap.setIfInBounds b (.map ces' clock') } b o = cl w b o := fun o _ => by
                          unfold cl World.cell?
                          simp only [hset.1, hw]
                        refine hI.turn (w' := { w with heap := w.heap.setIfInBounds b (.map ces' clock') }) hb hob rfl hset.2 (by simp) rfl rfl rfl hnoF (fun hx' => ?_) (fun _ _ _ _ e => by cases e)
                        refine .mp b es' _ ces' clock' hset.1 q1 (fun hp e he => ?_) fun j e he => ⟨hx'.rel (q2 j e he).1, hx'.rel (q2 j e he).2⟩
                        simp only [Bool.and_eq_true, Bool.not_eq_true'] at hp
                        rcases q3 e he with h | rfl
                        · exact hpure hp.1 e h
                        · refine ⟨?_, hp.2⟩
                          unfold isKey at hkey
                          split at hkey
                          · split at hkey <;> first | rfl | cases hkey
                          · cases hkey
                      rcases setKey_ok (d := d) (x := x) hk hisk es es' ces.toList 0 (by simp [hs]) hre' hes with ⟨j, ce, g1, g2, g3, g4, g5⟩ | ⟨g1, g2⟩
                      · have hcj : ces[j]? = some ce := by simpa using g2
                        have hjlt : j < ces.size := by omega
                        obtain ⟨t1, t2⟩ := turn (ces.modify j fun e => { e with key := ck, val := cx }) clock (by rw [g4]; simp [hs]) (fun r e he => by
                            rw [g4, List.getElem?_set] at he
                            rw [Array.getD_eq_getD_getElem?, Array.getElem?_modify]
                            by_cases e1 : j = r
                            · subst e1
                              rw [if_pos rfl, if_pos g5] at he
                              cases he
                              rw [if_pos rfl, hcj]
                              exact ⟨hk, hx⟩
                            · rw [if_neg e1] at he
                              rw [if_neg e1]
                              have := hre r e he
                              rwa [Array.getD_eq_getD_getElem?] at this) (fun e he => by
                            rw [g4] at he
                            exact List.mem_or_eq_of_mem_set he)
                        refine ⟨_, β, F, ?_, ⟨.undef _ _, t1, t2, fun i h => absurd rfl h⟩⟩
                        have hks : ((ces[j]?).map (·.key)).getD ck = ck := by simp [hcj, g3]
                        simp [Instr.mapUpdate, run_underlying hu, MapKept.run_getObj_map hw, MapKept.run_checkKey hd hisk, MapKept.run_findKey hd g1, hks, MapKept.run_keyThatStays hisk, MapKept.run_setObj_map _ hw]
                      · obtain ⟨t1, t2⟩ := turn (ces.push { key := ck, val := cx, born := clock }) (clock + 1) (by rw [g2]; simp [hs]) (fun r e he => by
                            rw [g2] at he
                            rw [Array.getD_eq_getD_getElem?, Array.getElem?_push]
                            by_cases e1 : r = ces.size
                            · subst e1
                              rw [if_pos rfl]
                              rw [List.getElem?_append_right (by omega)] at he
                              simp [hs] at he
                              subst he
                              exact ⟨hk, hx⟩
                            · rw [if_neg e1]
                              have hr : r < es.length := by
                                have := (List.getElem?_eq_some_iff.1 he).1
                                simp at this
                                omega
                              rw [List.getElem?_append_left hr] at he
                              have := hre r e he
                              rwa [Array.getD_eq_getD_getElem?] at this) (fun e he => by
                            rw [g2] at he
                            simp only [List.mem_append, List.mem_singleton] at he
                            exact he)
                        refine ⟨_, β, F, ?_, ⟨.undef _ _, t1, t2, fun i h => absurd rfl h⟩⟩
                        simp [Instr.mapUpdate, run_underlying hu, MapKept.run_getObj_map hw, MapKept.run_checkKey hd hisk, MapKept.run_findKey hd g1, MapKept.run_setObj_map _ hw]
                · simp [Rd.run] at h
              · simp [Rd.run] at h
            · simp at h
          · simp [Rd.run] at h
        · simp [Rd.run] at h
      · simp [Rd.run] at h
    · simp [Rd.run] at h
  · simp [Rd.run] at h
end

end Go.Proofs.Ytfdemnefkfkghaa.R
