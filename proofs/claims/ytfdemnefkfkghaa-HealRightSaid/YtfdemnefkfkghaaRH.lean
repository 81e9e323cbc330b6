/- append. -/
import Derived.Test.YtfdemnefkfkghaaRG
namespace Go.Proofs.Ytfdemnefkfkghaa.R
set_option linter.unusedVariables false
set_option linter.unusedSimpArgs false
open Go Go.RowKit

section
variable {P : Program} {T : TT} (hT : TOK P T) {B : Base} {F : Froz} {w : World} {β : Place} {H : Heap} {l l' : List Nat} {v : V} {u : Upd}

/-- Rows that are appended: what they are in memory. -/
structure New (P : Program) (F : Froz) (w : World) (β : Place) (st : Nat) (tx : TypeId) (cx : Value) (new : List (List V)) (p : Bool) (news : List Value) : Prop where
  src : Src P st tx cx new.length news w
  at_ : RowsAt F (cl w) β st new (fun k => news.getD k undef)
  len : ∀ row ∈ new, row.length = st
  cell : ∀ row ∈ new, ∀ v ∈ row, v.isCell = true
  pure : p = true → ∀ row ∈ new, ∀ v ∈ row, v.hasIds = false

theorem getD_map_range {n k : Nat} (f : Nat → Value) (h : k < n) : ((List.range n).map f).getD k undef = f k := by
  simp [h]

theorem idx_lt {r j n st : Nat} (hr : r < n) (hj : j < st) : r * st + j < n * st := by
  have : (r + 1) * st ≤ n * st := Nat.mul_le_mul_right _ hr
  rw [Nat.add_mul] at this
  omega

/-- Rows out of memory. -/
theorem new_of {st : Nat} {tx e' : TypeId} (hk : P.underlying tx = some (.slice e')) (h0 : 0 < st) {b o cap : Nat} {rows : List (List V)} (f : Nat → Value) (hc : ∀ k, k < rows.length * st → cl w b (o + k) = some (f k)) (hr : RowsAt F (cl w) β st rows f)
    (hlen : ∀ row ∈ rows, row.length = st) (hcell : ∀ row ∈ rows, ∀ v ∈ row, v.isCell = true) {p : Bool} (hpure : p = true → ∀ row ∈ rows, ∀ v ∈ row, v.hasIds = false) :
    New P F w β st tx (.slice (some ⟨b, o, none⟩) rows.length cap) rows p ((List.range (rows.length * st)).map f) := by
  refine ⟨Src.ofSlice w hk ⟨b, o, none⟩ rows.length cap _ (by simp) (fun j u hu => ?_) (fun u hu => ?_), fun r j row v hrow hv => ?_, hlen, hcell, hpure⟩
  · have hj : j < rows.length * st := by simpa using (List.getElem?_eq_some_iff.1 hu).1
    have : f j = u := by simpa [hj] using hu
    rw [Addr.add_mid]
    have := hc j hj
    unfold cl at this
    rw [this]
    simp_all
  · obtain ⟨k, hk, rfl⟩ := List.mem_map.1 hu
    have hk' : k < rows.length * st := by simpa using hk
    have hr' : k / st < rows.length := Nat.div_lt_of_lt_mul (by rw [Nat.mul_comm]; exact hk')
    have hj' : k % st < st := Nat.mod_lt _ h0
    have hm : rows[k / st] ∈ rows := List.getElem_mem _
    have hl := hlen _ hm
    have := hr (k / st) (k % st) rows[k / st] (rows[k / st][k % st]'(by omega)) (by simp) (by simp)
    rw [Nat.div_add_mod' k st] at this
    exact cell_of this (hcell _ hm _ (List.getElem_mem _))
  · have h1 := (List.getElem?_eq_some_iff.1 hrow).1
    have h2 := (List.getElem?_eq_some_iff.1 hv).1
    have h3 := hlen _ (List.mem_of_getElem? hrow)
    show Rel F (cl w) β v (List.getD _ _ _)
    rw [getD_map_range f (idx_lt h1 (by omega))]
    exact hr r j row v hrow hv

theorem rows_ok {α : Type} {st : Nat} {tx e' : TypeId} (hI : Inv B β F H w) (hk : P.underlying tx = some (.slice e')) (h0 : 0 < st) {x : V} {cx : Value} {k : List (List V) → Bool → Rd α} {res : α × List Nat} (h : (rows? st x k).run H l = some res) (hx : Rel F (cl w) β x cx) :
    ∃ new p l1 news, (k new p).run H l1 = some res ∧ New P F w β st tx cx new p news := by
  have nil : ∀ (a : Option Addr) (cap : Nat) (p : Bool), New P F w β st tx (.slice a 0 cap) [] p [] := fun a cap p =>
    ⟨by
      cases a with
      | none => exact Src.ofNil w hk cap
      | some a => exact Src.ofSlice w hk a 0 cap [] (by simp) (by simp) (by simp), fun r j row v hr => by simp at hr, by simp, by simp, by simp⟩
  unfold rows? at h
  split at h
  · cases hx
    exact ⟨[], true, l, [], h, nil _ _ _⟩
  · rename_i rows
    split at h
    · rename_i hall
      have hall' : ∀ r ∈ rows, r.length = st := by simpa using hall
      cases hx with
      | fz0 _ a cap => exact ⟨[], true, l, [], h, nil _ _ _⟩
      | fz _ _ b o st' cap g hl hst hcell hF hr =>
        have hst' : rows ≠ [] → st' = st := fun hne => by
          obtain ⟨r, hm⟩ := List.exists_mem_of_ne_nil rows hne
          rw [← hst r hm, hall' r hm]
        by_cases hne : rows = []
        · subst hne
          exact ⟨[], true, l, [], h, nil _ _ _⟩
        · obtain rfl := hst' hne
          refine ⟨rows, true, l, _, h, new_of hk h0 (fun k => g (k / st') (k % st')) (fun k hk => ?_) (fun r j row v hrow hv => ?_) hall' (fun row hm v hv => (hcell row hm v hv).1) (fun _ row hm v hv => (hcell row hm v hv).2)⟩
          · have := (hF (k / st') (k % st') (Nat.div_lt_of_lt_mul (by rw [Nat.mul_comm]; exact hk)) (Nat.mod_lt _ h0)).2
            rwa [Nat.add_assoc, Nat.div_add_mod' k st'] at this
          · have hj := (List.getElem?_eq_some_iff.1 hv).1
            have hl' := hall' row (List.mem_of_getElem? hrow)
            have e1 : (r * st' + j) / st' = r := by rw [Nat.add_comm, Nat.add_mul_div_right _ _ h0, Nat.div_eq_of_lt (by omega), Nat.zero_add]
            have e2 : (r * st' + j) % st' = j := by rw [Nat.add_comm, Nat.add_mul_mod_self_right]; exact Nat.mod_eq_of_lt (by omega)
            show Rel F (cl w) β v (g ((r * st' + j) / st') ((r * st' + j) % st'))
            rw [e1, e2]
            exact (hr r j row v hrow hv).mono (fun b o h => ⟨h, rfl⟩) (by simp [none0])
    · simp [Rd.run] at h
  · rename_i i st' o n c
    split at h
    · rename_i hst
      subst hst
      simp only [Rd.run] at h
      split at h
      · rename_i ob hob
        split at h
        · rename_i st2 rows frz pure
          split at h
          · rename_i hc
            obtain ⟨rfl, hon⟩ := hc
            cases hx with
            | ms0 => exact ⟨_, _, _, [], h, by simpa using nil none 0 pure⟩
            | ms _ _ _ _ _ _ b C cc o' hb hcC hlen hcap hnone ho =>
              obtain ⟨lc, hl, ho'⟩ := hI.obs _ _ hob
              rw [hb] at hl
              cases hl
              cases ho' with
              | buf _ _ _ _ _ _ hst hthere hC hrl hcell hpure hr =>
                have hlen' : ((rows.drop o).take n).length = n := by simp; omega
                have hget : ∀ r, r < n → ((rows.drop o).take n)[r]? = rows[o + r]? := fun r hr => by
                  rw [List.getElem?_take, if_pos hr, List.getElem?_drop]
                refine ⟨_, _, _, (List.range (n * st2)).map (fun k => (cl w b (o' + k)).getD undef), h, ?_⟩
                by_cases hn : n = 0
                · subst hn
                  simpa using nil (some ⟨b, o', none⟩) cc pure
                · have ho2 : o' = o * st2 := by rcases ho with h | h <;> omega
                  have hcell1 : ∀ r j row v, ((rows.drop o).take n)[r]? = some row → row[j]? = some v → ∃ cv, cl w b (o' + (r * st2 + j)) = some cv ∧ Rel F (cl w) β v cv := by
                    intro r j row v hrow hv
                    have hr' : r < n := by have := (List.getElem?_eq_some_iff.1 hrow).1; omega
                    rw [hget r hr'] at hrow
                    obtain ⟨cv, h1, h2⟩ := hr (o + r) j row v hrow hv
                    exact ⟨cv, by rw [ho2, ← h1, Nat.add_mul]; congr 1; omega, h2⟩
                  have hmem : ∀ row ∈ (rows.drop o).take n, row ∈ rows := fun row hm => List.mem_of_mem_drop (List.mem_of_mem_take hm)
                  have key := new_of (P := P) (F := F) (w := w) (β := β) hk h0 (b := b) (o := o') (cap := cc) (rows := (rows.drop o).take n) (p := pure) (fun k => (cl w b (o' + k)).getD undef) (fun k hk' => by
                      rw [hlen'] at hk'
                      have hr' : k / st2 < n := Nat.div_lt_of_lt_mul (by rw [Nat.mul_comm]; exact hk')
                      have hj' : k % st2 < st2 := Nat.mod_lt _ h0
                      have hm : ((rows.drop o).take n)[k / st2]'(by omega) ∈ (rows.drop o).take n := List.getElem_mem _
                      have hl2 := hrl _ (hmem _ hm)
                      obtain ⟨cv, h1, _⟩ := hcell1 (k / st2) (k % st2) _ (((rows.drop o).take n)[k / st2]'(by omega))[k % st2] (List.getElem?_eq_getElem (by omega)) (List.getElem?_eq_getElem (by omega))
                      rw [Nat.div_add_mod' k st2] at h1
                      rw [h1]; rfl) (fun r j row v hrow hv => by
                      obtain ⟨cv, h1, h2⟩ := hcell1 r j row v hrow hv
                      simp only [h1]
                      exact h2) (fun row hm => hrl row (hmem row hm)) (fun row hm => hcell row (hmem row hm)) (fun hp row hm => hpure hp row (hmem row hm))
                  rwa [hlen'] at key
          · simp [Rd.run] at h
        · simp [Rd.run] at h
      · simp at h
    · simp [Rd.run] at h
  · simp [Rd.run] at h

theorem RowsAt.mono {F' : Froz} {w' : World} {β' : Place} (hx : Ext β β' F F' w w') {st : Nat} {rows : List (List V)} {f : Nat → Value} (h : RowsAt F (cl w) β st rows f) : RowsAt F' (cl w') β' st rows f := fun r j row v hr hv => hx.rel (h r j row v hr hv)

/-- Two lists of rows in a row. -/
theorem RowsAt.app {F : Froz} {c : Nat → Nat → Option Value} {β : Place} {st : Nat} {a b : List (List V)} {la lb : List Value} (ha : RowsAt F c β st a (fun k => la.getD k undef)) (hb : RowsAt F c β st b (fun k => lb.getD k undef)) (hl : la.length = a.length * st) (hra : ∀ row ∈ a, row.length = st) (hrb : ∀ row ∈ b, row.length = st) :
    RowsAt F c β st (a ++ b) (fun k => (la ++ lb).getD k undef) := by
  intro r j row v hr hv
  have hj := (List.getElem?_eq_some_iff.1 hv).1
  show Rel F c β v (List.getD _ _ _)
  rw [List.getD_eq_getElem?_getD]
  by_cases h : r < a.length
  · rw [List.getElem?_append_left h] at hr
    have hl' := hra row (List.mem_of_getElem? hr)
    have := idx_lt (st := st) h (show j < st by omega)
    rw [List.getElem?_append_left (by omega)]
    have := ha r j row v hr hv
    simp only [List.getD_eq_getElem?_getD] at this
    exact this
  · rw [List.getElem?_append_right (by omega)] at hr
    have hl' := hrb row (List.mem_of_getElem? hr)
    have hm : a.length * st ≤ r * st := Nat.mul_le_mul_right _ (by omega)
    rw [List.getElem?_append_right (by omega), hl]
    have := hb (r - a.length) j row v hr hv
    simp only [List.getD_eq_getElem?_getD] at this
    rwa [show (r - a.length) * st + j = r * st + j - a.length * st by rw [Nat.sub_mul]; omega] at this

theorem zeroCells_size (z : Array Value) (n : Nat) : (Builtin.zeroCells z n).size = n * z.size := by simp [Builtin.zeroCells]

/-- A grown slice: a new object. -/
theorem grow_ok {e : TypeId} {ti : TI} (hti : Told P e ti) (h0 : 0 < ti.size) {t tx ty : TypeId} (ht : P.underlying t = some (.slice e)) {n : Nat} (hI : Inv B β F H w) (hn : β n = none) {cx : Value} {new : List (List V)} {np : Bool} {news : List Value} (hnew : New P F w β ti.size tx cx new np news)
    {base : Option Addr} {sLen sCap : Nat} {old : List (List V)} {olds : List Value} {op : Bool} (hol : old.length = sLen) (hold : (Builtin.firstCells ti.size sLen (.slice base sLen sCap)).run P w.drew = .ok olds.toArray w.drew)
    (ho : RowsAt F (cl w) β ti.size old (fun k => olds.getD k undef)) (hos : olds.length = old.length * ti.size) (hor : ∀ row ∈ old, row.length = ti.size) (hoc : ∀ row ∈ old, ∀ v ∈ row, v.isCell = true) (hop : op = true → ∀ row ∈ old, ∀ v ∈ row, v.hasIds = false)
    (hg : sCap < sLen + new.length) (hb : (sLen + new.length) * ti.bytes ≤ 140737488355328) (hl : sLen + new.length ≤ 140737488355328) (frz : Bool) :
    ∃ cv w' β', (Builtin.append_ #[t, tx] ty #[.slice base sLen sCap, cx]).run P w = .ok cv w' ∧ Rel F (cl w') β' (.ms n ti.size 0 (sLen + new.length) none) cv ∧ Inv B β' F (H.put n (some (.buf ti.size (old ++ new) frz (op && np)))) w' ∧ Ext β β' F F w w' ∧ (∀ i, i ≠ n → β' i = β i) := by
  obtain ⟨i, z, hi, hs, hby, hz, hzok⟩ := hti.info
  obtain ⟨hzr, hzc, _⟩ := zOK_rel hzok F (cl w) β
  have hzs : z.cells.size = ti.size := by rw [(hzr.cells hzc).size, hti.zlen]
  have hrun := run_append_grow_src (P := P) w t tx ty e i z ht hi hz base sLen sCap olds (by rw [hs]; exact hold) cx new.length news (by rw [hs]; exact hnew.src) hg (by omega) (by rw [hby]; exact growslice_fits hg hb)
  have hge := grownCap_ge w (sLen + new.length) sCap e
  generalize hgc : grownCap w (sLen + new.length) sCap e = g at *
  have hId := hI.drew
  have hF : ∀ b o, F b o → b < w.drew.heap.size := fun b o hf => (hId.froz b o hf).1
  let cells : Array Value := (olds ++ news).toArray ++ Builtin.zeroCells z.cells (g - (sLen + new.length))
  have hx1 : Ext β β F F w w.drew := ⟨fun _ _ h => h, fun _ _ h => ⟨h, rfl⟩⟩
  have hext : Ext β (β.set n (.at w.heap.size ti.size g)) F F w (w.drew.alloc (.cells cells e)) := hx1.trans (alloc_ext hn hF)
  have hnl := hnew.src.newsLen
  have happ : RowsAt F (cl w) β ti.size (old ++ new) (fun k => (olds ++ news).getD k undef) := ho.app hnew.at_ hos hor hnew.len
  have hrow : ∀ row ∈ old ++ new, row.length = ti.size := fun row hm => by
    rcases List.mem_append.1 hm with h | h
    · exact hor row h
    · exact hnew.len row h
  refine ⟨_, _, β.set n (.at w.heap.size ti.size g), hrun, ?_, ?_, hext, fun i hi => by unfold Place.set; rw [if_neg hi]⟩
  · exact .ms _ _ _ _ _ _ w.heap.size g g 0 (by simp [Place.set]) (by omega) hge (by simp) (by simp) (by simp)
  · refine hId.alloc hn rfl (new_rel (w := w.drew) (cells := cells) (e := e) h0 ?_ (by simp; omega) hrow (fun row hm => ?_) (fun hp row hm => ?_) (fun r j row v hr hv => ?_) frz)
    · simp only [cells, Array.size_append, List.size_toArray, List.length_append, zeroCells_size, hzs, hos, hnl, hol, ← Nat.add_mul]
      exact Nat.mul_le_mul_right _ (by omega)
    · rcases List.mem_append.1 hm with h | h
      · exact hoc row h
      · exact hnew.cell row h
    · simp only [Bool.and_eq_true] at hp
      rcases List.mem_append.1 hm with h | h
      · exact hop hp.1 row h
      · exact hnew.pure hp.2 row h
    · have hk := idx_lt (st := ti.size) (List.getElem?_eq_some_iff.1 hr).1 (by have := (List.getElem?_eq_some_iff.1 hv).1; rw [hrow row (List.mem_of_getElem? hr)] at this; exact this)
      have hlen : (olds ++ news).length = (old ++ new).length * ti.size := by simp [hos, hnl, Nat.add_mul]
      have e1 : cells.getD (r * ti.size + j) undef = (olds ++ news).getD (r * ti.size + j) undef := by
        simp only [cells]
        rw [Array.getD_eq_getD_getElem?, Array.getElem?_append_left (by simp only [List.size_toArray]; omega)]
        simp [List.getD_eq_getElem?_getD]
      rw [e1]
      exact hext.rel (happ r j row v hr hv)

/-- Appended in place. -/
theorem inplace_ok {e : TypeId} {ti : TI} (hti : Told P e ti) {t tx ty : TypeId} (ht : P.underlying t = some (.slice e)) (hI : Inv B β F H w) {cx : Value} {new : List (List V)} {np : Bool} {news : List Value} (hnew : New P F w β ti.size tx cx new np news)
    {i b C o l cc o' : Nat} {rows rows' : List (List V)} {fz fz' pu : Bool} (hb : β i = some (.at b ti.size C)) (hob : H.at? i = some (.buf ti.size rows fz pu)) (hadr : o' = o * ti.size) (hroom : l + new.length ≤ cc) (hcC : o + cc ≤ C)
    (hF : ∀ q, F b q → q < (o + l) * ti.size) (hF' : fz' = true ∨ fz = false) (hol : o + l ≤ rows.length) (hC' : rows'.length ≤ C) (hmin : rows'.length ≥ o + l)
    (hrows' : ∀ r, rows'[r]? = if o + l ≤ r ∧ r < o + l + new.length then new[r - (o + l)]? else if r < rows'.length then rows[r]? else none) (hsub : ∀ row ∈ rows', row ∈ rows ∨ row ∈ new) :
    ∃ w', (Builtin.append_ #[t, tx] ty #[.slice (some ⟨b, o', none⟩) l cc, cx]).run P w = .ok (.slice (some ⟨b, o', none⟩) (l + new.length) cc) w' ∧ Inv B β F (H.put i (some (.buf ti.size rows' fz' (pu && np)))) w' ∧ Ext β β F F w w' := by
  obtain ⟨ii, z, hi, hs, hby, hz, hzok⟩ := hti.info
  obtain ⟨lc, hl, ho⟩ := hI.obs _ _ hob
  rw [hb] at hl
  cases hl
  have ho' := ho
  cases ho with
  | buf _ _ _ _ _ _ hst hthere hC hrl hcell hpure hr =>
    have hnl := hnew.src.newsLen
    have hq : o' + l * ti.size = (o + l) * ti.size := by rw [hadr, Nat.add_mul]
    have hin : (o + l) * ti.size + news.length ≤ C * ti.size := by
      rw [hnl, ← Nat.add_mul]
      exact Nat.mul_le_mul_right _ (by omega)
    have hrun := run_append_room_src (P := P) w t tx ty e ii ht hi b o' l cc cx new.length news (by rw [hs]; exact hnew.src) hroom (fun j hj => by
        rw [hs, hq]
        have := (there_sub hthere hin j (by omega)).1
        exact this) (fun j hj => by
        rw [hs, hq]
        exact (there_sub hthere hin j (by omega)).2)
    rw [hs, hq] at hrun
    obtain ⟨s1, s2, s3, s4, s5⟩ := setCells_heap b news ((o + l) * ti.size) w
    obtain ⟨g1, g2⟩ := hI.turn hb hob rfl s2 s1 s3 s4 s5 (fun q hf => cl_setCells_out (.inl (hF q hf))) (ob := .buf ti.size rows' fz' (pu && np)) (fun hx' => by
      refine ObRel.write ho' hin hx' hC' (fun row hm => ?_) (fun row hm => ?_) (fun hp row hm => ?_) (fun r j row v hr' hv => ?_)
      · rcases hsub row hm with h | h
        · exact hrl row h
        · exact hnew.len row h
      · rcases hsub row hm with h | h
        · exact hcell row h
        · exact hnew.cell row h
      · simp only [Bool.and_eq_true] at hp
        rcases hsub row hm with h | h
        · exact hpure hp.1 row h
        · exact hnew.pure hp.2 row h
      · have hr2 := hr'
        have hjl := (List.getElem?_eq_some_iff.1 hv).1
        have hrw : row.length = ti.size := by
          rcases hsub row (List.mem_of_getElem? hr2) with h | h
          · exact hrl row h
          · exact hnew.len row h
        rw [hrows' r] at hr'
        by_cases hcase : o + l ≤ r ∧ r < o + l + new.length
        · rw [if_pos hcase] at hr'
          have h1 : (o + l) * ti.size ≤ r * ti.size := Nat.mul_le_mul_right _ hcase.1
          have h2 := idx_lt (st := ti.size) hcase.2 (show j < ti.size by omega)
          rw [Nat.add_mul (o + l)] at h2
          rw [if_pos (by omega)]
          have := hnew.at_ _ j row v hr' hv
          rwa [show (r - (o + l)) * ti.size + j = r * ti.size + j - (o + l) * ti.size by rw [Nat.sub_mul]; omega] at this
        · rw [if_neg hcase] at hr'
          have hne : ¬ ((o + l) * ti.size ≤ r * ti.size + j ∧ r * ti.size + j < (o + l) * ti.size + news.length) := by
            rw [hnl, ← Nat.add_mul]
            rcases Nat.lt_or_ge r (o + l) with hlt | hge
            · have := idx_lt (st := ti.size) hlt (show j < ti.size by omega)
              omega
            · have : (o + l + new.length) * ti.size ≤ r * ti.size := Nat.mul_le_mul_right _ (by omega)
              omega
          rw [if_neg hne]
          split at hr'
          · exact ⟨row, hr', hv⟩
          · cases hr') (fun st rows0 frz pure e1 q hf => by
        cases e1
        rcases hF' with h | h
        · refine ⟨h, ?_⟩
          have := hF q hf
          have h3 : (o + l) * ti.size ≤ rows'.length * ti.size := Nat.mul_le_mul_right _ hmin
          omega
        · have := (hI.prot _ _ _ _ _ _ _ _ hb hob q hf).1
          rw [h] at this
          cases this)
    exact ⟨_, hrun, g1, g2⟩

theorem Inv.congr {H' : Heap} (h : Inv B β F H w) (e : ∀ j, H'.at? j = H.at? j) : Inv B β F H' w :=
  ⟨h.os, h.tape, h.output, h.size, h.keep, h.kin, fun i j oi oj l l' b hi hj => h.inj i j oi oj l l' b (by rw [← e]; exact hi) (by rw [← e]; exact hj), h.fresh, fun i o ho => h.obs i o (by rw [← e]; exact ho), h.froz,
    fun i b st C st' rows frz pure hl ho => h.prot i b st C st' rows frz pure hl (by rw [← e]; exact ho)⟩

/-- An object under another number. -/
theorem Inv.move (h : Inv B β F H w) {i n : Nat} {ob : Ob} {lc : Loc} (hob : H.at? i = some ob) (hb : β i = some lc) (hn : β n = none) : Inv B (β.set n lc) F ((H.put i none).put n (some ob)) w := by
  have hne : i ≠ n := by rintro rfl; rw [hn] at hb; cases hb
  have hx : Ext β (β.set n lc) F F w w := ⟨set_ext hn, fun _ _ h => ⟨h, rfl⟩⟩
  have at_ : ∀ j, ((H.put i none).put n (some ob)).at? j = if j = n then some ob else if j = i then none else H.at? j := fun j => by rw [at?_put, at?_put]
  refine ⟨h.os, h.tape, h.output, h.size, h.keep, h.kin, ?_, ?_, ?_, h.froz, ?_⟩
  · intro j k oj ok l l' b hj hk hl hl' hlb hlb'
    rw [at_] at hj hk
    unfold Place.set at hl hl'
    by_cases e1 : j = n <;> by_cases e2 : k = n
    · rw [e1, e2]
    · rw [if_pos e1] at hl; rw [if_neg e2] at hl' hk
      cases hl
      split at hk
      · cases hk
      · rename_i e3
        exact absurd (h.inj i k ob ok lc l' b hob hk hb hl' hlb hlb').symm e3
    · rw [if_neg e1] at hl hj; rw [if_pos e2] at hl'
      cases hl'
      split at hj
      · cases hj
      · rename_i e3
        exact absurd (h.inj i j ob oj lc l b hob hj hb hl hlb' hlb).symm e3
    · rw [if_neg e1] at hl hj; rw [if_neg e2] at hl' hk
      split at hj
      · cases hj
      · split at hk
        · cases hk
        · exact h.inj j k oj ok l l' b hj hk hl hl' hlb hlb'
  · intro j l b hl hlb
    unfold Place.set at hl
    split at hl
    · cases hl; exact h.fresh i lc b hb hlb
    · exact h.fresh j l b hl hlb
  · intro j o ho
    rw [at_] at ho
    by_cases e1 : j = n
    · rw [if_pos e1] at ho
      cases ho
      obtain ⟨l, h1, h2⟩ := h.obs i ob hob
      rw [hb] at h1
      cases h1
      exact ⟨lc, by unfold Place.set; rw [if_pos e1], h2.keep hx fun _ _ => rfl⟩
    · rw [if_neg e1] at ho
      split at ho
      · cases ho
      · obtain ⟨l, h1, h2⟩ := h.obs j o ho
        exact ⟨l, hx.place _ _ h1, h2.keep hx fun _ _ => rfl⟩
  · intro j b st C st' rows frz pure hl ho o hf
    rw [at_] at ho
    unfold Place.set at hl
    by_cases e1 : j = n
    · rw [if_pos e1] at ho hl
      cases ho; cases hl
      exact h.prot i b st C st' rows frz pure hb hob o hf
    · rw [if_neg e1] at ho hl
      split at ho
      · cases ho
      · exact h.prot j b st C st' rows frz pure hl ho o hf

theorem append_zero {e : TypeId} {ti : TI} (hti : Told P e ti) {t tx ty : TypeId} (ht : P.underlying t = some (.slice e)) {cx : Value} {new : List (List V)} {np : Bool} {news : List Value} (hnew : New P F w β ti.size tx cx new np news) (h0 : new.length = 0)
    {base : Option Addr} {sLen sCap : Nat} (hl : sLen ≤ sCap) : (Builtin.append_ #[t, tx] ty #[.slice base sLen sCap, cx]).run P w = .ok (.slice base sLen sCap) w := by
  have h1 := hnew.src.len
  have h2 := hnew.src.cells
  have h3 := hnew.src.newsLen
  rw [h0] at h1 h2 h3
  have h4 : news = [] := by simpa using h3
  subst h4
  obtain ⟨i, z, hi, hs, hby, hz, hzok⟩ := hti.info
  rcases hnew.src.kind with ⟨e', hk⟩ | hk <;> cases base <;> simp [Builtin.append_, run_underlying ht, run_underlying hk, hti.sizeOf w, h1, h2, hl, storeCells]

theorem only_mem {u : Upd} {i n : Nat} {ob : Ob} (h : i = n) (hm : (n, some ob) ∈ u) : ∃ o, (i, o) ∈ u := ⟨some ob, h ▸ hm⟩

include hT in
theorem append_ok {e : TypeId} {ti : TI} (hte : T e = some ti) (h0 : 0 < ti.size) {t tx ty : TypeId} (ht : P.underlying t = some (.slice e)) {n : Nat} (hI : Inv B β F H w) (hn : β n = none) {s : V} {cs cx : Value} {new : List (List V)} {np : Bool} {news : List Value} (hnew : New P F w β ti.size tx cx new np news)
    (h : (appendR ti n s new np).run H l = some ((v, u), l')) (hs : Rel F (cl w) β s cs) :
    ∃ cv w' β' F', (Builtin.append_ #[t, tx] ty #[cs, cx]).run P w = .ok cv w' ∧ Left n B β F H w v u cv w' β' F' := by
  have hti := hT.told hte
  unfold appendR at h
  split at h
  · -- nil
    cases hs
    split at h
    · rename_i hz
      simp only [Rd.run, Option.some.injEq, Prod.mk.injEq] at h
      obtain ⟨⟨rfl, rfl⟩, _⟩ := h
      exact ⟨_, w, β, F, append_zero hti ht hnew hz (Nat.le_refl _), Left.quiet hI (.nils _)⟩
    · rename_i hz
      split at h
      · rename_i hb
        simp only [Rd.run, Option.some.injEq, Prod.mk.injEq] at h
        obtain ⟨⟨rfl, rfl⟩, _⟩ := h
        obtain ⟨cv, w', β', g1, g2, g3, g4, g5⟩ := grow_ok (ty := ty) hti h0 ht hI hn hnew (base := none) (sLen := 0) (sCap := 0) (old := []) (olds := []) (op := true) rfl (by simpa using run_firstCells_none (P := P) w.drew ti.size 0 0 0) (fun r j row v hr => by simp at hr) (by simp) (by simp) (by simp) (by simp) (by omega) (by simpa using hb.1) (by simpa using hb.2) false
        refine ⟨cv, w', β', F, g1, ⟨by simpa using g2, by simpa [Heap.puts] using g3, g4, fun i hi => ?_⟩⟩
        by_cases e1 : i = n
        · subst e1; exact ⟨Nat.le_refl _, hn, some _, .head _⟩
        · exact absurd (g5 i e1) hi
      · simp [Rd.run] at h
  · -- frozen
    split at h
    · rename_i hz
      simp only [Rd.run, Option.some.injEq, Prod.mk.injEq] at h
      obtain ⟨⟨rfl, rfl⟩, _⟩ := h
      have hs' := hs
      cases hs with
      | fz0 _ a cap => exact ⟨_, w, β, F, append_zero hti ht hnew hz (Nat.zero_le _), Left.quiet hI hs'⟩
      | fz _ _ b o st cap g hl => exact ⟨_, w, β, F, append_zero hti ht hnew hz hl, Left.quiet hI hs'⟩
    · simp [Rd.run] at h
  · rename_i i st o ln c
    split at h
    · rename_i hz
      simp only [Rd.run, Option.some.injEq, Prod.mk.injEq] at h
      obtain ⟨⟨rfl, rfl⟩, _⟩ := h
      have hs' := hs
      cases hs with
      | ms0 => exact ⟨_, w, β, F, append_zero hti ht hnew hz (Nat.le_refl _), Left.quiet hI hs'⟩
      | ms _ _ _ _ _ _ b C cc o' hb hcC hlen => exact ⟨_, w, β, F, append_zero hti ht hnew hz hlen, Left.quiet hI hs'⟩
    · rename_i hz
      split at h
      · rename_i hst
        subst hst
        simp only [Rd.run] at h
        split at h
        · rename_i ob hob
          split at h
          · rename_i st2 rows fz pu
            split at h
            · rename_i hc
              obtain ⟨rfl, hol, hby, hlt⟩ := hc
              obtain ⟨lc, hl, ho⟩ := hI.obs _ _ hob
              -- a new object, and what becomes of the old one
              have grown : ∀ (base : Option Addr) (sCap : Nat) (olds : List Value) (frz : Bool), (Builtin.firstCells ti.size ln (.slice base ln sCap)).run P w.drew = .ok olds.toArray w.drew →
                  RowsAt F (cl w) β ti.size ((rows.drop o).take ln) (fun k => olds.getD k undef) → olds.length = ln * ti.size → (∀ row ∈ rows, row.length = ti.size) → (∀ row ∈ rows, ∀ v ∈ row, v.isCell = true) → (pu = true → ∀ row ∈ rows, ∀ v ∈ row, v.hasIds = false) → sCap < ln + new.length →
                  ∃ cv w' β', (Builtin.append_ #[t, tx] ty #[.slice base ln sCap, cx]).run P w = .ok cv w' ∧ Rel F (cl w') β' (.ms n ti.size 0 (ln + new.length) none) cv ∧ Inv B β' F (H.put n (some (.buf ti.size ((rows.drop o).take ln ++ new) frz (pu && np)))) w' ∧ Ext β β' F F w w' ∧ (∀ i, i ≠ n → β' i = β i) := by
                intro base sCap olds frz q1 q2 q3 q4 q5 q6 q7
                have hl' : ((rows.drop o).take ln).length = ln := by simp; omega
                have hm : ∀ row ∈ (rows.drop o).take ln, row ∈ rows := fun row hm => List.mem_of_mem_drop (List.mem_of_mem_take hm)
                exact grow_ok (ty := ty) hti h0 ht hI hn hnew hl' q1 q2 (by rw [hl']; exact q3) (fun row h => q4 row (hm row h)) (fun row h => q5 row (hm row h)) (fun hp row h => q6 hp row (hm row h)) q7 hby hlt frz
              have hin : ∀ (i' : Nat), i ≠ n := fun _ => by rintro rfl; rw [hn] at hl; cases hl
              have hne : i ≠ n := hin 0
              cases hs with
              | ms0 _ _ _ _ hb hc0 =>
                rw [hb] at hl
                cases hl
                cases ho with
                | nil =>
                  have only : ∀ {β' : Place}, (∀ i, i ≠ n → β' i = β i) → ∀ i', β' i' ≠ β i' → β i' = none ∧ i' = n := fun {β'} g5 i' hi => by
                    by_cases e1 : i' = n
                    · exact ⟨e1 ▸ hn, e1⟩
                    · exact absurd (g5 i' e1) hi
                  have grow0 := fun frz => grown none 0 [] frz (by simpa using run_firstCells_none (P := P) w.drew ti.size 0 0 0) (fun r j row v hr => by simp at hr) (by simp) (by simp) (by simp) (by simp) (by omega)
                  unfold appendM at h
                  cases c with
                  | some c =>
                    have := hc0 c rfl
                    subst this
                    simp only at h
                    rw [if_pos (by omega)] at h
                    simp only [Rd.run, Option.some.injEq, Prod.mk.injEq] at h
                    obtain ⟨⟨rfl, rfl⟩, _⟩ := h
                    obtain ⟨cv, w', β', g1, g2, g3, g4, g5⟩ := grow0 false
                    exact ⟨cv, w', β', F, g1, ⟨g2, by simpa [Heap.puts] using g3, g4, fun i' hi => ⟨Nat.le_of_eq (only g5 i' hi).2.symm, (only g5 i' hi).1, only_mem (only g5 i' hi).2 (.head _)⟩⟩⟩
                  | none =>
                    simp only at h
                    rw [if_neg (show ¬ (0 + 0 + new.length ≤ ([] : List (List V)).length) by simp only [List.length_nil]; omega), if_pos ⟨trivial, .inl rfl⟩] at h
                    simp only [Rd.run, Option.some.injEq, Prod.mk.injEq] at h
                    obtain ⟨⟨rfl, rfl⟩, _⟩ := h
                    obtain ⟨cv, w', β', g1, g2, g3, g4, g5⟩ := grow0 fz
                    refine ⟨cv, w', β', F, g1, ⟨g2, ?_, g4, fun i' hi => ⟨Nat.le_of_eq (only g5 i' hi).2.symm, (only g5 i' hi).1, only_mem (only g5 i' hi).2 (.tail _ (.head _))⟩⟩⟩
                    refine (g3.gone i).congr fun j => ?_
                    simp only [Heap.puts, at?_put]
                    by_cases e1 : j = n
                    · subst e1; simp [hne.symm]
                    · simp [e1]
              | ms _ _ _ _ _ _ b C cc o' hb hcC hlen hcap hnone hadr =>
                rw [hb] at hl
                cases hl
                have ho' := ho
                cases ho with
                | buf _ _ _ _ _ _ hst hthere hC hrl hcell hpure hr =>
                  have hlen' : ((rows.drop o).take ln).length = ln := by simp; omega
                  have hget : ∀ r, r < ln → ((rows.drop o).take ln)[r]? = rows[o + r]? := fun r hr => by
                    rw [List.getElem?_take, if_pos hr, List.getElem?_drop]
                  -- the old cells
                  have olds : ∃ olds : List Value, (Builtin.firstCells ti.size ln (.slice (some ⟨b, o', none⟩) ln cc)).run P w.drew = .ok olds.toArray w.drew ∧ RowsAt F (cl w) β ti.size ((rows.drop o).take ln) (fun k => olds.getD k undef) ∧ olds.length = ln * ti.size := by
                    refine ⟨(List.range (ln * ti.size)).map fun k => (cl w b (o' + k)).getD undef, ?_, ?_, by simp⟩
                    · refine run_firstCells_some w.drew ti.size ln ⟨b, o', none⟩ ln cc _ (by simp) fun j v hv => ?_
                      have hj : j < ln * ti.size := by simpa using (List.getElem?_eq_some_iff.1 hv).1
                      have hv' : (cl w b (o' + j)).getD undef = v := by simpa [hj] using hv
                      have hln : 0 < ln := by
                        rcases Nat.eq_zero_or_pos ln with h | h
                        · subst h; simp at hj
                        · exact h
                      have ho2 : o' = o * ti.size := by rcases hadr with h | h <;> omega
                      have hr' : j / ti.size < ln := Nat.div_lt_of_lt_mul (by rw [Nat.mul_comm]; exact hj)
                      have hj' : j % ti.size < ti.size := Nat.mod_lt _ h0
                      have hrow : rows[o + j / ti.size]? = some (rows[o + j / ti.size]'(by omega)) := by simp
                      have hl2 := hrl _ (List.mem_of_getElem? hrow)
                      obtain ⟨cv, h1, _⟩ := hr _ (j % ti.size) _ ((rows[o + j / ti.size]'(by omega))[j % ti.size]'(by omega)) hrow (List.getElem?_eq_getElem (by omega))
                      have e1 : (o + j / ti.size) * ti.size + j % ti.size = o' + j := by
                        rw [Nat.add_mul, ← ho2, Nat.add_assoc, Nat.div_add_mod' j ti.size]
                      rw [e1] at h1
                      rw [Addr.add_mid]
                      rw [h1] at hv'
                      simp only [Option.getD_some] at hv'
                      subst hv'
                      exact h1
                    · intro r j row v hrow hv
                      have hr' : r < ln := by have := (List.getElem?_eq_some_iff.1 hrow).1; omega
                      rw [hget r hr'] at hrow
                      have hjl := (List.getElem?_eq_some_iff.1 hv).1
                      have hl2 := hrl _ (List.mem_of_getElem? hrow)
                      have ho2 : o' = o * ti.size := by rcases hadr with h | h <;> omega
                      obtain ⟨cv, h1, h2⟩ := hr (o + r) j row v hrow hv
                      show Rel F (cl w) β v (List.getD _ _ _)
                      rw [getD_map_range _ (idx_lt hr' (by omega))]
                      rw [show o' + (r * ti.size + j) = (o + r) * ti.size + j by rw [ho2, Nat.add_mul]; omega, h1]
                      exact h2
                  obtain ⟨olds, q1, q2, q3⟩ := olds
                  have grow := fun frz hg => grown (some ⟨b, o', none⟩) cc olds frz q1 q2 q3 hrl hcell hpure hg
                  have only : ∀ {β' : Place}, (∀ i, i ≠ n → β' i = β i) → ∀ i', β' i' ≠ β i' → β i' = none ∧ i' = n := fun {β'} g5 i' hi => by
                    by_cases e1 : i' = n
                    · exact ⟨e1 ▸ hn, e1⟩
                    · exact absurd (g5 i' e1) hi
                  have over : o + ln + new.length ≤ rows.length → (∀ r, (rows.take (o + ln) ++ new ++ rows.drop (o + ln + new.length))[r]? = if o + ln ≤ r ∧ r < o + ln + new.length then new[r - (o + ln)]? else if r < (rows.take (o + ln) ++ new ++ rows.drop (o + ln + new.length)).length then rows[r]? else none) ∧
                      (rows.take (o + ln) ++ new ++ rows.drop (o + ln + new.length)).length = rows.length ∧ ∀ row ∈ rows.take (o + ln) ++ new ++ rows.drop (o + ln + new.length), row ∈ rows ∨ row ∈ new := by
                    intro hfit
                    have hL : (rows.take (o + ln) ++ new ++ rows.drop (o + ln + new.length)).length = rows.length := by simp; omega
                    refine ⟨fun r => ?_, hL, fun row hm => ?_⟩
                    · rw [hL]
                      by_cases h1 : r < o + ln
                      · rw [if_neg (by omega), if_pos (by omega), List.append_assoc, List.getElem?_append_left (by simp; omega), List.getElem?_take, if_pos h1]
                      · by_cases h2 : r < o + ln + new.length
                        · rw [if_pos (by omega), List.getElem?_append_left (by simp; omega), List.getElem?_append_right (by simp; omega)]
                          simp [Nat.min_eq_left hol]
                        · rw [if_neg (by omega), List.getElem?_append_right (by simp; omega), List.getElem?_drop]
                          by_cases h3 : r < rows.length
                          · rw [if_pos h3]
                            congr 1
                            simp
                            omega
                          · rw [if_neg h3, List.getElem?_eq_none]
                            simp
                            omega
                    · simp only [List.mem_append] at hm
                      rcases hm with (h | h) | h
                      · exact .inl (List.mem_of_mem_take h)
                      · exact .inr h
                      · exact .inl (List.mem_of_mem_drop h)
                  have noF : fz = false → ∀ q, ¬ F b q := fun hf q hq => by
                    have := (hI.prot _ _ _ _ _ _ _ _ hb hob q hq).1
                    rw [hf] at this
                    cases this
                  -- in place, over what was there
                  have within : ∀ cap', o + ln + new.length ≤ rows.length → fz = false → ln + new.length ≤ cc → (∀ k, cap' = some k → cc = k) → (cap' = none → o + cc = C) →
                      ∃ cv w' β' F', (Builtin.append_ #[t, tx] ty #[.slice (some ⟨b, o', none⟩) ln cc, cx]).run P w = .ok cv w' ∧ Left n B β F H w (.ms i ti.size o (ln + new.length) cap') [(i, some (.buf ti.size (rows.take (o + ln) ++ new ++ rows.drop (o + ln + new.length)) false (pu && np)))] cv w' β' F' := by
                    intro cap' hfit hfz hroom hk1 hk2
                    obtain ⟨o1, o2, o3⟩ := over hfit
                    have ho2 : o' = o * ti.size := by rcases hadr with h | h <;> omega
                    obtain ⟨w', g1, g2, g3⟩ := inplace_ok (ty := ty) (fz' := false) hti ht hI hnew hb hob ho2 hroom hcC (fun q hq => absurd hq (noF hfz q)) (.inr hfz) hol (by omega) (by omega) o1 o3
                    exact ⟨_, w', β, F, g1, ⟨.ms _ _ _ _ _ _ b C cc o' hb hcC hroom hk1 hk2 hadr, by simpa [Heap.puts] using g2, g3, fun i' hi => absurd rfl hi⟩⟩
                  unfold appendM at h
                  cases c with
                  | some c =>
                    have hcc := hcap c rfl
                    subst hcc
                    simp only at h
                    split at h
                    · rename_i hlt2
                      simp only [Rd.run, Option.some.injEq, Prod.mk.injEq] at h
                      obtain ⟨⟨rfl, rfl⟩, _⟩ := h
                      obtain ⟨cv, w', β', g1, g2, g3, g4, g5⟩ := grow false hlt2
                      exact ⟨cv, w', β', F, g1, ⟨g2, by simpa [Heap.puts] using g3, g4, fun i' hi => ⟨Nat.le_of_eq (only g5 i' hi).2.symm, (only g5 i' hi).1, only_mem (only g5 i' hi).2 (.head _)⟩⟩⟩
                    · split at h
                      · rename_i hlt2 hfit
                        simp only [Rd.run, Option.some.injEq, Prod.mk.injEq] at h
                        obtain ⟨⟨rfl, rfl⟩, _⟩ := h
                        exact within (some cc) hfit.1 hfit.2 (by omega) (fun k hk => by cases hk; rfl) (fun hk => by cases hk)
                      · simp [Rd.run] at h
                  | none =>
                    have hcc := hnone rfl
                    simp only at h
                    split at h
                    · rename_i hfit
                      split at h
                      · rename_i hfz
                        simp only [Rd.run, Option.some.injEq, Prod.mk.injEq] at h
                        obtain ⟨⟨rfl, rfl⟩, _⟩ := h
                        exact within none hfit hfz (by omega) (fun k hk => by cases hk) (fun _ => hcc)
                      · simp [Rd.run] at h
                    · split at h
                      · rename_i hnfit htip
                        obtain ⟨rfl, htip⟩ := htip
                        simp only [Rd.run, Option.some.injEq, Prod.mk.injEq] at h
                        obtain ⟨⟨rfl, rfl⟩, _⟩ := h
                        simp only [Nat.zero_add, List.drop_zero] at *
                        by_cases hroom : ln + new.length ≤ cc
                        · -- there is room
                          have ho2 : o' = 0 * ti.size := by rcases hadr with h | h <;> omega
                          have hL : (rows.take ln ++ new).length = ln + new.length := by simp; omega
                          obtain ⟨w', g1, g2, g3⟩ := inplace_ok (ty := ty) (fz' := fz) (rows' := rows.take ln ++ new) (o := 0) (l := ln) hti ht hI hnew hb hob ho2 hroom (by omega) (fun q hq => by
                              have := hI.prot _ _ _ _ _ _ _ _ hb hob q hq
                              rcases htip with h | h
                              · rw [Nat.zero_add, h]; exact this.2
                              · rw [h] at this; cases this.1) (by cases fz <;> simp) (by omega) (by omega) (by omega) (fun r => by
                              rw [hL]
                              by_cases h1 : r < ln
                              · rw [if_neg (by omega), if_pos (by omega), List.getElem?_append_left (by simp; omega), List.getElem?_take, if_pos h1]
                              · by_cases h2 : r < ln + new.length
                                · rw [if_pos (by omega), List.getElem?_append_right (by simp; omega)]
                                  simp [Nat.min_eq_left hol]
                                · rw [if_neg (by omega), if_neg (by omega), List.getElem?_eq_none (by omega)]) (fun row hm => by
                              rcases List.mem_append.1 hm with h | h
                              · exact .inl (List.mem_of_mem_take h)
                              · exact .inr h)
                          have hat : (H.put i (some (.buf ti.size (rows.take ln ++ new) fz (pu && np)))).at? i = some (.buf ti.size (rows.take ln ++ new) fz (pu && np)) := by rw [at?_put, if_pos rfl]
                          have hx : Ext β (β.set n (.at b ti.size C)) F F w' w' := ⟨set_ext hn, fun _ _ h => ⟨h, rfl⟩⟩
                          refine ⟨_, w', β.set n (.at b ti.size C), F, g1, ⟨?_, ?_, g3.trans hx, fun i' hi => ?_⟩⟩
                          · exact .ms _ _ _ _ _ _ b C cc o' (by simp [Place.set]) (by omega) hroom (by simp) (fun _ => by omega) (by omega)
                          · refine (g2.move hat hb hn).congr fun j => ?_
                            simp only [Heap.puts, at?_put]
                            by_cases e1 : j = n
                            · simp [e1]
                            · by_cases e2 : j = i <;> simp [e1, e2]
                          · unfold Place.set at hi
                            split at hi
                            · rename_i e1; exact ⟨Nat.le_of_eq e1.symm, e1 ▸ hn, only_mem e1 (.tail _ (.head _))⟩
                            · exact absurd rfl hi
                        · obtain ⟨cv, w', β', g1, g2, g3, g4, g5⟩ := grow fz (by omega)
                          refine ⟨cv, w', β', F, g1, ⟨g2, ?_, g4, fun i' hi => ⟨Nat.le_of_eq (only g5 i' hi).2.symm, (only g5 i' hi).1, only_mem (only g5 i' hi).2 (.tail _ (.head _))⟩⟩⟩
                          refine (g3.gone i).congr fun j => ?_
                          simp only [Heap.puts, at?_put]
                          by_cases e1 : j = n
                          · subst e1; simp [hne.symm]
                          · simp [e1]
                      · simp [Rd.run] at h
            · simp [Rd.run] at h
          · simp [Rd.run] at h
        · simp at h
      · simp [Rd.run] at h
  · simp [Rd.run] at h
end

end Go.Proofs.Ytfdemnefkfkghaa.R
