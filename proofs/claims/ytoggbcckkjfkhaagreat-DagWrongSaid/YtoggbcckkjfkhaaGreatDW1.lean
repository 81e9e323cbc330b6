/- Parts of the proof of YtoggbcckkjfkhaaGreatRDagWrongAll, one behind the other: RH, RHa, RI, RJ, RHb, RHc, RHd, RK, RL, RLa, RLb. -/
import Derived.Test.YtoggbcckkjfkhaaGreatDW0
import Derived.Lib.ConvBytes
import Derived.Lib.Strings
import Derived.Laws.BytesArg
import Derived.Laws.BytesString
import Derived.RangeFuncMany
import Derived.OrdersIn
/- append. -/
namespace Go.Proofs.YtoggbcckkjfkhaaGreat.R
set_option linter.unusedVariables false
set_option linter.unusedSimpArgs false
open Go Go.RowKit

section
variable {P : Program} {T : TT} (hT : TOK P T) {B : Base} {F : Froz} {w : World} {β : Place} {H : Heap} {l l' : List Nat} {v : V} {u : Upd}

/-- Rows that are appended: what they are in memory. -/
structure New (P : Program) (F : Froz) (w : World) (β : Place) (st : Nat) (tx : TypeId) (cx : Value) (new : List (List V)) (p : Bool) (news : List Value) : Prop where
  src : Src P st tx cx new.length news w
  at_ : RowsAt F (cl w) β st new (fun k => news.getD k undef)
  len : ∀ row ∈ new, row.length = st
  cell : ∀ row ∈ new, ∀ v ∈ row, v.isCell = true
  pure : p = true → ∀ row ∈ new, ∀ v ∈ row, v.hasIds = false
  first : ∀ m, m ≤ new.length → (Builtin.firstCells st m cx).run P w = .ok (news.take (m * st)).toArray w

theorem getD_map_range {n k : Nat} (f : Nat → Value) (h : k < n) : ((List.range n).map f).getD k undef = f k := by
  simp [h]

theorem idx_lt {r j n st : Nat} (hr : r < n) (hj : j < st) : r * st + j < n * st := by
  have : (r + 1) * st ≤ n * st := Nat.mul_le_mul_right _ hr
  rw [Nat.add_mul] at this
  omega

/-- Rows out of memory. -/
theorem new_of {st : Nat} {tx e' : TypeId} (hk : P.underlying tx = some (.slice e')) (h0 : 0 < st) {b o cap : Nat} {rows : List (List V)} (f : Nat → Value) (hc : ∀ k, k < rows.length * st → cl w b (o + k) = some (f k)) (hr : RowsAt F (cl w) β st rows f)
    (hlen : ∀ row ∈ rows, row.length = st) (hcell : ∀ row ∈ rows, ∀ v ∈ row, v.isCell = true) {p : Bool} (hpure : p = true → ∀ row ∈ rows, ∀ v ∈ row, v.hasIds = false) :
    New P F w β st tx (.slice (some ⟨b, o, none⟩) rows.length cap) rows p ((List.range (rows.length * st)).map f) := by
  refine ⟨Src.ofSlice w hk ⟨b, o, none⟩ rows.length cap _ (by simp) (fun j u hu => ?_) (fun u hu => ?_), fun r j row v hrow hv => ?_, hlen, hcell, hpure, fun m hm => ?_⟩
  · have hj : j < rows.length * st := by simpa using (List.getElem?_eq_some_iff.1 hu).1
    have : f j = u := by simpa [hj] using hu
    rw [Addr.add_mid]
    have := hc j hj
    unfold cl at this
    rw [this]
    simp_all
  · obtain ⟨k, hk, rfl⟩ := List.mem_map.1 hu
    have hk' : k < rows.length * st := by simpa using hk
    have hr' : k / st < rows.length := Nat.div_lt_of_lt_mul (by rw [Nat.mul_comm]; exact hk')
    have hj' : k % st < st := Nat.mod_lt _ h0
    have hm : rows[k / st] ∈ rows := List.getElem_mem _
    have hl := hlen _ hm
    have := hr (k / st) (k % st) rows[k / st] (rows[k / st][k % st]'(by omega)) (by simp) (by simp)
    rw [Nat.div_add_mod' k st] at this
    exact cell_of this (hcell _ hm _ (List.getElem_mem _))
  · have h1 := (List.getElem?_eq_some_iff.1 hrow).1
    have h2 := (List.getElem?_eq_some_iff.1 hv).1
    have h3 := hlen _ (List.mem_of_getElem? hrow)
    show Rel F (cl w) β v (List.getD _ _ _)
    rw [getD_map_range f (idx_lt h1 (by omega))]
    exact hr r j row v hrow hv
  · have hle : m * st ≤ rows.length * st := Nat.mul_le_mul_right _ hm
    refine run_firstCells_some w st m ⟨b, o, none⟩ rows.length cap _ (by simp only [List.length_take, List.length_map, List.length_range]; omega) fun j u hu => ?_
    have hj : j < rows.length * st := by
      have := (List.getElem?_eq_some_iff.1 hu).1
      simp only [List.length_take, List.length_map, List.length_range] at this
      omega
    have hj2 : j < m * st := by
      have := (List.getElem?_eq_some_iff.1 hu).1
      simp only [List.length_take, List.length_map, List.length_range] at this
      omega
    rw [List.getElem?_take, if_pos hj2] at hu
    have : f j = u := by simpa [hj] using hu
    rw [Addr.add_mid]
    have := hc j hj
    unfold cl at this
    rw [this]
    simp_all

theorem rows_ok {α : Type} {st : Nat} {tx e' : TypeId} (hI : Inv B β F H w) (hk : P.underlying tx = some (.slice e')) (h0 : 0 < st) {x : V} {cx : Value} {k : List (List V) → Bool → Rd α} {res : α × List Nat} (h : (rows? st x k).run H l = some res) (hx : Rel F (cl w) β x cx) :
    ∃ new p l1 news, (k new p).run H l1 = some res ∧ New P F w β st tx cx new p news := by
  have nil : ∀ (a : Option Addr) (cap : Nat) (p : Bool), New P F w β st tx (.slice a 0 cap) [] p [] := fun a cap p =>
    ⟨by
      cases a with
      | none => exact Src.ofNil w hk cap
      | some a => exact Src.ofSlice w hk a 0 cap [] (by simp) (by simp) (by simp), fun r j row v hr => by simp at hr, by simp, by simp, by simp, fun m hm => by
      have : m = 0 := by simpa using hm
      subst this
      cases a with
      | none => simpa using run_firstCells_none (P := P) w st 0 0 cap
      | some a => simpa using run_firstCells_some (P := P) w st 0 a 0 cap [] (by simp) (by simp)⟩
  unfold rows? at h
  split at h
  · cases hx
    exact ⟨[], true, l, [], h, nil _ _ _⟩
  · rename_i rows
    split at h
    · rename_i hall
      have hall' : ∀ r ∈ rows, r.length = st := by simpa using hall
      cases hx with
      | fz0 _ a cap => exact ⟨[], true, l, [], h, nil _ _ _⟩
      | fz _ _ b o st' cap g hl hst hcell hF hr =>
        have hst' : rows ≠ [] → st' = st := fun hne => by
          obtain ⟨r, hm⟩ := List.exists_mem_of_ne_nil rows hne
          rw [← hst r hm, hall' r hm]
        by_cases hne : rows = []
        · subst hne
          exact ⟨[], true, l, [], h, nil _ _ _⟩
        · obtain rfl := hst' hne
          refine ⟨rows, true, l, _, h, new_of hk h0 (fun k => g (k / st') (k % st')) (fun k hk => ?_) (fun r j row v hrow hv => ?_) hall' (fun row hm v hv => (hcell row hm v hv).1) (fun _ row hm v hv => (hcell row hm v hv).2)⟩
          · have := (hF (k / st') (k % st') (Nat.div_lt_of_lt_mul (by rw [Nat.mul_comm]; exact hk)) (Nat.mod_lt _ h0)).2
            rwa [Nat.add_assoc, Nat.div_add_mod' k st'] at this
          · have hj := (List.getElem?_eq_some_iff.1 hv).1
            have hl' := hall' row (List.mem_of_getElem? hrow)
            have e1 : (r * st' + j) / st' = r := by rw [Nat.add_comm, Nat.add_mul_div_right _ _ h0, Nat.div_eq_of_lt (by omega), Nat.zero_add]
            have e2 : (r * st' + j) % st' = j := by rw [Nat.add_comm, Nat.add_mul_mod_self_right]; exact Nat.mod_eq_of_lt (by omega)
            show Rel F (cl w) β v (g ((r * st' + j) / st') ((r * st' + j) % st'))
            rw [e1, e2]
            exact (hr r j row v hrow hv).mono (fun b o h => ⟨h, rfl⟩) (by simp [none0])
    · simp [Rd.run] at h
  · rename_i i st' o n c
    split at h
    · rename_i hst
      subst hst
      simp only [Rd.run] at h
      split at h
      · rename_i ob hob
        split at h
        · rename_i st2 rows frz pure
          split at h
          · rename_i hc
            obtain ⟨rfl, hon⟩ := hc
            cases hx with
            | ms0 => exact ⟨_, _, _, [], h, by simpa using nil none 0 pure⟩
            | ms _ _ _ _ _ _ b C cc o' hb hcC hlen hcap hnone ho =>
              obtain ⟨lc, hl, ho'⟩ := hI.obs _ _ hob
              rw [hb] at hl
              cases hl
              cases ho' with
              | buf _ _ _ _ _ _ hst hthere hC hrl hcell hpure hr =>
                have hlen' : ((rows.drop o).take n).length = n := by simp; omega
                have hget : ∀ r, r < n → ((rows.drop o).take n)[r]? = rows[o + r]? := fun r hr => by
                  rw [List.getElem?_take, if_pos hr, List.getElem?_drop]
                refine ⟨_, _, _, (List.range (n * st2)).map (fun k => (cl w b (o' + k)).getD undef), h, ?_⟩
                by_cases hn : n = 0
                · subst hn
                  simpa using nil (some ⟨b, o', none⟩) cc pure
                · have ho2 : o' = o * st2 := by rcases ho with h | h <;> omega
                  have hcell1 : ∀ r j row v, ((rows.drop o).take n)[r]? = some row → row[j]? = some v → ∃ cv, cl w b (o' + (r * st2 + j)) = some cv ∧ Rel F (cl w) β v cv := by
                    intro r j row v hrow hv
                    have hr' : r < n := by have := (List.getElem?_eq_some_iff.1 hrow).1; omega
                    rw [hget r hr'] at hrow
                    obtain ⟨cv, h1, h2⟩ := hr (o + r) j row v hrow hv
                    exact ⟨cv, by rw [ho2, ← h1, Nat.add_mul]; congr 1; omega, h2⟩
                  have hmem : ∀ row ∈ (rows.drop o).take n, row ∈ rows := fun row hm => List.mem_of_mem_drop (List.mem_of_mem_take hm)
                  have key := new_of (P := P) (F := F) (w := w) (β := β) hk h0 (b := b) (o := o') (cap := cc) (rows := (rows.drop o).take n) (p := pure) (fun k => (cl w b (o' + k)).getD undef) (fun k hk' => by
                      rw [hlen'] at hk'
                      have hr' : k / st2 < n := Nat.div_lt_of_lt_mul (by rw [Nat.mul_comm]; exact hk')
                      have hj' : k % st2 < st2 := Nat.mod_lt _ h0
                      have hm : ((rows.drop o).take n)[k / st2]'(by omega) ∈ (rows.drop o).take n := List.getElem_mem _
                      have hl2 := hrl _ (hmem _ hm)
                      obtain ⟨cv, h1, _⟩ := hcell1 (k / st2) (k % st2) _ (((rows.drop o).take n)[k / st2]'(by omega))[k % st2] (List.getElem?_eq_getElem (by omega)) (List.getElem?_eq_getElem (by omega))
                      rw [Nat.div_add_mod' k st2] at h1
                      rw [h1]; rfl) (fun r j row v hrow hv => by
                      obtain ⟨cv, h1, h2⟩ := hcell1 r j row v hrow hv
                      simp only [h1]
                      exact h2) (fun row hm => hrl row (hmem row hm)) (fun row hm => hcell row (hmem row hm)) (fun hp row hm => hpure hp row (hmem row hm))
                  rwa [hlen'] at key
          · simp [Rd.run] at h
        · simp [Rd.run] at h
      · simp at h
    · simp [Rd.run] at h
  · simp [Rd.run] at h

theorem RowsAt.mono {F' : Froz} {w' : World} {β' : Place} (hx : Ext β β' F F' w w') {st : Nat} {rows : List (List V)} {f : Nat → Value} (h : RowsAt F (cl w) β st rows f) : RowsAt F' (cl w') β' st rows f := fun r j row v hr hv => hx.rel (h r j row v hr hv)

/-- Two lists of rows in a row. -/
theorem RowsAt.app {F : Froz} {c : Nat → Nat → Option Value} {β : Place} {st : Nat} {a b : List (List V)} {la lb : List Value} (ha : RowsAt F c β st a (fun k => la.getD k undef)) (hb : RowsAt F c β st b (fun k => lb.getD k undef)) (hl : la.length = a.length * st) (hra : ∀ row ∈ a, row.length = st) (hrb : ∀ row ∈ b, row.length = st) :
    RowsAt F c β st (a ++ b) (fun k => (la ++ lb).getD k undef) := by
  intro r j row v hr hv
  have hj := (List.getElem?_eq_some_iff.1 hv).1
  show Rel F c β v (List.getD _ _ _)
  rw [List.getD_eq_getElem?_getD]
  by_cases h : r < a.length
  · rw [List.getElem?_append_left h] at hr
    have hl' := hra row (List.mem_of_getElem? hr)
    have := idx_lt (st := st) h (show j < st by omega)
    rw [List.getElem?_append_left (by omega)]
    have := ha r j row v hr hv
    simp only [List.getD_eq_getElem?_getD] at this
    exact this
  · rw [List.getElem?_append_right (by omega)] at hr
    have hl' := hrb row (List.mem_of_getElem? hr)
    have hm : a.length * st ≤ r * st := Nat.mul_le_mul_right _ (by omega)
    rw [List.getElem?_append_right (by omega), hl]
    have := hb (r - a.length) j row v hr hv
    simp only [List.getD_eq_getElem?_getD] at this
    rwa [show (r - a.length) * st + j = r * st + j - a.length * st by rw [Nat.sub_mul]; omega] at this

/-- What is appended, as a run of Go's append takes it. -/
structure SrcA (P : Program) (e : TypeId) (size : Nat) (tx : TypeId) (cx : Value) (n : Nat) (news : List Value) (w : World) : Prop where
  newsLen : news.length = n * size
  grow : ∀ (t ty : TypeId) (i : TypeInfo) (z : Value), P.underlying t = some (.slice e) → P.info? e = some i → i.size = size → i.zero = some z → ∀ (base : Option Addr) (sLen sCap : Nat) (olds : List Value),
    (Builtin.firstCells i.size sLen (.slice base sLen sCap)).run P w.drew = .ok olds.toArray w.drew → sCap < sLen + n → ((sLen + n : Nat) : Int) ≤ 9223372036854775807 → Builtin.nextslicecap (sLen + n) sCap * i.bytes ≤ 281474976710656 →
    (Builtin.append_ #[t, tx] ty #[.slice base sLen sCap, cx]).run P w = .ok (.slice (some ⟨w.heap.size, 0, none⟩) (sLen + n) (grownCap w (sLen + n) sCap e)) (w.drew.alloc (.cells ((olds ++ news).toArray ++ Builtin.zeroCells z.cells (grownCap w (sLen + n) sCap e - (sLen + n))) e))
  room : ∀ (t ty : TypeId) (i : TypeInfo), P.underlying t = some (.slice e) → P.info? e = some i → i.size = size → ∀ (b off sLen sCap : Nat), sLen + n ≤ sCap → (∀ j, j < news.length → (w.cell? ⟨b, off + sLen * i.size + j, none⟩).isSome = true) → (∀ j, j < news.length → w.frozen? ⟨b, off + sLen * i.size + j, none⟩ = false) →
    (Builtin.append_ #[t, tx] ty #[.slice (some ⟨b, off, none⟩) sLen sCap, cx]).run P w = .ok (.slice (some ⟨b, off, none⟩) (sLen + n) sCap) (w.setCells b (off + sLen * i.size) news)
  zero : n = 0 → ∀ (t ty : TypeId), P.underlying t = some (.slice e) → ∀ (base : Option Addr) (sLen sCap : Nat), sLen ≤ sCap → (Builtin.append_ #[t, tx] ty #[.slice base sLen sCap, cx]).run P w = .ok (.slice base sLen sCap) w

theorem SrcA.of {e : TypeId} {ti : TI} (hti : Told P e ti) {tx : TypeId} {cx : Value} {n : Nat} {news : List Value} (h : Src P ti.size tx cx n news w) : SrcA P e ti.size tx cx n news w := by
  refine ⟨h.newsLen, fun t ty i z ht hi hs hz base sLen sCap olds hold hg h63 hfit => run_append_grow_src (P := P) w t tx ty e i z ht hi hz base sLen sCap olds hold cx n news (by rw [hs]; exact h) hg h63 hfit,
    fun t ty i ht hi hs b off sLen sCap hroom hc hf => run_append_room_src (P := P) w t tx ty e i ht hi b off sLen sCap cx n news (by rw [hs]; exact h) hroom hc hf, fun h0 t ty ht base sLen sCap hl => ?_⟩
  have h1 := h.len
  have h2 := h.cells
  have h3 := h.newsLen
  subst h0
  have h4 : news = [] := by simpa using h3
  subst h4
  obtain ⟨i, z, hi, hs, hby, hz, hzok⟩ := hti.info
  rcases h.kind with ⟨e', hk⟩ | hk <;> cases base <;> simp [Builtin.append_, run_underlying ht, run_underlying hk, hti.sizeOf w, h1, h2, hl, storeCells]

/-- Rows that are appended. -/
structure NewA (P : Program) (e : TypeId) (F : Froz) (w : World) (β : Place) (st : Nat) (tx : TypeId) (cx : Value) (new : List (List V)) (p : Bool) (news : List Value) : Prop where
  src : SrcA P e st tx cx new.length news w
  at_ : RowsAt F (cl w) β st new (fun k => news.getD k undef)
  len : ∀ row ∈ new, row.length = st
  cell : ∀ row ∈ new, ∀ v ∈ row, v.isCell = true
  pure : p = true → ∀ row ∈ new, ∀ v ∈ row, v.hasIds = false
theorem New.toA {e : TypeId} {ti : TI} (hti : Told P e ti) {tx : TypeId} {cx : Value} {new : List (List V)} {p : Bool} {news : List Value} (h : New P F w β ti.size tx cx new p news) : NewA P e F w β ti.size tx cx new p news :=
  ⟨.of hti h.src, h.at_, h.len, h.cell, h.pure⟩

theorem zeroCells_size (z : Array Value) (n : Nat) : (Builtin.zeroCells z n).size = n * z.size := by simp [Builtin.zeroCells]

/-- A grown slice: a new object. -/
theorem grow_ok {e : TypeId} {ti : TI} (hti : Told P e ti) (h0 : 0 < ti.size) {t tx ty : TypeId} (ht : P.underlying t = some (.slice e)) {n : Nat} (hI : Inv B β F H w) (hn : β n = none) {cx : Value} {new : List (List V)} {np : Bool} {news : List Value} (hnew : NewA P e F w β ti.size tx cx new np news)
    {base : Option Addr} {sLen sCap : Nat} {old : List (List V)} {olds : List Value} {op : Bool} (hol : old.length = sLen) (hold : (Builtin.firstCells ti.size sLen (.slice base sLen sCap)).run P w.drew = .ok olds.toArray w.drew)
    (ho : RowsAt F (cl w) β ti.size old (fun k => olds.getD k undef)) (hos : olds.length = old.length * ti.size) (hor : ∀ row ∈ old, row.length = ti.size) (hoc : ∀ row ∈ old, ∀ v ∈ row, v.isCell = true) (hop : op = true → ∀ row ∈ old, ∀ v ∈ row, v.hasIds = false)
    (hg : sCap < sLen + new.length) (hb : (sLen + new.length) * ti.bytes ≤ 140737488355328) (hl : sLen + new.length ≤ 140737488355328) (frz : Bool) :
    ∃ cv w' β', (Builtin.append_ #[t, tx] ty #[.slice base sLen sCap, cx]).run P w = .ok cv w' ∧ Rel F (cl w') β' (.ms n ti.size 0 (sLen + new.length) none) cv ∧ Inv B β' F (H.put n (some (.buf ti.size (old ++ new) frz (op && np)))) w' ∧ Ext β β' F F w w' ∧ (∀ i, i ≠ n → β' i = β i) := by
  obtain ⟨i, z, hi, hs, hby, hz, hzok⟩ := hti.info
  obtain ⟨hzr, hzc, _⟩ := zOK_rel hzok F (cl w) β
  have hzs : z.cells.size = ti.size := by rw [(hzr.cells hzc).size, hti.zlen]
  have hrun := hnew.src.grow t ty i z ht hi hs hz base sLen sCap olds (by rw [hs]; exact hold) hg (by omega) (by rw [hby]; exact growslice_fits hg hb)
  have hge := grownCap_ge w (sLen + new.length) sCap e
  have hgm : grownCap w (sLen + new.length) sCap e ≤ 9223372036854775807 := grownCap_le_maxLen w _ _ _ (by simp only [maxLen]; omega)
  generalize hgc : grownCap w (sLen + new.length) sCap e = g at *
  have hId := hI.drew
  have hF : ∀ b o, F b o → b < w.drew.heap.size := fun b o hf => (hId.froz b o hf).1
  let cells : Array Value := (olds ++ news).toArray ++ Builtin.zeroCells z.cells (g - (sLen + new.length))
  have hx1 : Ext β β F F w w.drew := ⟨fun _ _ h => h, fun _ _ h => ⟨h, rfl⟩⟩
  have hext : Ext β (β.set n (.at w.heap.size ti.size g)) F F w (w.drew.alloc (.cells cells e)) := hx1.trans (alloc_ext hn hF)
  have hnl := hnew.src.newsLen
  have happ : RowsAt F (cl w) β ti.size (old ++ new) (fun k => (olds ++ news).getD k undef) := ho.app hnew.at_ hos hor hnew.len
  have hrow : ∀ row ∈ old ++ new, row.length = ti.size := fun row hm => by
    rcases List.mem_append.1 hm with h | h
    · exact hor row h
    · exact hnew.len row h
  refine ⟨_, _, β.set n (.at w.heap.size ti.size g), hrun, ?_, ?_, hext, fun i hi => by unfold Place.set; rw [if_neg hi]⟩
  · exact .ms _ _ _ _ _ _ w.heap.size g g 0 (by simp [Place.set]) (by omega) hge (by simp) (by simp) (by simp)
  · refine hId.alloc hn rfl (new_rel (w := w.drew) (cells := cells) (e := e) h0 ?_ (by simp; omega) hrow (fun row hm => ?_) (fun hp row hm => ?_) (fun r j row v hr hv => ?_) frz hgm)
    · simp only [cells, Array.size_append, List.size_toArray, List.length_append, zeroCells_size, hzs, hos, hnl, hol, ← Nat.add_mul]
      exact Nat.mul_le_mul_right _ (by omega)
    · rcases List.mem_append.1 hm with h | h
      · exact hoc row h
      · exact hnew.cell row h
    · simp only [Bool.and_eq_true] at hp
      rcases List.mem_append.1 hm with h | h
      · exact hop hp.1 row h
      · exact hnew.pure hp.2 row h
    · have hk := idx_lt (st := ti.size) (List.getElem?_eq_some_iff.1 hr).1 (by have := (List.getElem?_eq_some_iff.1 hv).1; rw [hrow row (List.mem_of_getElem? hr)] at this; exact this)
      have hlen : (olds ++ news).length = (old ++ new).length * ti.size := by simp [hos, hnl, Nat.add_mul]
      have e1 : cells.getD (r * ti.size + j) undef = (olds ++ news).getD (r * ti.size + j) undef := by
        simp only [cells]
        rw [Array.getD_eq_getD_getElem?, Array.getElem?_append_left (by simp only [List.size_toArray]; omega)]
        simp [List.getD_eq_getElem?_getD]
      rw [e1]
      exact hext.rel (happ r j row v hr hv)

/-- Appended in place. -/
theorem inplace_ok {e : TypeId} {ti : TI} (hti : Told P e ti) {t tx ty : TypeId} (ht : P.underlying t = some (.slice e)) (hI : Inv B β F H w) {cx : Value} {new : List (List V)} {np : Bool} {news : List Value} (hnew : NewA P e F w β ti.size tx cx new np news)
    {i b C o l cc o' : Nat} {rows rows' : List (List V)} {fz fz' pu : Bool} (hb : β i = some (.at b ti.size C)) (hob : H.at? i = some (.buf ti.size rows fz pu)) (hadr : o' = o * ti.size) (hroom : l + new.length ≤ cc) (hcC : o + cc ≤ C)
    (hF : ∀ q, F b q → q < (o + l) * ti.size) (hF' : fz' = true ∨ fz = false) (hol : o + l ≤ rows.length) (hC' : rows'.length ≤ C) (hmin : rows'.length ≥ o + l)
    (hrows' : ∀ r, rows'[r]? = if o + l ≤ r ∧ r < o + l + new.length then new[r - (o + l)]? else if r < rows'.length then rows[r]? else none) (hsub : ∀ row ∈ rows', row ∈ rows ∨ row ∈ new) :
    ∃ w', (Builtin.append_ #[t, tx] ty #[.slice (some ⟨b, o', none⟩) l cc, cx]).run P w = .ok (.slice (some ⟨b, o', none⟩) (l + new.length) cc) w' ∧ Inv B β F (H.put i (some (.buf ti.size rows' fz' (pu && np)))) w' ∧ Ext β β F F w w' := by
  obtain ⟨ii, z, hi, hs, hby, hz, hzok⟩ := hti.info
  obtain ⟨lc, hl, ho⟩ := hI.obs _ _ hob
  rw [hb] at hl
  cases hl
  have ho' := ho
  cases ho with
  | buf _ _ _ _ _ _ hst hthere hC hrl hcell hpure hr =>
    have hnl := hnew.src.newsLen
    have hq : o' + l * ti.size = (o + l) * ti.size := by rw [hadr, Nat.add_mul]
    have hin : (o + l) * ti.size + news.length ≤ C * ti.size := by
      rw [hnl, ← Nat.add_mul]
      exact Nat.mul_le_mul_right _ (by omega)
    have hrun := hnew.src.room t ty ii ht hi hs b o' l cc hroom (fun j hj => by
        rw [hs, hq]
        have := (there_sub hthere.t hin j (by omega)).1
        exact this) (fun j hj => by
        rw [hs, hq]
        exact (there_sub hthere.t hin j (by omega)).2)
    rw [hs, hq] at hrun
    obtain ⟨s1, s2, s3, s4, s5⟩ := setCells_heap b news ((o + l) * ti.size) w
    obtain ⟨g1, g2⟩ := hI.turn hb hob rfl s2 s1 s3 s4 s5 (fun q hf => cl_setCells_out (.inl (hF q hf))) (ob := .buf ti.size rows' fz' (pu && np)) (fun hx' => by
      refine ObRel.write ho' hin hx' hC' (fun row hm => ?_) (fun row hm => ?_) (fun hp row hm => ?_) (fun r j row v hr' hv => ?_)
      · rcases hsub row hm with h | h
        · exact hrl row h
        · exact hnew.len row h
      · rcases hsub row hm with h | h
        · exact hcell row h
        · exact hnew.cell row h
      · simp only [Bool.and_eq_true] at hp
        rcases hsub row hm with h | h
        · exact hpure hp.1 row h
        · exact hnew.pure hp.2 row h
      · have hr2 := hr'
        have hjl := (List.getElem?_eq_some_iff.1 hv).1
        have hrw : row.length = ti.size := by
          rcases hsub row (List.mem_of_getElem? hr2) with h | h
          · exact hrl row h
          · exact hnew.len row h
        rw [hrows' r] at hr'
        by_cases hcase : o + l ≤ r ∧ r < o + l + new.length
        · rw [if_pos hcase] at hr'
          have h1 : (o + l) * ti.size ≤ r * ti.size := Nat.mul_le_mul_right _ hcase.1
          have h2 := idx_lt (st := ti.size) hcase.2 (show j < ti.size by omega)
          rw [Nat.add_mul (o + l)] at h2
          rw [if_pos (by omega)]
          have := hnew.at_ _ j row v hr' hv
          rwa [show (r - (o + l)) * ti.size + j = r * ti.size + j - (o + l) * ti.size by rw [Nat.sub_mul]; omega] at this
        · rw [if_neg hcase] at hr'
          have hne : ¬ ((o + l) * ti.size ≤ r * ti.size + j ∧ r * ti.size + j < (o + l) * ti.size + news.length) := by
            rw [hnl, ← Nat.add_mul]
            rcases Nat.lt_or_ge r (o + l) with hlt | hge
            · have := idx_lt (st := ti.size) hlt (show j < ti.size by omega)
              omega
            · have : (o + l + new.length) * ti.size ≤ r * ti.size := Nat.mul_le_mul_right _ (by omega)
              omega
          rw [if_neg hne]
          split at hr'
          · exact ⟨row, hr', hv⟩
          · cases hr') (fun st rows0 frz pure e1 q hf => by
        cases e1
        rcases hF' with h | h
        · refine ⟨h, ?_⟩
          have := hF q hf
          have h3 : (o + l) * ti.size ≤ rows'.length * ti.size := Nat.mul_le_mul_right _ hmin
          omega
        · have := (hI.prot _ _ _ _ _ _ _ _ hb hob q hf).1
          rw [h] at this
          cases this)
    exact ⟨_, hrun, g1, g2⟩

theorem Inv.congr {H' : Heap} (h : Inv B β F H w) (e : ∀ j, H'.at? j = H.at? j) : Inv B β F H' w :=
  ⟨h.os, h.tape, h.output, h.size, h.keep, h.kin, fun i j oi oj l l' b hi hj => h.inj i j oi oj l l' b (by rw [← e]; exact hi) (by rw [← e]; exact hj), h.fresh, fun i o ho => h.obs i o (by rw [← e]; exact ho), h.froz,
    fun i b st C st' rows frz pure hl ho => h.prot i b st C st' rows frz pure hl (by rw [← e]; exact ho)⟩

/-- An object under another number. -/
theorem Inv.move (h : Inv B β F H w) {i n : Nat} {ob : Ob} {lc : Loc} (hob : H.at? i = some ob) (hb : β i = some lc) (hn : β n = none) : Inv B (β.set n lc) F ((H.put i none).put n (some ob)) w := by
  have hne : i ≠ n := by rintro rfl; rw [hn] at hb; cases hb
  have hx : Ext β (β.set n lc) F F w w := ⟨set_ext hn, fun _ _ h => ⟨h, rfl⟩⟩
  have at_ : ∀ j, ((H.put i none).put n (some ob)).at? j = if j = n then some ob else if j = i then none else H.at? j := fun j => by rw [at?_put, at?_put]
  refine ⟨h.os, h.tape, h.output, h.size, h.keep, h.kin, ?_, ?_, ?_, h.froz, ?_⟩
  · intro j k oj ok l l' b hj hk hl hl' hlb hlb'
    rw [at_] at hj hk
    unfold Place.set at hl hl'
    by_cases e1 : j = n <;> by_cases e2 : k = n
    · rw [e1, e2]
    · rw [if_pos e1] at hl; rw [if_neg e2] at hl' hk
      cases hl
      split at hk
      · cases hk
      · rename_i e3
        exact absurd (h.inj i k ob ok lc l' b hob hk hb hl' hlb hlb').symm e3
    · rw [if_neg e1] at hl hj; rw [if_pos e2] at hl'
      cases hl'
      split at hj
      · cases hj
      · rename_i e3
        exact absurd (h.inj i j ob oj lc l b hob hj hb hl hlb' hlb).symm e3
    · rw [if_neg e1] at hl hj; rw [if_neg e2] at hl' hk
      split at hj
      · cases hj
      · split at hk
        · cases hk
        · exact h.inj j k oj ok l l' b hj hk hl hl' hlb hlb'
  · intro j l b hl hlb
    unfold Place.set at hl
    split at hl
    · cases hl; exact h.fresh i lc b hb hlb
    · exact h.fresh j l b hl hlb
  · intro j o ho
    rw [at_] at ho
    by_cases e1 : j = n
    · rw [if_pos e1] at ho
      cases ho
      obtain ⟨l, h1, h2⟩ := h.obs i ob hob
      rw [hb] at h1
      cases h1
      exact ⟨lc, by unfold Place.set; rw [if_pos e1], h2.keep hx fun _ _ => rfl⟩
    · rw [if_neg e1] at ho
      split at ho
      · cases ho
      · obtain ⟨l, h1, h2⟩ := h.obs j o ho
        exact ⟨l, hx.place _ _ h1, h2.keep hx fun _ _ => rfl⟩
  · intro j b st C st' rows frz pure hl ho o hf
    rw [at_] at ho
    unfold Place.set at hl
    by_cases e1 : j = n
    · rw [if_pos e1] at ho hl
      cases ho; cases hl
      exact h.prot i b st C st' rows frz pure hb hob o hf
    · rw [if_neg e1] at ho hl
      split at ho
      · cases ho
      · exact h.prot j b st C st' rows frz pure hl ho o hf

theorem append_zero {e : TypeId} {ti : TI} (hti : Told P e ti) {t tx ty : TypeId} (ht : P.underlying t = some (.slice e)) {cx : Value} {new : List (List V)} {np : Bool} {news : List Value} (hnew : NewA P e F w β ti.size tx cx new np news) (h0 : new.length = 0)
    {base : Option Addr} {sLen sCap : Nat} (hl : sLen ≤ sCap) : (Builtin.append_ #[t, tx] ty #[.slice base sLen sCap, cx]).run P w = .ok (.slice base sLen sCap) w := by
  exact hnew.src.zero h0 t ty ht base sLen sCap hl

theorem only_mem {u : Upd} {i n : Nat} {ob : Ob} (h : i = n) (hm : (n, some ob) ∈ u) : ∃ o, (i, o) ∈ u := ⟨some ob, h ▸ hm⟩

include hT in
theorem append_ok {e : TypeId} {ti : TI} (hte : T e = some ti) (h0 : 0 < ti.size) {t tx ty : TypeId} (ht : P.underlying t = some (.slice e)) {n : Nat} (hI : Inv B β F H w) (hn : β n = none) {s : V} {cs cx : Value} {new : List (List V)} {np : Bool} {news : List Value} (hnew : NewA P e F w β ti.size tx cx new np news)
    (h : (appendR ti n s new np).run H l = some ((v, u), l')) (hs : Rel F (cl w) β s cs) :
    ∃ cv w' β' F', (Builtin.append_ #[t, tx] ty #[cs, cx]).run P w = .ok cv w' ∧ Left n B β F H w v u cv w' β' F' := by
  have hti := hT.told hte
  unfold appendR at h
  split at h
  · -- nil
    cases hs
    split at h
    · rename_i hz
      simp only [Rd.run, Option.some.injEq, Prod.mk.injEq] at h
      obtain ⟨⟨rfl, rfl⟩, _⟩ := h
      exact ⟨_, w, β, F, append_zero hti ht hnew hz (Nat.le_refl _), Left.quiet hI (.nils _)⟩
    · rename_i hz
      split at h
      · rename_i hb
        simp only [Rd.run, Option.some.injEq, Prod.mk.injEq] at h
        obtain ⟨⟨rfl, rfl⟩, _⟩ := h
        obtain ⟨cv, w', β', g1, g2, g3, g4, g5⟩ := grow_ok (ty := ty) hti h0 ht hI hn hnew (base := none) (sLen := 0) (sCap := 0) (old := []) (olds := []) (op := true) rfl (by simpa using run_firstCells_none (P := P) w.drew ti.size 0 0 0) (fun r j row v hr => by simp at hr) (by simp) (by simp) (by simp) (by simp) (by omega) (by simpa using hb.1) (by simpa using hb.2) false
        refine ⟨cv, w', β', F, g1, ⟨by simpa using g2, by simpa [Heap.puts] using g3, g4, fun i hi => ?_⟩⟩
        by_cases e1 : i = n
        · subst e1; exact ⟨Nat.le_refl _, hn, some _, .head _⟩
        · exact absurd (g5 i e1) hi
      · simp [Rd.run] at h
  · -- frozen
    split at h
    · rename_i hz
      simp only [Rd.run, Option.some.injEq, Prod.mk.injEq] at h
      obtain ⟨⟨rfl, rfl⟩, _⟩ := h
      have hs' := hs
      cases hs with
      | fz0 _ a cap => exact ⟨_, w, β, F, append_zero hti ht hnew hz (Nat.zero_le _), Left.quiet hI hs'⟩
      | fz _ _ b o st cap g hl => exact ⟨_, w, β, F, append_zero hti ht hnew hz hl, Left.quiet hI hs'⟩
    · simp [Rd.run] at h
  · rename_i i st o ln c
    split at h
    · rename_i hz
      simp only [Rd.run, Option.some.injEq, Prod.mk.injEq] at h
      obtain ⟨⟨rfl, rfl⟩, _⟩ := h
      have hs' := hs
      cases hs with
      | ms0 => exact ⟨_, w, β, F, append_zero hti ht hnew hz (Nat.le_refl _), Left.quiet hI hs'⟩
      | ms _ _ _ _ _ _ b C cc o' hb hcC hlen => exact ⟨_, w, β, F, append_zero hti ht hnew hz hlen, Left.quiet hI hs'⟩
    · rename_i hz
      split at h
      · rename_i hst
        subst hst
        simp only [Rd.run] at h
        split at h
        · rename_i ob hob
          split at h
          · rename_i st2 rows fz pu
            split at h
            · rename_i hc
              obtain ⟨rfl, hol, hby, hlt⟩ := hc
              obtain ⟨lc, hl, ho⟩ := hI.obs _ _ hob
              -- a new object, and what becomes of the old one
              have grown : ∀ (base : Option Addr) (sCap : Nat) (olds : List Value) (frz : Bool), (Builtin.firstCells ti.size ln (.slice base ln sCap)).run P w.drew = .ok olds.toArray w.drew →
                  RowsAt F (cl w) β ti.size ((rows.drop o).take ln) (fun k => olds.getD k undef) → olds.length = ln * ti.size → (∀ row ∈ rows, row.length = ti.size) → (∀ row ∈ rows, ∀ v ∈ row, v.isCell = true) → (pu = true → ∀ row ∈ rows, ∀ v ∈ row, v.hasIds = false) → sCap < ln + new.length →
                  ∃ cv w' β', (Builtin.append_ #[t, tx] ty #[.slice base ln sCap, cx]).run P w = .ok cv w' ∧ Rel F (cl w') β' (.ms n ti.size 0 (ln + new.length) none) cv ∧ Inv B β' F (H.put n (some (.buf ti.size ((rows.drop o).take ln ++ new) frz (pu && np)))) w' ∧ Ext β β' F F w w' ∧ (∀ i, i ≠ n → β' i = β i) := by
                intro base sCap olds frz q1 q2 q3 q4 q5 q6 q7
                have hl' : ((rows.drop o).take ln).length = ln := by simp; omega
                have hm : ∀ row ∈ (rows.drop o).take ln, row ∈ rows := fun row hm => List.mem_of_mem_drop (List.mem_of_mem_take hm)
                exact grow_ok (ty := ty) hti h0 ht hI hn hnew hl' q1 q2 (by rw [hl']; exact q3) (fun row h => q4 row (hm row h)) (fun row h => q5 row (hm row h)) (fun hp row h => q6 hp row (hm row h)) q7 hby hlt frz
              have hin : ∀ (i' : Nat), i ≠ n := fun _ => by rintro rfl; rw [hn] at hl; cases hl
              have hne : i ≠ n := hin 0
              cases hs with
              | ms0 _ _ _ _ hb hc0 =>
                rw [hb] at hl
                cases hl
                cases ho with
                | nil =>
                  have only : ∀ {β' : Place}, (∀ i, i ≠ n → β' i = β i) → ∀ i', β' i' ≠ β i' → β i' = none ∧ i' = n := fun {β'} g5 i' hi => by
                    by_cases e1 : i' = n
                    · exact ⟨e1 ▸ hn, e1⟩
                    · exact absurd (g5 i' e1) hi
                  have grow0 := fun frz => grown none 0 [] frz (by simpa using run_firstCells_none (P := P) w.drew ti.size 0 0 0) (fun r j row v hr => by simp at hr) (by simp) (by simp) (by simp) (by simp) (by omega)
                  unfold appendM at h
                  cases c with
                  | some c =>
                    have := hc0 c rfl
                    subst this
                    simp only at h
                    rw [if_pos (by omega)] at h
                    simp only [Rd.run, Option.some.injEq, Prod.mk.injEq] at h
                    obtain ⟨⟨rfl, rfl⟩, _⟩ := h
                    obtain ⟨cv, w', β', g1, g2, g3, g4, g5⟩ := grow0 false
                    exact ⟨cv, w', β', F, g1, ⟨g2, by simpa [Heap.puts] using g3, g4, fun i' hi => ⟨Nat.le_of_eq (only g5 i' hi).2.symm, (only g5 i' hi).1, only_mem (only g5 i' hi).2 (.head _)⟩⟩⟩
                  | none =>
                    simp only at h
                    rw [if_neg (show ¬ (0 + 0 + new.length ≤ ([] : List (List V)).length) by simp only [List.length_nil]; omega), if_pos ⟨trivial, .inl rfl⟩] at h
                    simp only [Rd.run, Option.some.injEq, Prod.mk.injEq] at h
                    obtain ⟨⟨rfl, rfl⟩, _⟩ := h
                    obtain ⟨cv, w', β', g1, g2, g3, g4, g5⟩ := grow0 fz
                    refine ⟨cv, w', β', F, g1, ⟨g2, ?_, g4, fun i' hi => ⟨Nat.le_of_eq (only g5 i' hi).2.symm, (only g5 i' hi).1, only_mem (only g5 i' hi).2 (.tail _ (.head _))⟩⟩⟩
                    refine (g3.gone i).congr fun j => ?_
                    simp only [Heap.puts, at?_put]
                    by_cases e1 : j = n
                    · subst e1; simp [hne.symm]
                    · simp [e1]
              | ms _ _ _ _ _ _ b C cc o' hb hcC hlen hcap hnone hadr =>
                rw [hb] at hl
                cases hl
                have ho' := ho
                cases ho with
                | buf _ _ _ _ _ _ hst hthere hC hrl hcell hpure hr =>
                  have hlen' : ((rows.drop o).take ln).length = ln := by simp; omega
                  have hget : ∀ r, r < ln → ((rows.drop o).take ln)[r]? = rows[o + r]? := fun r hr => by
                    rw [List.getElem?_take, if_pos hr, List.getElem?_drop]
                  -- the old cells
                  have olds : ∃ olds : List Value, (Builtin.firstCells ti.size ln (.slice (some ⟨b, o', none⟩) ln cc)).run P w.drew = .ok olds.toArray w.drew ∧ RowsAt F (cl w) β ti.size ((rows.drop o).take ln) (fun k => olds.getD k undef) ∧ olds.length = ln * ti.size := by
                    refine ⟨(List.range (ln * ti.size)).map fun k => (cl w b (o' + k)).getD undef, ?_, ?_, by simp⟩
                    · refine run_firstCells_some w.drew ti.size ln ⟨b, o', none⟩ ln cc _ (by simp) fun j v hv => ?_
                      have hj : j < ln * ti.size := by simpa using (List.getElem?_eq_some_iff.1 hv).1
                      have hv' : (cl w b (o' + j)).getD undef = v := by simpa [hj] using hv
                      have hln : 0 < ln := by
                        rcases Nat.eq_zero_or_pos ln with h | h
                        · subst h; simp at hj
                        · exact h
                      have ho2 : o' = o * ti.size := by rcases hadr with h | h <;> omega
                      have hr' : j / ti.size < ln := Nat.div_lt_of_lt_mul (by rw [Nat.mul_comm]; exact hj)
                      have hj' : j % ti.size < ti.size := Nat.mod_lt _ h0
                      have hrow : rows[o + j / ti.size]? = some (rows[o + j / ti.size]'(by omega)) := by simp
                      have hl2 := hrl _ (List.mem_of_getElem? hrow)
                      obtain ⟨cv, h1, _⟩ := hr _ (j % ti.size) _ ((rows[o + j / ti.size]'(by omega))[j % ti.size]'(by omega)) hrow (List.getElem?_eq_getElem (by omega))
                      have e1 : (o + j / ti.size) * ti.size + j % ti.size = o' + j := by
                        rw [Nat.add_mul, ← ho2, Nat.add_assoc, Nat.div_add_mod' j ti.size]
                      rw [e1] at h1
                      rw [Addr.add_mid]
                      rw [h1] at hv'
                      simp only [Option.getD_some] at hv'
                      subst hv'
                      exact h1
                    · intro r j row v hrow hv
                      have hr' : r < ln := by have := (List.getElem?_eq_some_iff.1 hrow).1; omega
                      rw [hget r hr'] at hrow
                      have hjl := (List.getElem?_eq_some_iff.1 hv).1
                      have hl2 := hrl _ (List.mem_of_getElem? hrow)
                      have ho2 : o' = o * ti.size := by rcases hadr with h | h <;> omega
                      obtain ⟨cv, h1, h2⟩ := hr (o + r) j row v hrow hv
                      show Rel F (cl w) β v (List.getD _ _ _)
                      rw [getD_map_range _ (idx_lt hr' (by omega))]
                      rw [show o' + (r * ti.size + j) = (o + r) * ti.size + j by rw [ho2, Nat.add_mul]; omega, h1]
                      exact h2
                  obtain ⟨olds, q1, q2, q3⟩ := olds
                  have grow := fun frz hg => grown (some ⟨b, o', none⟩) cc olds frz q1 q2 q3 hrl hcell hpure hg
                  have only : ∀ {β' : Place}, (∀ i, i ≠ n → β' i = β i) → ∀ i', β' i' ≠ β i' → β i' = none ∧ i' = n := fun {β'} g5 i' hi => by
                    by_cases e1 : i' = n
                    · exact ⟨e1 ▸ hn, e1⟩
                    · exact absurd (g5 i' e1) hi
                  have over : o + ln + new.length ≤ rows.length → (∀ r, (rows.take (o + ln) ++ new ++ rows.drop (o + ln + new.length))[r]? = if o + ln ≤ r ∧ r < o + ln + new.length then new[r - (o + ln)]? else if r < (rows.take (o + ln) ++ new ++ rows.drop (o + ln + new.length)).length then rows[r]? else none) ∧
                      (rows.take (o + ln) ++ new ++ rows.drop (o + ln + new.length)).length = rows.length ∧ ∀ row ∈ rows.take (o + ln) ++ new ++ rows.drop (o + ln + new.length), row ∈ rows ∨ row ∈ new := by
                    intro hfit
                    have hL : (rows.take (o + ln) ++ new ++ rows.drop (o + ln + new.length)).length = rows.length := by simp; omega
                    refine ⟨fun r => ?_, hL, fun row hm => ?_⟩
                    · rw [hL]
                      by_cases h1 : r < o + ln
                      · rw [if_neg (by omega), if_pos (by omega), List.append_assoc, List.getElem?_append_left (by simp; omega), List.getElem?_take, if_pos h1]
                      · by_cases h2 : r < o + ln + new.length
                        · rw [if_pos (by omega), List.getElem?_append_left (by simp; omega), List.getElem?_append_right (by simp; omega)]
                          simp [Nat.min_eq_left hol]
                        · rw [if_neg (by omega), List.getElem?_append_right (by simp; omega), List.getElem?_drop]
                          by_cases h3 : r < rows.length
                          · rw [if_pos h3]
                            congr 1
                            simp
                            omega
                          · rw [if_neg h3, List.getElem?_eq_none]
                            simp
                            omega
                    · simp only [List.mem_append] at hm
                      rcases hm with (h | h) | h
                      · exact .inl (List.mem_of_mem_take h)
                      · exact .inr h
                      · exact .inl (List.mem_of_mem_drop h)
                  have noF : fz = false → ∀ q, ¬ F b q := fun hf q hq => by
                    have := (hI.prot _ _ _ _ _ _ _ _ hb hob q hq).1
                    rw [hf] at this
                    cases this
                  -- in place, over what was there
                  have within : ∀ cap', o + ln + new.length ≤ rows.length → fz = false → ln + new.length ≤ cc → (∀ k, cap' = some k → cc = k) → (cap' = none → o + cc = C) →
                      ∃ cv w' β' F', (Builtin.append_ #[t, tx] ty #[.slice (some ⟨b, o', none⟩) ln cc, cx]).run P w = .ok cv w' ∧ Left n B β F H w (.ms i ti.size o (ln + new.length) cap') [(i, some (.buf ti.size (rows.take (o + ln) ++ new ++ rows.drop (o + ln + new.length)) false (pu && np)))] cv w' β' F' := by
                    intro cap' hfit hfz hroom hk1 hk2
                    obtain ⟨o1, o2, o3⟩ := over hfit
                    have ho2 : o' = o * ti.size := by rcases hadr with h | h <;> omega
                    obtain ⟨w', g1, g2, g3⟩ := inplace_ok (ty := ty) (fz' := false) hti ht hI hnew hb hob ho2 hroom hcC (fun q hq => absurd hq (noF hfz q)) (.inr hfz) hol (by omega) (by omega) o1 o3
                    exact ⟨_, w', β, F, g1, ⟨.ms _ _ _ _ _ _ b C cc o' hb hcC hroom hk1 hk2 hadr, by simpa [Heap.puts] using g2, g3, fun i' hi => absurd rfl hi⟩⟩
                  unfold appendM at h
                  cases c with
                  | some c =>
                    have hcc := hcap c rfl
                    subst hcc
                    simp only at h
                    split at h
                    · rename_i hlt2
                      simp only [Rd.run, Option.some.injEq, Prod.mk.injEq] at h
                      obtain ⟨⟨rfl, rfl⟩, _⟩ := h
                      obtain ⟨cv, w', β', g1, g2, g3, g4, g5⟩ := grow false hlt2
                      exact ⟨cv, w', β', F, g1, ⟨g2, by simpa [Heap.puts] using g3, g4, fun i' hi => ⟨Nat.le_of_eq (only g5 i' hi).2.symm, (only g5 i' hi).1, only_mem (only g5 i' hi).2 (.head _)⟩⟩⟩
                    · split at h
                      · rename_i hlt2 hfit
                        simp only [Rd.run, Option.some.injEq, Prod.mk.injEq] at h
                        obtain ⟨⟨rfl, rfl⟩, _⟩ := h
                        exact within (some cc) hfit.1 hfit.2 (by omega) (fun k hk => by cases hk; rfl) (fun hk => by cases hk)
                      · simp [Rd.run] at h
                  | none =>
                    have hcc := hnone rfl
                    simp only at h
                    split at h
                    · rename_i hfit
                      split at h
                      · rename_i hfz
                        simp only [Rd.run, Option.some.injEq, Prod.mk.injEq] at h
                        obtain ⟨⟨rfl, rfl⟩, _⟩ := h
                        exact within none hfit hfz (by omega) (fun k hk => by cases hk) (fun _ => hcc)
                      · simp [Rd.run] at h
                    · split at h
                      · rename_i hnfit htip
                        obtain ⟨rfl, htip⟩ := htip
                        simp only [Rd.run, Option.some.injEq, Prod.mk.injEq] at h
                        obtain ⟨⟨rfl, rfl⟩, _⟩ := h
                        simp only [Nat.zero_add, List.drop_zero] at *
                        by_cases hroom : ln + new.length ≤ cc
                        · -- there is room
                          have ho2 : o' = 0 * ti.size := by rcases hadr with h | h <;> omega
                          have hL : (rows.take ln ++ new).length = ln + new.length := by simp; omega
                          obtain ⟨w', g1, g2, g3⟩ := inplace_ok (ty := ty) (fz' := fz) (rows' := rows.take ln ++ new) (o := 0) (l := ln) hti ht hI hnew hb hob ho2 hroom (by omega) (fun q hq => by
                              have := hI.prot _ _ _ _ _ _ _ _ hb hob q hq
                              rcases htip with h | h
                              · rw [Nat.zero_add, h]; exact this.2
                              · rw [h] at this; cases this.1) (by cases fz <;> simp) (by omega) (by omega) (by omega) (fun r => by
                              rw [hL]
                              by_cases h1 : r < ln
                              · rw [if_neg (by omega), if_pos (by omega), List.getElem?_append_left (by simp; omega), List.getElem?_take, if_pos h1]
                              · by_cases h2 : r < ln + new.length
                                · rw [if_pos (by omega), List.getElem?_append_right (by simp; omega)]
                                  simp [Nat.min_eq_left hol]
                                · rw [if_neg (by omega), if_neg (by omega), List.getElem?_eq_none (by omega)]) (fun row hm => by
                              rcases List.mem_append.1 hm with h | h
                              · exact .inl (List.mem_of_mem_take h)
                              · exact .inr h)
                          have hat : (H.put i (some (.buf ti.size (rows.take ln ++ new) fz (pu && np)))).at? i = some (.buf ti.size (rows.take ln ++ new) fz (pu && np)) := by rw [at?_put, if_pos rfl]
                          have hx : Ext β (β.set n (.at b ti.size C)) F F w' w' := ⟨set_ext hn, fun _ _ h => ⟨h, rfl⟩⟩
                          refine ⟨_, w', β.set n (.at b ti.size C), F, g1, ⟨?_, ?_, g3.trans hx, fun i' hi => ?_⟩⟩
                          · exact .ms _ _ _ _ _ _ b C cc o' (by simp [Place.set]) (by omega) hroom (by simp) (fun _ => by omega) (by omega)
                          · refine (g2.move hat hb hn).congr fun j => ?_
                            simp only [Heap.puts, at?_put]
                            by_cases e1 : j = n
                            · simp [e1]
                            · by_cases e2 : j = i <;> simp [e1, e2]
                          · unfold Place.set at hi
                            split at hi
                            · rename_i e1; exact ⟨Nat.le_of_eq e1.symm, e1 ▸ hn, only_mem e1 (.tail _ (.head _))⟩
                            · exact absurd rfl hi
                        · obtain ⟨cv, w', β', g1, g2, g3, g4, g5⟩ := grow fz (by omega)
                          refine ⟨cv, w', β', F, g1, ⟨g2, ?_, g4, fun i' hi => ⟨Nat.le_of_eq (only g5 i' hi).2.symm, (only g5 i' hi).1, only_mem (only g5 i' hi).2 (.tail _ (.head _))⟩⟩⟩
                          refine (g3.gone i).congr fun j => ?_
                          simp only [Heap.puts, at?_put]
                          by_cases e1 : j = n
                          · subst e1; simp [hne.symm]
                          · simp [e1]
                      · simp [Rd.run] at h
            · simp [Rd.run] at h
          · simp [Rd.run] at h
        · simp at h
      · simp [Rd.run] at h
  · simp [Rd.run] at h
end

end Go.Proofs.YtoggbcckkjfkhaaGreat.R
/- copy, clear, and zeros appended. -/
namespace Go.Proofs.YtoggbcckkjfkhaaGreat.R
set_option linter.unusedVariables false
set_option linter.unusedSimpArgs false
open Go Go.RowKit

section
variable {P : Program} {B : Base} {F : Froz} {w : World} {β : Place} {H : Heap} {l l' : List Nat} {v : V} {u : Upd}

theorem zeroCells_at {z : Value} {ti : TI} {e : TypeId} (hti : Told P e ti) (hz : zOK ti.zero z = true) (h0 : 0 < ti.size) (m : Nat) : RowsAt F (cl w) β ti.size (List.replicate m ti.zero.cells) (fun k => (Builtin.zeroCells z.cells m).toList.getD k undef) ∧
    (∀ row ∈ List.replicate m ti.zero.cells, row.length = ti.size) ∧ (∀ row ∈ List.replicate m ti.zero.cells, ∀ v ∈ row, v.isCell = true ∧ v.hasIds = false) ∧ (Builtin.zeroCells z.cells m).toList.length = m * ti.size ∧ (∀ u ∈ (Builtin.zeroCells z.cells m).toList, u.oneCell' = true) := by
  obtain ⟨hzr, hzc, hzi⟩ := zOK_rel hz F (cl w) β
  have hzcells := hzr.cells hzc
  have hzl := hti.zlen
  have hzsz : z.cells.size = ti.size := by rw [hzcells.size, hzl]
  have at_ : RowsAt F (cl w) β ti.size (List.replicate m ti.zero.cells) (fun k => (Builtin.zeroCells z.cells m).toList.getD k undef) := by
    intro r j row v hrow hv
    have hm := List.mem_of_getElem? hrow
    have hlt := (List.getElem?_eq_some_iff.1 hrow).1
    simp only [List.length_replicate] at hlt
    have := List.eq_of_mem_replicate hm
    subst this
    have hj := (List.getElem?_eq_some_iff.1 hv).1
    have hb : (r + 1) * ti.size ≤ m * ti.size := Nat.mul_le_mul_right _ (by omega)
    rw [Nat.add_mul] at hb
    have hmod : (r * ti.size + j) % ti.size = j := by rw [Nat.add_comm, Nat.add_mul_mod_self_right]; exact Nat.mod_eq_of_lt (by omega)
    have := hzcells.at_ j v hv
    show Rel F (cl w) β v (List.getD _ _ _)
    rw [List.getD_eq_getElem?_getD, Array.getElem?_toList]
    unfold Builtin.zeroCells
    rw [Array.getElem?_map, Array.getElem?_eq_getElem (by simp [hzsz]; omega)]
    simp only [Array.getElem_range, Option.map_some, Option.getD_some, hzsz, hmod]
    rw [Array.getElem!_eq_getD, Array.getD_eq_getD_getElem?, Array.getElem?_eq_getElem (by omega)]
    rw [Array.getD_eq_getD_getElem?, Array.getElem?_eq_getElem (by omega)] at this
    exact this
  have hlen : (Builtin.zeroCells z.cells m).toList.length = m * ti.size := by rw [Array.length_toList, zeroCells_size, hzsz]
  have hcell : ∀ row ∈ List.replicate m ti.zero.cells, ∀ v ∈ row, v.isCell = true ∧ v.hasIds = false := fun row hm v hv => by
    rw [List.eq_of_mem_replicate hm] at hv
    exact ⟨List.all_eq_true.1 hzc v hv, anyIds_mem.1 hzi v hv⟩
  refine ⟨at_, fun row hm => by rw [List.eq_of_mem_replicate hm, hzl], hcell, hlen, fun u hu => ?_⟩
  obtain ⟨k, hk, rfl⟩ := List.mem_iff_getElem.1 hu
  have hk' : k < m * ti.size := by rw [← hlen]; exact hk
  have hr' : k / ti.size < m := Nat.div_lt_of_lt_mul (by rw [Nat.mul_comm]; exact hk')
  have hj' : k % ti.size < ti.size := Nat.mod_lt _ h0
  have hrow : (List.replicate m ti.zero.cells)[k / ti.size]? = some ti.zero.cells := by rw [List.getElem?_replicate, if_pos hr']
  have := at_ (k / ti.size) (k % ti.size) _ (ti.zero.cells[k % ti.size]'(by omega)) hrow (List.getElem?_eq_getElem (by omega))
  rw [Nat.div_add_mod' k ti.size] at this
  have h2 : (Builtin.zeroCells z.cells m).toList.getD k undef = (Builtin.zeroCells z.cells m).toList[k] := by rw [List.getD_eq_getElem?_getD, List.getElem?_eq_getElem hk]; rfl
  simp only [h2] at this
  exact cell_of this (List.all_eq_true.1 hzc _ (List.getElem_mem _))

theorem zeros_new {e : TypeId} {ti : TI} (hti : Told P e ti) (h0 : 0 < ti.size) {tx : TypeId} {kk : IntKind} (hu : P.underlying tx = some (.int kk)) (k : IntKind) (m : Nat) (hb : m * ti.bytes ≤ 140737488355328) (hm : m ≤ 140737488355328) :
    ∃ news, NewA P e F w β ti.size tx (.int k m) (List.replicate m ti.zero.cells) true news := by
  obtain ⟨ii, z, hi, hs, hby, hz, hzok⟩ := hti.info
  obtain ⟨q1, q2, q3, q4, q5⟩ := zeroCells_at (F := F) (w := w) (β := β) hti hzok h0 m
  have hzsz : z.cells.size = ti.size := by
    have := q4
    rw [Array.length_toList, zeroCells_size] at this
    obtain ⟨hzr, hzc, hzi⟩ := zOK_rel hzok F (cl w) β
    rw [(hzr.cells hzc).size, hti.zlen]
  have hw : IntKind.i64.wrap (m : Int) = m := by rw [IntKind.wrap_i64]; omega
  have hby48 : ¬ ((281474976710656 : Int) < (m : Int) * (ti.bytes : Int)) := by
    have : ((m * ti.bytes : Nat) : Int) ≤ 140737488355328 := Int.ofNat_le.2 hb
    rw [Int.natCast_mul] at this
    omega
  have hneg : ¬ ((m : Int) < 0) := by omega
  refine ⟨(Builtin.zeroCells z.cells m).toList, ⟨⟨by simpa using q4, ?_, ?_, ?_⟩, q1, q2, fun row hm v hv => (q3 row hm v hv).1, fun _ row hm v hv => (q3 row hm v hv).2⟩⟩
  · intro t ty i z' ht hi' hs' hz' base sLen sCap olds hold hg h63 hfit
    rw [hi] at hi'
    cases hi'
    rw [hz] at hz'
    cases hz'
    simp only [List.length_replicate] at hg h63 hfit ⊢
    have hn : ¬ (sLen + m ≤ sCap) := by omega
    have h63' : ¬ (9223372036854775807 < ((sLen : Int) + (m : Int))) := by omega
    have h48' : ¬ (281474976710656 < Builtin.nextslicecap (sLen + m) sCap * ii.bytes) := by omega
    have happ : ∀ w', (if m * ii.size = 0 then (pure #[] : Sem (Array Value)) else do pure (Builtin.zeroCells (← zeroValue e).cells m)).run P w' = .ok (Builtin.zeroCells z.cells m) w' := fun w' => by
      by_cases e0 : m * ii.size = 0
      · rw [if_pos e0]
        have : m = 0 := by
          rcases Nat.mul_eq_zero.1 e0 with h | h
          · exact h
          · omega
        subst this
        simp [Builtin.zeroCells]
      · rw [if_neg e0]
        simp [zeroValue, typeInfo, hi, hz]
    simp [Builtin.append_, run_underlying ht, run_underlying hu, sizeOf, typeInfo, zeroValue, asInt, asIntOf, hi, hz, hw, hneg, hby, hby48, hn, h63', h48', Question.forced, hold, newRow, grownCap]
    have hne : ¬ (281474976710656 < Builtin.nextslicecap (sLen + m) sCap * ti.bytes) := by rw [← hby]; exact h48'
    rw [if_neg hne]
    by_cases e0 : m * ii.size = 0
    · rw [if_pos e0]
      have : m = 0 := by
        rcases Nat.mul_eq_zero.1 e0 with h | h
        · exact h
        · omega
      subst this
      simp [Builtin.zeroCells]
    · rw [if_neg e0]
      congr 3
      rw [← Array.append_assoc]
      congr 1
      apply Array.ext'
      simp
  · intro t ty i ht hi' hs' b off sLen sCap hroom hc hf
    rw [hi] at hi'
    cases hi'
    simp only [List.length_replicate] at hroom ⊢
    have hst := run_storeCells_cells (P := P) b (off + sLen * ii.size) (Builtin.zeroCells z.cells m).toList 0 w (by simpa using hc) (by simpa using hf) q5
    simp only [Nat.add_zero] at hst
    by_cases e0 : m * ii.size = 0
    · have : m = 0 := by
        rcases Nat.mul_eq_zero.1 e0 with h | h
        · exact h
        · omega
      subst this
      have hz0 : (Builtin.zeroCells z.cells 0).toList = [] := by simp [Builtin.zeroCells]
      rw [hz0] at hst ⊢
      have hroom' : sLen ≤ sCap := by omega
      simp [Builtin.append_, run_underlying ht, run_underlying hu, sizeOf, typeInfo, zeroValue, asInt, asIntOf, hi, hz, hroom', Addr.add_lit, hst, World.setCells, IntKind.wrap_i64, storeCells]
    · simp [Builtin.append_, run_underlying ht, run_underlying hu, sizeOf, typeInfo, zeroValue, asInt, asIntOf, hi, hz, hw, hneg, hby, hby48, hroom, Addr.add_lit, e0]
      rw [hst]
      rfl
  · intro hm0 t ty ht base sLen sCap hl
    simp only [List.length_replicate] at hm0
    subst hm0
    cases base <;> simp [Builtin.append_, run_underlying ht, run_underlying hu, sizeOf, typeInfo, zeroValue, asInt, asIntOf, hi, hz, hl, IntKind.wrap_i64, storeCells]

/-- Rows written over, in an object that is not frozen. -/
theorem over_ok {i b C st q n : Nat} {rows new : List (List V)} {p np : Bool} {news : List Value} (hI : Inv B β F H w) (hb : β i = some (.at b st C)) (hob : H.at? i = some (.buf st rows false p)) (hnl : news.length = new.length * st) (hnew : RowsAt F (cl w) β st new (fun k => news.getD k undef))
    (hlen : ∀ row ∈ new, row.length = st) (hcell : ∀ row ∈ new, ∀ v ∈ row, v.isCell = true) (hpure : np = true → ∀ row ∈ new, ∀ v ∈ row, v.hasIds = false) (hq : q + new.length ≤ rows.length) (hn : n = q + new.length) :
    Inv B β F (H.put i (some (.buf st (rows.take q ++ new ++ rows.drop n) false (p && np)))) (w.setCells b (q * st) news) ∧ Ext β β F F w (w.setCells b (q * st) news) := by
  subst hn
  obtain ⟨lc, hl, ho⟩ := hI.obs _ _ hob
  rw [hb] at hl
  cases hl
  have ho' := ho
  cases ho with
  | buf _ _ _ _ _ _ hst hthere hC hrl hcl hpu hr =>
    obtain ⟨s1, s2, s3, s4, s5⟩ := setCells_heap b news (q * st) w
    have hin : q * st + news.length ≤ C * st := by
      rw [hnl, ← Nat.add_mul]
      exact Nat.mul_le_mul_right _ (by omega)
    have hL : (rows.take q ++ new ++ rows.drop (q + new.length)).length = rows.length := by simp; omega
    have hsub : ∀ row ∈ rows.take q ++ new ++ rows.drop (q + new.length), row ∈ rows ∨ row ∈ new := fun row hm => by
      simp only [List.mem_append] at hm
      rcases hm with (h | h) | h
      · exact .inl (List.mem_of_mem_take h)
      · exact .inr h
      · exact .inl (List.mem_of_mem_drop h)
    have noF : ∀ k, ¬ F b k := fun k hk => by
      have := (hI.prot _ _ _ _ _ _ _ _ hb hob k hk).1
      cases this
    refine hI.turn hb hob rfl s2 s1 s3 s4 s5 (fun k hk => absurd hk (noF k)) (fun hx' => ?_) (fun st2 rows2 frz2 pure2 e1 k hk => absurd hk (noF k))
    refine ObRel.write ho' hin hx' (by omega) (fun row hm => ?_) (fun row hm => ?_) (fun hp row hm => ?_) (fun r j row v hr' hv => ?_)
    · rcases hsub row hm with h | h
      · exact hrl row h
      · exact hlen row h
    · rcases hsub row hm with h | h
      · exact hcl row h
      · exact hcell row h
    · simp only [Bool.and_eq_true] at hp
      rcases hsub row hm with h | h
      · exact hpu hp.1 row h
      · exact hpure hp.2 row h
    · have hrw : row.length = st := by
        rcases hsub row (List.mem_of_getElem? hr') with h | h
        · exact hrl row h
        · exact hlen row h
      have hj := (List.getElem?_eq_some_iff.1 hv).1
      rw [hrw] at hj
      by_cases c1 : r < q
      · have := idx_lt (st := st) c1 hj
        rw [if_neg (by omega)]
        rw [List.append_assoc, List.getElem?_append_left (by simp; omega), List.getElem?_take, if_pos c1] at hr'
        exact ⟨row, hr', hv⟩
      · by_cases c2 : r < q + new.length
        · have k1 : q * st ≤ r * st := Nat.mul_le_mul_right _ (by omega)
          have k2 := idx_lt (st := st) c2 hj
          rw [Nat.add_mul] at k2
          rw [if_pos (by omega)]
          rw [List.getElem?_append_left (by simp; omega), List.getElem?_append_right (by simp; omega)] at hr'
          simp only [List.length_take, Nat.min_eq_left (show q ≤ rows.length by omega)] at hr'
          have := hnew _ j row v hr' hv
          rwa [show (r - q) * st + j = r * st + j - q * st by rw [Nat.sub_mul]; omega] at this
        · have k1 : (q + new.length) * st ≤ r * st := Nat.mul_le_mul_right _ (by omega)
          rw [Nat.add_mul] at k1
          rw [if_neg (by omega)]
          rw [List.getElem?_append_right (by simp; omega), List.getElem?_drop] at hr'
          refine ⟨row, ?_, hv⟩
          rw [← hr']
          congr 1
          simp
          omega

theorem take_rows {st : Nat} {new : List (List V)} {news : List Value} (n : Nat) (hl : ∀ row ∈ new, row.length = st) (h : RowsAt F (cl w) β st new (fun k => news.getD k undef)) (hnl : news.length = new.length * st) : RowsAt F (cl w) β st (new.take n) (fun k => (news.take (min new.length n * st)).getD k undef) := by
  intro r j row v hr hv
  have hr1 := (List.getElem?_eq_some_iff.1 hr).1
  simp only [List.length_take] at hr1
  rw [List.getElem?_take, if_pos (by omega)] at hr
  have hj := (List.getElem?_eq_some_iff.1 hv).1
  rw [hl row (List.mem_of_getElem? hr)] at hj
  have k := idx_lt (st := st) (show r < min new.length n by omega) hj
  have := h r j row v hr hv
  show Rel F (cl w) β v (List.getD _ _ _)
  rw [List.getD_eq_getElem?_getD, List.getElem?_take, if_pos k, ← List.getD_eq_getElem?_getD]
  exact this

theorem lenOf_slice (a : Option Addr) (n c : Nat) (w : World) : (Builtin.lenOf (.slice a n c)).run P w = .ok n w := rfl

theorem copy_ok {e e' : TypeId} {ti : TI} (hti : Told P e ti) (h0 : 0 < ti.size) {t t' ty : TypeId} (ht : P.underlying t = some (.slice e)) (ht' : P.underlying t' = some (.slice e')) {n : Nat} (hI : Inv B β F H w) {d x : V} {cd cx : Value}
    (h : (copyR ti d x).run H l = some ((v, u), l')) (hd : Rel F (cl w) β d cd) (hx : Rel F (cl w) β x cx) :
    ∃ cv w' β' F', (Builtin.copy_ #[t, t'] ty #[cd, cx]).run P w = .ok cv w' ∧ Left n B β F H w v u cv w' β' F' := by
  obtain ⟨ii, z, hi, hs, hby, hz, hzok⟩ := hti.info
  have hsz : (sizeOf e).run P w = .ok ti.size w := hti.sizeOf w
  unfold copyR at h
  split at h
  · obtain ⟨new, p, l1, news, h1, hn⟩ := rows_ok hI ht' h0 h hx
    simp only [Rd.run, Option.some.injEq, Prod.mk.injEq] at h1
    obtain ⟨⟨rfl, rfl⟩, _⟩ := h1
    cases hd
    have hfc := hn.first 0 (Nat.zero_le _)
    simp only [Nat.zero_mul, List.take_zero] at hfc
    exact ⟨_, w, β, F, by simp [Builtin.copy_, run_underlying ht, hn.src.len, hsz, hfc, goInt], Left.quiet hI (.int _ _ _)⟩
  · rename_i i st o ln c
    split at h
    · rename_i hst
      subst hst
      obtain ⟨new, p, l1, news, h1, hn⟩ := rows_ok hI ht' h0 h hx
      simp only [Rd.run] at h1
      split at h1
      · rename_i ob hob
        split at h1
        · rename_i st2 rows pu
          split at h1
          · rename_i hc
            obtain ⟨rfl, hol⟩ := hc
            simp only [Rd.run, Option.some.injEq, Prod.mk.injEq] at h1
            obtain ⟨⟨rfl, rfl⟩, _⟩ := h1
            obtain ⟨lc, hl, ho⟩ := hI.obs _ _ hob
            have hfc := hn.first (min new.length ln) (Nat.min_le_left _ _)
            have hnl := hn.src.newsLen
            have hmin : Nat.min new.length ln = min new.length ln := rfl
            cases hd with
            | ms0 _ _ _ _ hb hc0 =>
              rw [hb] at hl
              cases hl
              cases ho with
              | nil =>
                simp only [Nat.min_zero, Nat.zero_mul, List.take_zero] at hfc
                refine ⟨_, w, β, F, by simp [Builtin.copy_, run_underlying ht, hn.src.len, hsz, hfc, goInt], .int _ _ _, ?_, .refl _ _ _, fun i hi => absurd rfl hi⟩
                simp only [Heap.puts, List.take_nil, List.drop_nil, List.take_zero, List.append_nil]
                have hx' : H.at? i = some (.buf ti.size [] false pu) := hob
                refine ⟨hI.os, hI.tape, hI.output, hI.size, hI.keep, hI.kin, ?_, hI.fresh, ?_, hI.froz, ?_⟩
                · intro a b oa ob la lb blk ha hb1 hla hlb hla' hlb'
                  rw [at?_put] at ha hb1
                  split at ha
                  · rename_i e1; subst e1; rw [hb] at hla; cases hla; cases hla'
                  · split at hb1
                    · rename_i e1; subst e1; rw [hb] at hlb; cases hlb; cases hlb'
                    · exact hI.inj a b oa ob la lb blk ha hb1 hla hlb hla' hlb'
                · intro a oa ha
                  rw [at?_put] at ha
                  split at ha
                  · rename_i e1; subst e1; cases ha; exact ⟨.nil, hb, .nil _ _ _⟩
                  · exact hI.obs a oa ha
                · intro a b st C st' rows frz pure hla ha o hf
                  rw [at?_put] at ha
                  split at ha
                  · rename_i e1; subst e1; rw [hb] at hla; cases hla
                  · exact hI.prot a b st C st' rows frz pure hla ha o hf
            | ms _ _ _ _ _ _ b C cc o' hb hcC hlen hcap hnone hadr =>
              rw [hb] at hl
              cases hl
              have ho' := ho
              cases ho with
              | buf _ _ _ _ _ _ hst hthere hC hrl hcell hpure hr =>
                have hlm : (new.take ln).length = min new.length ln := by simp [Nat.min_comm]
                have hnews : (news.take (min new.length ln * ti.size)).length = (new.take ln).length * ti.size := by
                  rw [hlm, List.length_take, hnl]
                  exact Nat.min_eq_left (Nat.mul_le_mul_right _ (Nat.min_le_left _ _))
                obtain ⟨g1, g2⟩ := over_ok (q := o) (n := o + min new.length ln) (np := p) hI hb hob hnews (take_rows ln hn.len hn.at_ hnl) (fun row hm => hn.len row (List.mem_of_mem_take hm)) (fun row hm => hn.cell row (List.mem_of_mem_take hm)) (fun hp row hm => hn.pure hp row (List.mem_of_mem_take hm)) (by omega) (by omega)
                by_cases hz0 : min new.length ln = 0
                · -- nothing
                  have e0 : news.take (min new.length ln * ti.size) = [] := by rw [hz0]; simp
                  rw [e0] at hfc g1 g2
                  rw [hz0] at hfc
                  refine ⟨.int .i64 0, w, β, F, ?_, by rw [hz0]; exact .int _ _ _, by simpa [Heap.puts, World.setCells] using g1, .refl _ _ _, fun i hi => absurd rfl hi⟩
                  simp [Builtin.copy_, run_underlying ht, hn.src.len, lenOf_slice, hsz, hmin, hz0, hfc, goInt, storeCells]
                · have ho2 : o' = o * ti.size := by rcases hadr with h | h <;> omega
                  have hin : o * ti.size + (news.take (min new.length ln * ti.size)).length ≤ C * ti.size := by
                    rw [hnews, ← Nat.add_mul]
                    exact Nat.mul_le_mul_right _ (by omega)
                  have hst := run_storeCells_cells (P := P) b o' (news.take (min new.length ln * ti.size)) 0 w (fun j hj => by
                      rw [Nat.add_zero, ho2]
                      exact (there_sub hthere.t hin j (by omega)).1) (fun j hj => by
                      rw [Nat.add_zero, ho2]
                      exact (there_sub hthere.t hin j (by omega)).2) (fun u hu => hn.src.one u (List.mem_of_mem_take hu))
                  rw [Nat.add_zero] at hst
                  refine ⟨.int .i64 (min new.length ln : Nat), w.setCells b (o * ti.size) (news.take (min new.length ln * ti.size)), β, F, ?_, .int _ _ _, by simpa [Heap.puts] using g1, g2, fun i hi => absurd rfl hi⟩
                  rw [← ho2]
                  simp [Builtin.copy_, run_underlying ht, hn.src.len, lenOf_slice, hsz, hmin, hfc, goInt, hst]
          · simp [Rd.run] at h1
        · simp [Rd.run] at h1
      · simp at h1
    · simp [Rd.run] at h
  · simp [Rd.run] at h

/-- An empty object in the place of an empty one. -/
theorem Inv.nilAgain {i : Nat} {st : Nat} {f f' p p' : Bool} (hI : Inv B β F H w) (hb : β i = some .nil) : Inv B β F (H.put i (some (.buf st [] f' p'))) w := by
  refine ⟨hI.os, hI.tape, hI.output, hI.size, hI.keep, hI.kin, ?_, hI.fresh, ?_, hI.froz, ?_⟩
  · intro a b oa ob la lb blk ha hb1 hla hlb hla' hlb'
    rw [at?_put] at ha hb1
    split at ha
    · rename_i e1; subst e1; rw [hb] at hla; cases hla; cases hla'
    · split at hb1
      · rename_i e1; subst e1; rw [hb] at hlb; cases hlb; cases hlb'
      · exact hI.inj a b oa ob la lb blk ha hb1 hla hlb hla' hlb'
  · intro a oa ha
    rw [at?_put] at ha
    split at ha
    · rename_i e1; subst e1; cases ha; exact ⟨.nil, hb, .nil _ _ _⟩
    · exact hI.obs a oa ha
  · intro a b st C st' rows frz pure hla ha o hf
    rw [at?_put] at ha
    split at ha
    · rename_i e1; subst e1; rw [hb] at hla; cases hla
    · exact hI.prot a b st C st' rows frz pure hla ha o hf

theorem clear_ok {e : TypeId} {ti : TI} (hti : Told P e ti) (h0 : 0 < ti.size) {t ty : TypeId} (ht : P.underlying t = some (.slice e)) {n : Nat} (hI : Inv B β F H w) {d : V} {cd : Value}
    (h : (clearR ti d).run H l = some ((v, u), l')) (hd : Rel F (cl w) β d cd) :
    ∃ cv w' β' F', (Builtin.clear_ #[t] ty #[cd]).run P w = .ok cv w' ∧ Left n B β F H w v u cv w' β' F' := by
  obtain ⟨ii, z, hi, hs, hby, hz, hzok⟩ := hti.info
  have hzv : (zeroValue e).run P w = .ok z w := by simp [zeroValue, typeInfo, hi, hz]
  unfold clearR at h
  split at h
  · simp only [Rd.run, Option.some.injEq, Prod.mk.injEq] at h
    obtain ⟨⟨rfl, rfl⟩, _⟩ := h
    cases hd
    exact ⟨.tuple #[], w, β, F, by simp [Builtin.clear_, run_underlying ht], Left.quiet hI (.undef _ _)⟩
  · rename_i i st o ln c
    split at h
    · rename_i hst
      subst hst
      simp only [Rd.run] at h
      split at h
      · rename_i ob hob
        split at h
        · rename_i st2 rows pu
          split at h
          · rename_i hc
            obtain ⟨rfl, hol⟩ := hc
            simp only [Rd.run, Option.some.injEq, Prod.mk.injEq] at h
            obtain ⟨⟨rfl, rfl⟩, _⟩ := h
            obtain ⟨lc, hl, ho⟩ := hI.obs _ _ hob
            cases hd with
            | ms0 _ _ _ _ hb hc0 =>
              rw [hb] at hl
              cases hl
              cases ho with
              | nil =>
                refine ⟨.tuple #[], w, β, F, by simp [Builtin.clear_, run_underlying ht], .undef _ _, ?_, .refl _ _ _, fun i hi => absurd rfl hi⟩
                simpa [Heap.puts] using hI.nilAgain (f := false) (p := pu) hb
            | ms _ _ _ _ _ _ b C cc o' hb hcC hlen hcap hnone hadr =>
              rw [hb] at hl
              cases hl
              cases ho with
              | buf _ _ _ _ _ _ hst hthere hC hrl hcell hpure hr =>
                obtain ⟨q1, q2, q3, q4, q5⟩ := zeroCells_at (F := F) (w := w) (β := β) hti hzok h0 ln
                obtain ⟨g1, g2⟩ := over_ok (q := o) (n := o + ln) (np := true) hI hb hob (by rw [q4, List.length_replicate]) q1 q2 (fun row hm v hv => (q3 row hm v hv).1) (fun _ row hm v hv => (q3 row hm v hv).2) (by simpa using hol) (by simp)
                simp only [Bool.and_true] at g1
                by_cases hz0 : ln = 0
                · subst hz0
                  have e0 : (Builtin.zeroCells z.cells 0).toList = [] := by simp [Builtin.zeroCells]
                  rw [e0] at g1 g2
                  exact ⟨.tuple #[], w, β, F, by simp [Builtin.clear_, run_underlying ht], .undef _ _, by simpa [Heap.puts, World.setCells] using g1, .refl _ _ _, fun i hi => absurd rfl hi⟩
                · have ho2 : o' = o * ti.size := by rcases hadr with h | h <;> omega
                  have hin : o * ti.size + (Builtin.zeroCells z.cells ln).toList.length ≤ C * ti.size := by
                    rw [q4, ← Nat.add_mul]
                    exact Nat.mul_le_mul_right _ (by omega)
                  have hst := run_storeCells_cells (P := P) b o' (Builtin.zeroCells z.cells ln).toList 0 w (fun j hj => by
                      rw [Nat.add_zero, ho2]
                      exact (there_sub hthere.t hin j (by omega)).1) (fun j hj => by
                      rw [Nat.add_zero, ho2]
                      exact (there_sub hthere.t hin j (by omega)).2) q5
                  rw [Nat.add_zero] at hst
                  refine ⟨.tuple #[], w.setCells b (o * ti.size) (Builtin.zeroCells z.cells ln).toList, β, F, ?_, .undef _ _, by simpa [Heap.puts] using g1, g2, fun i hi => absurd rfl hi⟩
                  rw [← ho2]
                  obtain ⟨m, rfl⟩ : ∃ m, ln = m + 1 := ⟨ln - 1, by omega⟩
                  simp [Builtin.clear_, run_underlying ht, hzv, hst]
          · simp [Rd.run] at h
        · simp [Rd.run] at h
      · simp at h
    · simp [Rd.run] at h
  · simp [Rd.run] at h
end
end Go.Proofs.YtoggbcckkjfkhaaGreat.R
/- Objects numbered anew; frozen. -/
namespace Go.Proofs.YtoggbcckkjfkhaaGreat.R
set_option linter.unusedVariables false
set_option linter.unusedSimpArgs false
open Go Go.RowKit

/-! Lists of numbers. -/
theorem idx_get : ∀ {l : List Nat} {i j : Nat}, idx l i = some j → l[j]? = some i
  | [], i, j, h => by simp [idx] at h
  | x :: r, i, j, h => by
    unfold idx at h
    cases hb : Nat.beq x i
    · simp only [hb, cond_false, Option.map_eq_some_iff] at h
      obtain ⟨k, hk, rfl⟩ := h
      simpa using idx_get hk
    · simp only [hb, cond_true, Option.some.injEq] at h
      subst h
      have := Nat.eq_of_beq_eq_true hb
      simp [this]

theorem nth_eq : ∀ (l : List Nat) (j : Nat), nth l j = l[j]?
  | [], j => by simp [nth]
  | x :: r, 0 => rfl
  | x :: r, j + 1 => by simp [nth, nth_eq r j]

theorem begins_get : ∀ {n i : Nat} {l : List Nat}, begins n i l = true → ∀ k, k < n → l[k]? = some (i + k)
  | 0, i, l, _, k, hk => by omega
  | n + 1, i, [], h, k, hk => by simp [begins] at h
  | n + 1, i, x :: r, h, k, hk => by
    simp only [begins, Bool.and_eq_true] at h
    have hx := Nat.eq_of_beq_eq_true h.1
    cases k with
    | zero => simp [hx]
    | succ k =>
      have := begins_get h.2 k (by omega)
      simp only [List.getElem?_cons_succ, this]
      congr 1
      omega

theorem nodup_at {l : List Nat} (h : l.Nodup) {i j x : Nat} (hi : l[i]? = some x) (hj : l[j]? = some x) : i = j := by
  have h1 := (List.getElem?_eq_some_iff.1 hi).1
  have h2 := (List.getElem?_eq_some_iff.1 hj).1
  rw [List.getElem?_eq_getElem h1] at hi
  rw [List.getElem?_eq_getElem h2] at hj
  exact (List.getElem_inj h).1 ((Option.some.inj hi).trans (Option.some.inj hj).symm)

theorem nodup_snoc {l : List Nat} {i : Nat} (h : l.Nodup) (hi : ¬ l.contains i = true) : (l ++ [i]).Nodup := by
  rw [List.nodup_append]
  refine ⟨h, by simp, fun a ha b hb => ?_⟩
  simp only [List.mem_singleton] at hb
  subst hb
  rintro rfl
  exact hi (by simpa using ha)

theorem reach_nodup (keep : Nat) (h : Heap) : ∀ (n : Nat) (todo acc : List Nat), acc.Nodup → (reach keep h n todo acc).Nodup
  | 0, _, acc, ha => ha
  | n + 1, [], acc, ha => ha
  | n + 1, i :: todo, acc, ha => by
    unfold reach
    split
    · exact reach_nodup keep h n todo acc ha
    · rename_i hi
      split
      · exact reach_nodup keep h n _ _ (nodup_snoc ha hi)
      · split
        · exact reach_nodup keep h n _ _ (nodup_snoc ha hi)
        · exact reach_nodup keep h n _ _ ha

/-! An object with its cells' objects numbered anew. -/
theorem re_pure {f : Nat → Option Nat} {v v' : V} (h : V.re f v = some v') (hv : v.isCell = true) : v'.isCell = true := by
  cases v <;> simp [V.isCell] at hv <;> simp only [V.re, Option.map_eq_some_iff, Option.some.injEq] at h <;> first | (subst h; rfl) | (obtain ⟨_, _, rfl⟩ := h; rfl)

theorem reRows_get {f : Nat → Option Nat} : ∀ {l l' : List (List V)}, reRows f l = some l' → l'.length = l.length ∧ ∀ (j : Nat) (r' : List V), l'[j]? = some r' → ∃ r, l[j]? = some r ∧ V.reAll f r = some r'
  | [], l', h => by
    simp only [reRows, Option.some.injEq] at h
    subst h
    exact ⟨rfl, by simp⟩
  | v :: r, l', h => by
    simp only [reRows, Option.bind_eq_some_iff, Option.map_eq_some_iff] at h
    obtain ⟨v', hv, r', hr, rfl⟩ := h
    obtain ⟨hl, hg⟩ := reRows_get hr
    refine ⟨by simp [hl], fun j u hu => ?_⟩
    cases j with
    | zero => exact ⟨v, rfl, by simpa using hu ▸ hv⟩
    | succ j => exact hg j u (by simpa using hu)

theorem rePairs_get {f : Nat → Option Nat} : ∀ {l l' : List (V × V)}, rePairs f l = some l' → l'.length = l.length ∧ ∀ (j : Nat) (p' : V × V), l'[j]? = some p' → ∃ p, l[j]? = some p ∧ V.re f p.1 = some p'.1 ∧ V.re f p.2 = some p'.2
  | [], l', h => by
    simp only [rePairs, Option.some.injEq] at h
    subst h
    exact ⟨rfl, by simp⟩
  | (k, v) :: r, l', h => by
    simp only [rePairs, Option.bind_eq_some_iff, Option.map_eq_some_iff] at h
    obtain ⟨k', hk, v', hv, r', hr, rfl⟩ := h
    obtain ⟨hl, hg⟩ := rePairs_get hr
    refine ⟨by simp [hl], fun j u hu => ?_⟩
    cases j with
    | zero =>
      simp only [List.getElem?_cons_zero, Option.some.injEq] at hu
      subst hu
      exact ⟨(k, v), rfl, hk, hv⟩
    | succ j => exact hg j u (by simpa using hu)

theorem ObRel.re {F : Froz} {w : World} {β β' : Place} {lc : Loc} {f : Nat → Option Nat} {o o' : Ob} (h : ObRel F w β lc o) (hf : ∀ i j, f i = some j → β' j = β i) (ho : o.re f = some o') : ObRel F w β' lc o' := by
  cases h with
  | nil st frz pure =>
    cases pure
    · simp only [Ob.re, reRows, Option.map_some, Option.some.injEq] at ho
      subst ho
      exact .nil _ _ _
    · simp only [Ob.re, Option.some.injEq] at ho
      subst ho
      exact .nil _ _ _
  | buf b st C rows frz pure hst ht hC hlen hcell hpure h =>
    cases pure
    · simp only [Ob.re, Option.map_eq_some_iff] at ho
      obtain ⟨rows', hr, rfl⟩ := ho
      obtain ⟨hl, hg⟩ := reRows_get hr
      have row : ∀ r' ∈ rows', ∃ r ∈ rows, V.reAll f r = some r' := fun r' hm => by
        obtain ⟨j, hj⟩ := List.mem_iff_getElem?.1 hm
        obtain ⟨r, h1, h2⟩ := hg j r' hj
        exact ⟨r, List.mem_of_getElem? h1, h2⟩
      refine .buf b st C rows' frz false hst ht (by omega) (fun r' hm => ?_) (fun r' hm v' hv => ?_) (by simp) fun r j r' v' hr' hv' => ?_
      · obtain ⟨r, h1, h2⟩ := row r' hm
        rw [(reAll_get h2).1, hlen r h1]
      · obtain ⟨r, h1, h2⟩ := row r' hm
        obtain ⟨j, hj⟩ := List.mem_iff_getElem?.1 hv
        obtain ⟨v, h3, h4⟩ := (reAll_get h2).2 j v' hj
        exact re_pure h4 (hcell r h1 v (List.mem_of_getElem? h3))
      · obtain ⟨r0, h1, h2⟩ := hg r r' hr'
        obtain ⟨v, h3, h4⟩ := (reAll_get h2).2 j v' hv'
        obtain ⟨cv, h5, h6⟩ := h r j r0 v h1 h3
        exact ⟨cv, h5, h6.re hf h4⟩
    · simp only [Ob.re, Option.some.injEq] at ho
      subst ho
      exact .buf b st C rows frz true hst ht hC hlen hcell hpure fun r j row v hr hv => by
        obtain ⟨cv, h1, h2⟩ := h r j row v hr hv
        exact ⟨cv, h1, h2.pure (hpure rfl row (List.mem_of_getElem? hr) v (List.mem_of_getElem? hv)) _⟩
  | mp b es pure ces clock hw hs hpure h =>
    cases pure
    · simp only [Ob.re, Option.map_eq_some_iff] at ho
      obtain ⟨es', he, rfl⟩ := ho
      obtain ⟨hl, hg⟩ := rePairs_get he
      exact .mp b es' false ces clock hw (by omega) (by simp) fun j e' he' => by
        obtain ⟨e, h1, h2, h3⟩ := hg j e' he'
        exact ⟨(h j e h1).1.re hf h2, (h j e h1).2.re hf h3⟩
    · simp only [Ob.re, Option.some.injEq] at ho
      subst ho
      exact .mp b es true ces clock hw hs hpure fun j e he => ⟨(h j e he).1.pure (hpure rfl e (List.mem_of_getElem? he)).1 _, (h j e he).2.pure (hpure rfl e (List.mem_of_getElem? he)).2 _⟩

/-- What of an object stays. -/
theorem re_buf {f : Nat → Option Nat} {o : Ob} {st : Nat} {rows : List (List V)} {frz pure : Bool} (h : o.re f = some (.buf st rows frz pure)) : ∃ rows0, o = .buf st rows0 frz pure ∧ rows0.length = rows.length := by
  cases o with
  | buf st0 rows0 frz0 pure0 =>
    cases pure0
    · simp only [Ob.re, Option.map_eq_some_iff, Ob.buf.injEq] at h
      obtain ⟨rows', hr, rfl, rfl, rfl, rfl⟩ := h
      exact ⟨rows0, rfl, (reRows_get hr).1.symm⟩
    · simp only [Ob.re, Option.some.injEq, Ob.buf.injEq] at h
      obtain ⟨rfl, rfl, rfl, rfl⟩ := h
      exact ⟨_, rfl, rfl⟩
  | mp es p => cases p <;> simp [Ob.re] at h

/-- Objects numbered anew: 'H'' has at 'j' what 'H' has at 'L j'. -/
theorem Inv.renum {B : Base} {β : Place} {F : Froz} {H H' : Heap} {w : World} (hI : Inv B β F H w) (L : Nat → Option Nat) (f : Nat → Option Nat) (hf : ∀ i j, f i = some j → L j = some i) (hL : ∀ j k i, L j = some i → L k = some i → j = k)
    (hH : ∀ j o', H'.at? j = some o' → ∃ i o, L j = some i ∧ H.at? i = some o ∧ o.re f = some o') : Inv B (fun j => (L j).bind β) F H' w := by
  have hβ : ∀ i j, f i = some j → (fun j => (L j).bind β) j = β i := fun i j h => by simp [hf i j h]
  refine ⟨hI.os, hI.tape, hI.output, hI.size, hI.keep, hI.kin, ?_, ?_, ?_, hI.froz, ?_⟩
  · intro j k oj ok l l' b hj hk hl hl' hb hb'
    obtain ⟨i, o, h1, h2, h3⟩ := hH j oj hj
    obtain ⟨i', o', h4, h5, h6⟩ := hH k ok hk
    simp only [h1, h4, Option.bind_some] at hl hl'
    have := hI.inj i i' o o' l l' b h2 h5 hl hl' hb hb'
    subst this
    exact hL j k i h1 h4
  · intro j l b hl hb
    simp only [Option.bind_eq_some_iff] at hl
    obtain ⟨i, _, h2⟩ := hl
    exact hI.fresh i l b h2 hb
  · intro j o' ho
    obtain ⟨i, o, h1, h2, h3⟩ := hH j o' ho
    obtain ⟨lc, h4, h5⟩ := hI.obs i o h2
    exact ⟨lc, by simp [h1, h4], h5.re hβ h3⟩
  · intro j b st C st' rows frz pure hl ho o hF
    obtain ⟨i, o0, h1, h2, h3⟩ := hH j _ ho
    simp only [h1, Option.bind_some] at hl
    obtain ⟨rows0, rfl, hlen⟩ := re_buf h3
    have := hI.prot i b st C st' rows0 frz pure hl h2 o hF
    rw [hlen] at this
    exact this

theorem pull_get {h : Heap} {f : Nat → Option Nat} : ∀ {l : List Nat} {h' : Heap}, pull h f l = some h' → h'.length = l.length ∧ ∀ (j : Nat) (o' : Ob), h'.at? j = some o' → ∃ i o, l[j]? = some i ∧ h.at? i = some o ∧ o.re f = some o'
  | [], h', hp => by
    simp only [pull, Option.some.injEq] at hp
    subst hp
    exact ⟨rfl, fun j o' h => by simp [Heap.at?] at h⟩
  | i :: r, h', hp => by
    unfold pull at hp
    split at hp
    · rename_i o ho
      simp only [Option.bind_eq_some_iff, Option.map_eq_some_iff] at hp
      obtain ⟨o', h1, h2, h3, rfl⟩ := hp
      obtain ⟨hl, hg⟩ := pull_get h3
      refine ⟨by simp [hl], fun j oj hj => ?_⟩
      cases j with
      | zero =>
        simp only [Heap.at?, Option.some.injEq] at hj
        subst hj
        exact ⟨i, o, rfl, ho, h1⟩
      | succ j => simpa using hg j oj (by simpa [Heap.at?] using hj)
    · simp only [Option.map_eq_some_iff] at hp
      obtain ⟨h2, h3, rfl⟩ := hp
      obtain ⟨hl, hg⟩ := pull_get h3
      refine ⟨by simp [hl], fun j oj hj => ?_⟩
      cases j with
      | zero => simp [Heap.at?] at hj
      | succ j => simpa using hg j oj (by simpa [Heap.at?] using hj)

/-! Frozen. -/
/-- What is frozen besides. -/
def Also (F : Froz) (β : Place) (u : Upd) : Froz := fun b o => F b o ∨ ∃ i st rows C, (i, some (.buf st rows true true)) ∈ u ∧ β i = some (.at b st C) ∧ o < rows.length * st

theorem also_mono {F : Froz} {β : Place} {u u' : Upd} (h : ∀ p ∈ u, p ∈ u') : ∀ b o, Also F β u b o → Also F β u' b o := fun b o hh => by
  rcases hh with hh | ⟨i, st, rows, C, h1, h2, h3⟩
  · exact .inl hh
  · exact .inr ⟨i, st, rows, C, h _ h1, h2, h3⟩

/-- 'u' tells which objects are frozen, and what their rows are then. -/
def FrzUpd (F : Froz) (w : World) (β : Place) (H : Heap) (u : Upd) : Prop := ∀ p ∈ u, ∃ st rows0 rows fz p0, H.at? p.1 = some (.buf st rows0 fz p0) ∧ p.2 = some (.buf st rows true true) ∧ rows.length = rows0.length ∧
  ∀ lc, β p.1 = some lc → ObRel (Also F β u) w β lc (.buf st rows true true)

theorem Rel.froz {F F' : Froz} {c : Nat → Nat → Option Value} {β : Place} {v : V} {cv : Value} (hF : ∀ b o, F b o → F' b o) (h : Rel F c β v cv) : Rel F' c β v cv := h.mono (fun b o hf => ⟨hF b o hf, rfl⟩) fun _ _ h => h
theorem RelAll.froz {F F' : Froz} {c : Nat → Nat → Option Value} {β : Place} {v : List V} {cv : Array Value} (hF : ∀ b o, F b o → F' b o) (h : RelAll F c β v cv) : RelAll F' c β v cv := ⟨h.size, fun j v hv => (h.at_ j v hv).froz hF⟩
theorem ObRel.froz {F F' : Froz} {w : World} {β : Place} {lc : Loc} {ob : Ob} (hF : ∀ b o, F b o → F' b o) (h : ObRel F w β lc ob) : ObRel F' w β lc ob := h.keep ⟨fun _ _ h => h, fun b o hf => ⟨hF b o hf, rfl⟩⟩ fun _ _ => rfl

section
variable {B : Base} {F : Froz} {w : World} {β : Place} {H : Heap} {α : Type}

theorem frzUpd_append {u u' : Upd} (h : FrzUpd F w β H u) (h' : FrzUpd F w β H u') : FrzUpd F w β H (u ++ u') := fun p hp => by
  rcases List.mem_append.1 hp with hp | hp
  · obtain ⟨st, rows0, rows, fz, p0, h1, h2, h3, h4⟩ := h p hp
    exact ⟨st, rows0, rows, fz, p0, h1, h2, h3, fun lc hl => (h4 lc hl).froz (also_mono fun p hp => List.mem_append_left _ hp)⟩
  · obtain ⟨st, rows0, rows, fz, p0, h1, h2, h3, h4⟩ := h' p hp
    exact ⟨st, rows0, rows, fz, p0, h1, h2, h3, fun lc hl => (h4 lc hl).froz (also_mono fun p hp => List.mem_append_right _ hp)⟩

/-- What becomes of a slice of an object is right. -/
def MsOK (F : Froz) (w : World) (β : Place) (H : Heap) (ms : Nat → Nat → Nat → Nat → (V → Upd → Rd α) → Rd α) : Prop :=
  ∀ (i st o n : Nat) (c : Option Nat) (k : V → Upd → Rd α) (l : List Nat) (res : α × List Nat) (cx : Value), (ms i st o n k).run H l = some res → Rel F (cl w) β (.ms i st o n c) cx →
    ∃ x' u l1, (k x' u).run H l1 = some res ∧ Rel (Also F β u) (cl w) β x' cx ∧ FrzUpd F w β H u

variable {ms : Nat → Nat → Nat → Nat → (V → Upd → Rd α) → Rd α}

mutual
theorem frzG_ok (hms : MsOK F w β H ms) : ∀ (x : V) (k : V → Upd → Rd α) (l : List Nat) (res : α × List Nat) (cx : Value), (frzG ms x k).run H l = some res → Rel F (cl w) β x cx →
    ∃ x' u l1, (k x' u).run H l1 = some res ∧ Rel (Also F β u) (cl w) β x' cx ∧ FrzUpd F w β H u
  | .ms i st o n c, k, l, res, cx, h, hx => by
    simp only [frzG] at h
    exact hms i st o n c k l res cx h hx
  | .nils, k, l, res, cx, h, hx => by
    simp only [frzG] at h
    cases hx
    exact ⟨_, _, _, h, .fz0 _ _ _, by simp [FrzUpd]⟩
  | .agg cs, k, l, res, cx, h, hx => by
    simp only [frzG] at h
    cases hx with
    | agg _ _ cvs hs hr =>
      obtain ⟨cs', u, l1, h1, h2, h3⟩ := frzGAll_ok hms cs _ l res cvs h ⟨hs, hr⟩
      exact ⟨_, _, _, h1, .agg _ _ _ h2.size h2.at_, h3⟩
  | .tup cs, k, l, res, cx, h, hx => by
    simp only [frzG] at h
    cases hx with
    | tup _ _ cvs hs hr =>
      obtain ⟨cs', u, l1, h1, h2, h3⟩ := frzGAll_ok hms cs _ l res cvs h ⟨hs, hr⟩
      exact ⟨_, _, _, h1, .tup _ _ _ h2.size h2.at_, h3⟩
  | .undef, k, l, res, cx, h, hx | .bool _, k, l, res, cx, h, hx | .int _ _, k, l, res, cx, h, hx | .str _, k, l, res, cx, h, hx | .fz _, k, l, res, cx, h, hx | .nilp, k, l, res, cx, h, hx | .ptr _ _ _, k, l, res, cx, h, hx | .el _ _, k, l, res, cx, h, hx
  | .nilm, k, l, res, cx, h, hx | .map _, k, l, res, cx, h, hx | .nilf, k, l, res, cx, h, hx | .clo _ _, k, l, res, cx, h, hx | .nili, k, l, res, cx, h, hx | .ifc _ _, k, l, res, cx, h, hx => by
    simp only [frzG] at h
    exact ⟨_, _, _, h, hx.froz fun b o h => .inl h, by simp [FrzUpd]⟩
theorem frzGAll_ok (hms : MsOK F w β H ms) : ∀ (xs : List V) (k : List V → Upd → Rd α) (l : List Nat) (res : α × List Nat) (cxs : Array Value), (frzGAll ms xs k).run H l = some res → RelAll F (cl w) β xs cxs →
    ∃ xs' u l1, (k xs' u).run H l1 = some res ∧ RelAll (Also F β u) (cl w) β xs' cxs ∧ FrzUpd F w β H u
  | [], k, l, res, cxs, h, hx => by
    simp only [frzGAll] at h
    exact ⟨_, _, _, h, ⟨hx.size, by simp⟩, by simp [FrzUpd]⟩
  | x :: r, k, l, res, cxs, h, hx => by
    simp only [frzGAll] at h
    obtain ⟨x', u, l1, h1, h2, h3⟩ := frzG_ok hms x _ l res _ h (hx.at_ 0 x rfl)
    have hsz := hx.size
    obtain ⟨r', u', l2, h4, h5, h6⟩ := frzGAll_ok hms r _ l1 res (cxs.extract 1 cxs.size) h1 ⟨by simp at hsz ⊢; omega, fun j v hj => by
      have := hx.at_ (j + 1) v hj
      have hlt := (List.getElem?_eq_some_iff.1 hj).1
      rw [Array.getD_eq_getD_getElem?] at this ⊢
      rw [Array.getElem?_extract, if_pos (by simp at hsz; omega), Nat.add_comm 1 j]
      exact this⟩
    refine ⟨_, _, _, h4, ⟨?_, fun j v hj => ?_⟩, frzUpd_append h3 h6⟩
    · have := h5.size
      simp at hsz this ⊢
      omega
    · cases j with
      | zero =>
        simp only [List.getElem?_cons_zero, Option.some.injEq] at hj
        subst hj
        exact h2.froz (also_mono fun p hp => List.mem_append_left _ hp)
      | succ j =>
        have := h5.at_ j v (by simpa using hj)
        have hlt := (List.getElem?_eq_some_iff.1 (show r'[j]? = some v by simpa using hj)).1
        have hs5 := h5.size
        simp at hs5 hsz
        rw [Array.getD_eq_getD_getElem?] at this ⊢
        rw [Array.getElem?_extract, if_pos (by omega), Nat.add_comm 1 j] at this
        exact this.froz (also_mono fun p hp => List.mem_append_right _ hp)
end

theorem frzGRows_ok (hms : MsOK F w β H ms) : ∀ (rows : List (List V)) (k : List (List V) → Upd → Rd α) (l : List Nat) (res : α × List Nat) (cvs : Nat → Array Value), (frzGRows ms rows k).run H l = some res → (∀ r row, rows[r]? = some row → RelAll F (cl w) β row (cvs r)) →
    ∃ rows' u l1, (k rows' u).run H l1 = some res ∧ rows'.length = rows.length ∧ (∀ r row, rows'[r]? = some row → RelAll (Also F β u) (cl w) β row (cvs r)) ∧ FrzUpd F w β H u
  | [], k, l, res, cvs, h, hx => by
    simp only [frzGRows] at h
    exact ⟨_, _, _, h, rfl, by simp, by simp [FrzUpd]⟩
  | x :: rs, k, l, res, cvs, h, hx => by
    simp only [frzGRows] at h
    obtain ⟨x', u, l1, h1, h2, h3⟩ := frzGAll_ok hms x _ l res (cvs 0) h (hx 0 x rfl)
    obtain ⟨rs', u', l2, h4, h5, h6, h7⟩ := frzGRows_ok hms rs _ l1 res (fun r => cvs (r + 1)) h1 fun r row hr => hx (r + 1) row (by simpa using hr)
    refine ⟨_, _, _, h4, by simp [h5], fun r row hr => ?_, frzUpd_append h3 h7⟩
    cases r with
    | zero =>
      simp only [List.getElem?_cons_zero, Option.some.injEq] at hr
      subst hr
      exact h2.froz (also_mono fun p hp => List.mem_append_left _ hp)
    | succ r => exact (h6 r row (by simpa using hr)).froz (also_mono fun p hp => List.mem_append_right _ hp)

/-- A slice of an object whose rows stand as data. -/
theorem fz_of_ob {F : Froz} {β : Place} {i st o n C : Nat} {c : Option Nat} {b : Nat} {rows : List (List V)} {cx : Value} (hF : ∀ q, q < rows.length * st → F b q) (hb : β i = some (.at b st C)) (hon : o + n ≤ rows.length) (ho : ObRel F w β (.at b st C) (.buf st rows true true))
    (hx : Rel F (cl w) β (.ms i st o n c) cx) : Rel F (cl w) β (.fz ((rows.drop o).take n)) cx := by
  cases hx with
  | ms0 =>
    simp only [List.take_zero]
    exact .fz0 _ _ _
  | ms _ _ _ _ _ _ b2 C2 cc o' hb2 hcC hlen hcap hnone hadr =>
    rw [hb] at hb2
    cases hb2
    by_cases hn : n = 0
    · subst hn
      simp only [List.take_zero]
      exact .fz0 _ _ _
    · cases ho with
      | buf _ _ _ _ _ _ hst hthere hC hrl hcell hpure hr =>
        have ho2 : o' = o * st := by rcases hadr with h | h <;> omega
        have hlen' : ((rows.drop o).take n).length = n := by simp; omega
        have hget : ∀ r, r < n → ((rows.drop o).take n)[r]? = rows[o + r]? := fun r hr => by
          rw [List.getElem?_take, if_pos hr, List.getElem?_drop]
        have hmem : ∀ row ∈ (rows.drop o).take n, row ∈ rows := fun row hm => List.mem_of_mem_drop (List.mem_of_mem_take hm)
        have := Rel.fz (F := F) (c := cl w) β ((rows.drop o).take n) b o' st cc (fun r j => (cl w b (o' + r * st + j)).getD undef) (by omega) (fun row hm => hrl row (hmem row hm)) (fun row hm v hv => ⟨hcell row (hmem row hm) v hv, hpure rfl row (hmem row hm) v hv⟩)
          (fun r j hr' hj => by
            rw [hlen'] at hr'
            have hrow : rows[o + r]? = some (rows[o + r]'(by omega)) := by simp
            have hl2 := hrl _ (List.mem_of_getElem? hrow)
            obtain ⟨cv, h1, _⟩ := hr _ j _ ((rows[o + r]'(by omega))[j]'(by omega)) hrow (List.getElem?_eq_getElem (by omega))
            have e1 : (o + r) * st + j = o' + r * st + j := by rw [ho2, Nat.add_mul]
            rw [e1] at h1
            refine ⟨hF _ ?_, by rw [h1]; rfl⟩
            rw [← e1]
            exact idx_lt (by omega) hj)
          (fun r j row v hrow hv => by
            have hr' : r < n := by have := (List.getElem?_eq_some_iff.1 hrow).1; omega
            rw [hget r hr'] at hrow
            obtain ⟨cv, h1, h2⟩ := hr _ j row v hrow hv
            have e1 : (o + r) * st + j = o' + r * st + j := by rw [ho2, Nat.add_mul]
            rw [e1] at h1
            simp only [h1, Option.getD_some]
            exact h2.pure (hpure rfl row (List.mem_of_getElem? hrow) v (List.mem_of_getElem? hv)) _)
        rwa [hlen'] at this

theorem msUp_ok (hI : Inv B β F H w) (hms : MsOK F w β H ms) : MsOK F w β H (msUp ms) := by
  intro i st o n c k l res cx h hx
  unfold msUp at h
  simp only [Rd.run] at h
  split at h
  · rename_i ob hob
    split at h
    · rename_i st2 rows fz
      split at h
      · rename_i hc
        obtain ⟨rfl, hon⟩ := hc
        have hup : FrzUpd F w β H [(i, some (.buf st2 rows true true))] := by
          intro p hp
          simp only [List.mem_singleton] at hp
          subst hp
          refine ⟨st2, rows, rows, fz, true, hob, rfl, rfl, fun lc hl => ?_⟩
          obtain ⟨lc', hl', ho⟩ := hI.obs _ _ hob
          rw [hl] at hl'
          cases hl'
          have ho := ho.froz (F' := Also F β [(i, some (.buf st2 rows true true))]) fun b o h => .inl h
          cases ho with
          | nil => exact .nil _ _ _
          | buf b _ C _ _ _ a1 a2 a3 a4 a5 a6 a7 => exact .buf b _ C _ _ _ a1 a2 a3 a4 a5 a6 a7
        refine ⟨_, _, _, h, ?_, hup⟩
        obtain ⟨lc, hl, ho⟩ := hI.obs _ _ hob
        obtain ⟨_, _, _, _, _, _, e2, _, ho2⟩ := hup _ (.head _)
        cases e2
        cases ho with
        | nil =>
          obtain rfl : n = 0 := by simp at hon; omega
          simp only [List.take_zero]
          cases hx with
          | ms0 => exact .fz0 _ _ _
          | ms => exact .fz0 _ _ _
        | buf b _ C _ _ _ a1 a2 a3 a4 a5 a6 a7 =>
          exact fz_of_ob (fun q hq => .inr ⟨i, st2, rows, C, .head _, hl, hq⟩) hl hon (ho2 _ hl) (hx.froz fun b o h => .inl h)
      · simp [Rd.run] at h
    · rename_i st2 rows fz
      split at h
      · rename_i hc
        obtain ⟨rfl, hon⟩ := hc
        obtain ⟨lc, hl, ho⟩ := hI.obs _ _ hob
        cases ho with
        | nil =>
          obtain rfl : n = 0 := by simp at hon; omega
          simp only [frzGRows] at h
          simp only [List.all_nil, if_true, List.drop_nil, List.take_nil, List.nil_append] at h
          refine ⟨_, _, _, h, ?_, fun p hp => ?_⟩
          · cases hx with
            | ms0 => exact .fz0 _ _ _
            | ms => exact .fz0 _ _ _
          · simp only [List.mem_singleton] at hp
            subst hp
            refine ⟨st2, [], [], fz, false, hob, rfl, rfl, fun lc' hl' => ?_⟩
            rw [hl] at hl'
            cases hl'
            exact .nil _ _ _
        | buf b _ C _ _ _ a1 a2 a3 a4 a5 a6 a7 =>
          obtain ⟨rows', u, l1, h1, h2, h3, h4⟩ := frzGRows_ok hms rows _ _ res (fun r => ((List.range st2).map fun j => (cl w b (r * st2 + j)).getD undef).toArray) h fun r row hr => by
            have hrl := a4 row (List.mem_of_getElem? hr)
            refine ⟨by simp [hrl], fun j v hj => ?_⟩
            have hjl := (List.getElem?_eq_some_iff.1 hj).1
            obtain ⟨cv, g1, g2⟩ := a7 r j row v hr hj
            have : (((List.range st2).map fun j => (cl w b (r * st2 + j)).getD undef).toArray).getD j undef = cv := by
              rw [Array.getD_eq_getD_getElem?]
              simp [show j < st2 by omega, g1]
            rw [this]
            exact g2
          split at h1
          · rename_i hall
            rw [List.all_eq_true] at hall
            have hall' : ∀ row ∈ rows', ∀ v ∈ row, v.isCell = true ∧ v.hasIds = false := fun row hr v hv => by
              have := List.all_eq_true.1 (hall row hr) v hv
              simpa using this
            have hob2 : ObRel (Also F β (u ++ [(i, some (.buf st2 rows' true true))])) w β (.at b st2 C) (.buf st2 rows' true true) := by
              refine .buf b _ C _ _ _ a1 a2 (by omega) (fun row hr => ?_) (fun row hr v hv => (hall' row hr v hv).1) (fun _ row hr v hv => (hall' row hr v hv).2) fun r j row v hr hv => ?_
              · obtain ⟨r, hr⟩ := List.mem_iff_getElem?.1 hr
                have := (h3 r row hr).size
                simpa using this.symm
              · have hs := (h3 r row hr).size
                have hjl := (List.getElem?_eq_some_iff.1 hv).1
                simp at hs
                have hrow0 : r < rows.length := by
                  have := (List.getElem?_eq_some_iff.1 hr).1
                  omega
                have hl0 := a4 _ (List.getElem_mem hrow0)
                obtain ⟨cv, g1, _⟩ := a7 r j _ ((rows[r])[j]'(by omega)) (List.getElem?_eq_getElem hrow0) (List.getElem?_eq_getElem _)
                refine ⟨cv, g1, ?_⟩
                have := (h3 r row hr).at_ j v hv
                have e : (((List.range st2).map fun j => (cl w b (r * st2 + j)).getD undef).toArray).getD j undef = cv := by
                  rw [Array.getD_eq_getD_getElem?]
                  simp [show j < st2 by omega, g1]
                rw [e] at this
                exact this.froz (also_mono fun p hp => List.mem_append_left _ hp)
            refine ⟨_, _, _, h1, ?_, fun p hp => ?_⟩
            · exact fz_of_ob (fun q hq => .inr ⟨i, st2, rows', C, List.mem_append_right _ (.head _), hl, hq⟩) hl (by omega) hob2 (hx.froz fun b o h => .inl h)
            · rcases List.mem_append.1 hp with hp | hp
              · obtain ⟨st3, rows0, rows3, fz3, p3, g1, g2, g3, g4⟩ := h4 p hp
                exact ⟨st3, rows0, rows3, fz3, p3, g1, g2, g3, fun lc hl => (g4 lc hl).froz (also_mono fun p hp => List.mem_append_left _ hp)⟩
              · simp only [List.mem_singleton] at hp
                subst hp
                refine ⟨st2, rows, rows', fz, false, hob, rfl, h2, fun lc' hl' => ?_⟩
                rw [hl] at hl'
                cases hl'
                exact hob2
          · simp [Rd.run] at h1
      · simp [Rd.run] at h
    · simp [Rd.run] at h
  · cases h
theorem msFail_ok : MsOK F w β H (fun _ _ _ _ (_ : V → Upd → Rd α) => Rd.fail) := fun i st o n c k l res cx h => by simp [Rd.run] at h
theorem ms2_ok (hI : Inv B β F H w) : MsOK (α := α) F w β H ms2 := msUp_ok hI (msUp_ok hI (msUp_ok hI msFail_ok))
theorem frz_ok (hI : Inv B β F H w) (x : V) (k : V → Upd → Rd α) (l : List Nat) (res : α × List Nat) (cx : Value) (h : (frz x k).run H l = some res) (hx : Rel F (cl w) β x cx) :
    ∃ x' u l1, (k x' u).run H l1 = some res ∧ Rel (Also F β u) (cl w) β x' cx ∧ FrzUpd F w β H u := frzG_ok (ms2_ok hI) x k l res cx h hx

theorem frzArgs_ok (hI : Inv B β F H w) : ∀ (xs : List V) (m : List Bool) (k : List V → Upd → Rd α) (l : List Nat) (res : α × List Nat) (cxs : Array Value), (frzArgs xs m k).run H l = some res → RelAll F (cl w) β xs cxs →
    ∃ xs' u l1, (k xs' u).run H l1 = some res ∧ RelAll (Also F β u) (cl w) β xs' cxs ∧ FrzUpd F w β H u
  | [], m, k, l, res, cxs, h, hx => by
    simp only [frzArgs] at h
    exact ⟨_, _, _, h, ⟨hx.size, by simp⟩, by simp [FrzUpd]⟩
  | x :: r, m, k, l, res, cxs, h, hx => by
    have hsz := hx.size
    have htail : RelAll F (cl w) β r (cxs.extract 1 cxs.size) := ⟨by simp at hsz ⊢; omega, fun j v hj => by
      have := hx.at_ (j + 1) v hj
      have hlt := (List.getElem?_eq_some_iff.1 hj).1
      rw [Array.getD_eq_getD_getElem?] at this ⊢
      rw [Array.getElem?_extract, if_pos (by simp at hsz; omega), Nat.add_comm 1 j]
      exact this⟩
    have glue : ∀ {x' : V} {r' : List V} {u u' : Upd}, Rel (Also F β u) (cl w) β x' (cxs.getD 0 undef) → RelAll (Also F β u') (cl w) β r' (cxs.extract 1 cxs.size) → RelAll (Also F β (u ++ u')) (cl w) β (x' :: r') cxs := by
      intro x' r' u u' h2 h5
      refine ⟨?_, fun j v hj => ?_⟩
      · have := h5.size
        simp at hsz this ⊢
        omega
      · cases j with
        | zero =>
          simp only [List.getElem?_cons_zero, Option.some.injEq] at hj
          subst hj
          exact h2.froz (also_mono fun p hp => List.mem_append_left _ hp)
        | succ j =>
          have := h5.at_ j v (by simpa using hj)
          have hlt := (List.getElem?_eq_some_iff.1 (show r'[j]? = some v by simpa using hj)).1
          have hs5 := h5.size
          simp at hs5 hsz
          rw [Array.getD_eq_getD_getElem?] at this ⊢
          rw [Array.getElem?_extract, if_pos (by omega), Nat.add_comm 1 j] at this
          exact this.froz (also_mono fun p hp => List.mem_append_right _ hp)
    have keep : ∀ (m' : List Bool), (frzArgs r m' fun r u => k (x :: r) u).run H l = some res → ∃ xs' u l1, (k xs' u).run H l1 = some res ∧ RelAll (Also F β u) (cl w) β xs' cxs ∧ FrzUpd F w β H u := by
      intro m' h
      obtain ⟨r', u', l2, h4, h5, h6⟩ := frzArgs_ok hI r m' _ l res _ h htail
      exact ⟨_, _, _, h4, glue (u := []) ((hx.at_ 0 x rfl).froz fun b o h => .inl h) h5, h6⟩
    cases m with
    | nil => exact keep _ (by simpa only [frzArgs] using h)
    | cons b m =>
      cases b with
      | false => exact keep _ (by simpa only [frzArgs] using h)
      | true =>
        simp only [frzArgs] at h
        obtain ⟨x', u, l1, h1, h2, h3⟩ := frz_ok hI x _ l res _ h (hx.at_ 0 x rfl)
        obtain ⟨r', u', l2, h4, h5, h6⟩ := frzArgs_ok hI r m _ l1 res _ h1 htail
        exact ⟨_, _, _, h4, glue h2 h5, frzUpd_append h3 h6⟩
end

end Go.Proofs.YtoggbcckkjfkhaaGreat.R
/- Calls. -/
namespace Go.Proofs.YtoggbcckkjfkhaaGreat.R
set_option linter.unusedVariables false
set_option linter.unusedSimpArgs false
open Go Go.RowKit

/-- The blocks that a call leaves as they are: those of none of its objects. -/
def KOf (β : Place) (w : World) : Nat → Prop := fun b => b < w.heap.size ∧ ∀ i l, β i = some l → l.block ≠ some b

/-- Behind a call. -/
structure Post (w : World) (β : Place) (F : Froz) (r : V) (h : Heap) (cv : Value) (w' : World) (β' : Place) (F' : Froz) : Prop where
  rel : Rel F' (cl w') β' r cv
  inv : Inv ⟨w, KOf β w, F⟩ β' F' h w'
  ext : Ext β β' F F' w w'

/-- What the machine says of a function is so. -/
def FunOK (P : Program) (g : FuncId) (fn : Fun) : Prop := ∀ (args : List V) (hs : List Ob) (r : V) (h : Heap), fn args hs = some (r, h) → ∀ (β : Place) (F : Froz) (w : World) (cargs : Array Value),
  Inv ⟨w, KOf β w, F⟩ β F (hs.map some) w → (∀ i, hs.length ≤ i → β i = none) → RelAll F (cl w) β args cargs →
    Calls P g cargs w fun e w' => ∃ cv β' F', e = .returned cv ∧ Post w β F r h cv w' β' F'

theorem collect_ok {α : Type} {H : Heap} : ∀ (n : Nat) (todo : List Nat) (acc : List (Nat × Ob)) (k : List (Nat × Ob) → Rd α) (l : List Nat) (res : α × List Nat), (collect n todo acc k).run H l = some res → (acc.map (·.1)).Nodup → (∀ p ∈ acc, H.at? p.1 = some p.2) →
    ∃ obs l1, (k obs).run H l1 = some res ∧ (obs.map (·.1)).Nodup ∧ ∀ p ∈ obs, H.at? p.1 = some p.2
  | 0, _, _, _, _, _, h, _, _ => by simp [collect, Rd.run] at h
  | n + 1, [], acc, k, l, res, h, h1, h2 => by
    simp only [collect] at h
    exact ⟨acc, l, h, h1, h2⟩
  | n + 1, i :: todo, acc, k, l, res, h, h1, h2 => by
    simp only [collect] at h
    split at h
    · exact collect_ok n todo acc k l res h h1 h2
    · rename_i hc
      simp only [Rd.run] at h
      split at h
      · rename_i o ho
        refine collect_ok n _ _ k _ res h ?_ fun p hp => ?_
        · rw [List.map_append]
          exact nodup_snoc h1 hc
        · rcases List.mem_append.1 hp with h | h
          · exact h2 p h
          · simp only [List.mem_singleton] at h
            subst h
            exact ho
      · cases h

theorem pullObs_get {f : Nat → Option Nat} : ∀ {l : List (Nat × Ob)} {h' : List Ob}, pullObs f l = some h' → h'.length = l.length ∧ ∀ (j : Nat) (o' : Ob), h'[j]? = some o' → ∃ p, l[j]? = some p ∧ p.2.re f = some o'
  | [], h', h => by
    simp only [pullObs, Option.some.injEq] at h
    subst h
    exact ⟨rfl, by simp⟩
  | (i, o) :: r, h', h => by
    simp only [pullObs, Option.bind_eq_some_iff, Option.map_eq_some_iff] at h
    obtain ⟨o', h1, h2, h3, rfl⟩ := h
    obtain ⟨hl, hg⟩ := pullObs_get h3
    refine ⟨by simp [hl], fun j oj hj => ?_⟩
    cases j with
    | zero =>
      simp only [List.getElem?_cons_zero, Option.some.injEq] at hj
      subst hj
      exact ⟨(i, o), rfl, h1⟩
    | succ j => simpa using hg j oj (by simpa using hj)

theorem at?_map_some (l : List Ob) (i : Nat) : Heap.at? (l.map some) i = l[i]? := by
  rw [at?_eq]
  simp only [List.getElem?_map]
  cases l[i]? <;> rfl

/-! What is written back. -/
theorem puts_append : ∀ (u v : Upd) (h : Heap), h.puts (u ++ v) = (h.puts u).puts v
  | [], v, h => rfl
  | (i, o) :: r, v, h => by simp [Heap.puts, puts_append r v]

theorem puts_other : ∀ (u : Upd) (h : Heap) (i : Nat), (∀ p ∈ u, p.1 ≠ i) → (h.puts u).at? i = h.at? i
  | [], h, i, _ => rfl
  | (j, o) :: r, h, i, hi => by
    simp only [Heap.puts]
    rw [puts_other r _ i fun p hp => hi p (.tail _ hp), at?_put, if_neg (fun e => hi (j, o) (.head _) e.symm)]

theorem puts_at : ∀ (u : Upd) (h : Heap) (i : Nat) (o : Option Ob), (i, o) ∈ u → (∀ q ∈ u, q.1 = i → q.2 = o) → (h.puts u).at? i = o
  | [], h, i, o, hm, _ => by cases hm
  | (j, oj) :: r, h, i, o, hm, hq => by
    simp only [Heap.puts]
    by_cases hr : ∃ p ∈ r, p.1 = i
    · obtain ⟨p, hp, hpi⟩ := hr
      have := hq p (.tail _ hp) hpi
      exact puts_at r _ i o (by rw [← this, ← hpi]; exact hp) fun q hq' => hq q (.tail _ hq')
    · rw [puts_other r _ i fun p hp e => hr ⟨p, hp, e⟩, at?_put]
      cases hm with
      | head => simp
      | tail _ hm => exact absurd ⟨(i, o), hm, rfl⟩ hr

/-- The last one that turns it tells what it is. -/
theorem puts_some : ∀ (u : Upd) (i : Nat), (∃ p ∈ u, p.1 = i) → ∃ p ∈ u, p.1 = i ∧ ∀ h : Heap, (h.puts u).at? i = p.2
  | [], i, h => by obtain ⟨p, hp, _⟩ := h; simp at hp
  | (j, oj) :: r, i, h => by
    by_cases hr : ∃ p ∈ r, p.1 = i
    · obtain ⟨p, hp, e, hh⟩ := puts_some r i hr
      exact ⟨p, .tail _ hp, e, fun h => by simp only [Heap.puts]; exact hh _⟩
    · obtain ⟨p, hp, e⟩ := h
      rcases List.mem_cons.1 hp with rfl | hp
      · refine ⟨_, .head _, e, fun h => ?_⟩
        simp only [Heap.puts]
        simp only at e
        rw [puts_other r _ i fun p hp e => hr ⟨p, hp, e⟩, at?_put, if_pos e.symm]
      · exact absurd ⟨p, hp, e⟩ hr

theorem pushObs_get {f : Nat → Option Nat} : ∀ {l : List (Option Ob)} {j : Nat} {us : Upd}, pushObs f l j = some us →
    (∀ k o, l[k]? = some o → ∃ i, f (j + k) = some i ∧ ((o = none ∧ (i, none) ∈ us) ∨ ∃ ob ob', o = some ob ∧ ob.re f = some ob' ∧ (i, some ob') ∈ us)) ∧
    (∀ p ∈ us, ∃ k o, l[k]? = some o ∧ f (j + k) = some p.1 ∧ ((o = none ∧ p.2 = none) ∨ ∃ ob ob', o = some ob ∧ ob.re f = some ob' ∧ p.2 = some ob'))
  | [], j, us, h => by
    simp only [pushObs, Option.some.injEq] at h
    subst h
    exact ⟨by simp, by simp⟩
  | o :: r, j, us, h => by
    unfold pushObs at h
    split at h
    · rename_i i ob hf
      simp only [Option.bind_eq_some_iff, Option.map_eq_some_iff] at h
      obtain ⟨ob', h1, us', h2, rfl⟩ := h
      obtain ⟨g1, g2⟩ := pushObs_get h2
      refine ⟨fun k o hk => ?_, fun p hp => ?_⟩
      · cases k with
        | zero =>
          simp only [List.getElem?_cons_zero, Option.some.injEq] at hk
          subst hk
          exact ⟨i, hf, .inr ⟨ob, ob', rfl, h1, .head _⟩⟩
        | succ k =>
          obtain ⟨i', a, b⟩ := g1 k o (by simpa using hk)
          rw [show j + 1 + k = j + (k + 1) by omega] at a
          refine ⟨i', a, ?_⟩
          rcases b with ⟨b1, b2⟩ | ⟨x, x', b1, b2, b3⟩
          · exact .inl ⟨b1, .tail _ b2⟩
          · exact .inr ⟨x, x', b1, b2, .tail _ b3⟩
      · cases hp with
        | head => exact ⟨0, some ob, rfl, hf, .inr ⟨ob, ob', rfl, h1, rfl⟩⟩
        | tail _ hp =>
          obtain ⟨k, o, a, b, c⟩ := g2 p hp
          exact ⟨k + 1, o, by simpa using a, by rw [show j + (k + 1) = j + 1 + k by omega]; exact b, c⟩
    · rename_i i hf
      simp only [Option.map_eq_some_iff] at h
      obtain ⟨us', h2, rfl⟩ := h
      obtain ⟨g1, g2⟩ := pushObs_get h2
      refine ⟨fun k o hk => ?_, fun p hp => ?_⟩
      · cases k with
        | zero =>
          simp only [List.getElem?_cons_zero, Option.some.injEq] at hk
          subst hk
          exact ⟨i, hf, .inl ⟨rfl, .head _⟩⟩
        | succ k =>
          obtain ⟨i', a, b⟩ := g1 k o (by simpa using hk)
          rw [show j + 1 + k = j + (k + 1) by omega] at a
          refine ⟨i', a, ?_⟩
          rcases b with ⟨b1, b2⟩ | ⟨x, x', b1, b2, b3⟩
          · exact .inl ⟨b1, .tail _ b2⟩
          · exact .inr ⟨x, x', b1, b2, .tail _ b3⟩
      · cases hp with
        | head => exact ⟨0, none, rfl, hf, .inl ⟨rfl, rfl⟩⟩
        | tail _ hp =>
          obtain ⟨k, o, a, b, c⟩ := g2 p hp
          exact ⟨k + 1, o, by simpa using a, by rw [show j + (k + 1) = j + 1 + k by omega]; exact b, c⟩
    · cases h

theorem back_inj {l : List Nat} {n m : Nat} (hl : l.Nodup) (hlt : ∀ i ∈ l, i < n) {j k i : Nat} (h1 : back l n m j = some i) (h2 : back l n m k = some i) : j = k := by
  unfold back at h1 h2
  rw [nth_eq] at h1 h2
  split at h1
  · rename_i a ha
    cases h1
    split at h2
    · rename_i b hb
      cases h2
      exact nodup_at hl ha hb
    · split at h2
      · have := hlt i (List.mem_of_getElem? ha)
        simp at h2
        omega
      · cases h2
  · rename_i ha
    split at h1
    · split at h2
      · rename_i b hb
        cases h2
        have := hlt i (List.mem_of_getElem? hb)
        simp at h1
        omega
      · rename_i hb
        split at h2
        · simp at h1 h2 ha hb
          omega
        · cases h2
    · cases h1

theorem Rel.noFz {F F' : Froz} {c c' : Nat → Nat → Option Value} {β : Place} {v : V} {cv : Value} (h : Rel F c β v cv) : v.noFz = true → Rel F' c' β v cv := by
  have all : ∀ {l : List V}, V.allNoFz l = true → ∀ (j : Nat) (v : V), l[j]? = some v → v.noFz = true := by
    intro l
    induction l with
    | nil => intro _ j v hv; simp at hv
    | cons x r ih =>
      intro h j v hv
      simp only [V.allNoFz, Bool.and_eq_true] at h
      cases j with
      | zero => simp at hv; exact hv ▸ h.1
      | succ j => exact ih h.2 j v (by simpa using hv)
  induction h with
  | undef β v => intro _; exact .undef _ _
  | bool β b => intro _; exact .bool _ _
  | int β k n => intro _; exact .int _ _ _
  | str β s => intro _; exact .str _ _
  | nils β => intro _; exact .nils _
  | fz0 β a cap => intro _; exact .fz0 _ _ _
  | fz β rows b o st cap g hl hst hcell hF h ih =>
    intro hv
    cases rows with
    | nil => exact .fz0 _ _ _
    | cons a r => simp [V.noFz] at hv
  | ms0 β i st cap h hc => intro _; exact .ms0 _ _ _ _ h hc
  | ms β i st off len cap b C cc o h hc hlen hcap hnone ho => intro _; exact .ms _ _ _ _ _ _ b C cc o h hc hlen hcap hnone ho
  | nilp β => intro _; exact .nilp _
  | ptr β i row off b st C h => intro _; exact .ptr _ _ _ _ _ _ C h
  | el β row off b base g hcell hF h ih => intro hv; simp [V.noFz] at hv
  | nilm β => intro _; exact .nilm _
  | map β i b h => intro _; exact .map _ _ _ h
  | nilf β => intro _; exact .nilf _
  | clo β f caps cvs hs h ih => intro hv; exact .clo _ _ _ _ hs fun j v hj => ih j v hj (all (by simpa [V.noFz] using hv) j v hj)
  | nili β => intro _; exact .nili _
  | ifc β t v cv h ih => intro hv; exact .ifc _ _ _ _ (ih (by simpa [V.noFz] using hv))
  | agg β cs cvs hs h ih => intro hv; exact .agg _ _ _ hs fun j v hj => ih j v hj (all (by simpa [V.noFz] using hv) j v hj)
  | tup β vs cvs hs h ih => intro hv; exact .tup _ _ _ hs fun j v hj => ih j v hj (all (by simpa [V.noFz] using hv) j v hj)

section
variable {P : Program} {B : Base} {F : Froz} {w : World} {β : Place} {H : Heap} {l l' : List Nat} {v : V} {u : Upd}

/-- Where objects stand, some of them frozen. -/
theorem Inv.also (hI : Inv B β F H w) {u : Upd} (hu : FrzUpd F w β H u) : Inv B β (Also F β u) (H.puts u) w := by
  have cases_ : ∀ i o, (H.puts u).at? i = some o → (∃ st rows0 rows fz p0, (i, some (.buf st rows true true)) ∈ u ∧ H.at? i = some (.buf st rows0 fz p0) ∧ o = .buf st rows true true ∧ rows.length = rows0.length ∧ ∀ lc, β i = some lc → ObRel (Also F β u) w β lc o) ∨ ((∀ p ∈ u, p.1 ≠ i) ∧ H.at? i = some o) := by
    intro i o ho
    by_cases hm : ∃ p ∈ u, p.1 = i
    · obtain ⟨p, hp, rfl, hh⟩ := puts_some u i hm
      obtain ⟨st, rows0, rows, fz, p0, h1, h2, h3, h4⟩ := hu p hp
      rw [hh, h2] at ho
      cases ho
      exact .inl ⟨st, rows0, rows, fz, p0, by rw [← h2]; exact hp, h1, rfl, h3, h4⟩
    · have hno : ∀ p ∈ u, p.1 ≠ i := fun p hp e => hm ⟨p, hp, e⟩
      rw [puts_other u H i hno] at ho
      exact .inr ⟨hno, ho⟩
  have hx : Ext β β F (Also F β u) w w := ⟨fun _ _ h => h, fun b o hf => ⟨.inl hf, rfl⟩⟩
  have alive : ∀ i o, (H.puts u).at? i = some o → ∃ o', H.at? i = some o' := by
    intro i o ho
    rcases cases_ i o ho with ⟨st, rows0, rows, fz, p0, _, h1, _⟩ | ⟨_, h1⟩
    · exact ⟨_, h1⟩
    · exact ⟨_, h1⟩
  refine ⟨hI.os, hI.tape, hI.output, hI.size, hI.keep, hI.kin, ?_, hI.fresh, ?_, ?_, ?_⟩
  · intro i j oi oj l l' b hi hj
    obtain ⟨oi', hi'⟩ := alive i oi hi
    obtain ⟨oj', hj'⟩ := alive j oj hj
    exact hI.inj i j oi' oj' l l' b hi' hj'
  · intro i o ho
    rcases cases_ i o ho with ⟨st, rows0, rows, fz, p0, hm, h1, h2, h3, h4⟩ | ⟨_, h1⟩
    · obtain ⟨lc, h5, _⟩ := hI.obs i _ h1
      exact ⟨lc, h5, h4 lc h5⟩
    · obtain ⟨lc, h2, h3⟩ := hI.obs i o h1
      exact ⟨lc, h2, h3.keep hx fun _ _ => rfl⟩
  · intro b o hf
    rcases hf with hf | ⟨i, st, rows, C, h1, h2, h3⟩
    · exact hI.froz b o hf
    · have := hI.fresh i _ b h2 rfl
      exact ⟨this.1, fun hk => absurd hk this.2⟩
  · intro i b st C st' rows frz pure hl ho o hf
    rcases hf with hf | ⟨k, st2, rows2, C2, g1, g2, g3⟩
    · rcases cases_ i _ ho with ⟨st3, rows0, rows3, fz, p0, _, h1, h2, h3, _⟩ | ⟨_, h1⟩
      · cases h2
        have := hI.prot i b st C _ _ _ _ hl h1 o hf
        exact ⟨rfl, by rw [h3]; exact this.2⟩
      · exact hI.prot i b st C _ _ _ _ hl h1 o hf
    · obtain ⟨st4, rows40, rows4, fz4, p4, k1, k2, k3, _⟩ := hu _ g1
      cases k2
      obtain ⟨oi', hi'⟩ := alive i _ ho
      have e : k = i := hI.inj k i _ _ _ _ b k1 hi' g2 hl rfl rfl
      subst e
      rcases cases_ k _ ho with ⟨st3, rows30, rows3, fz, p0, _, h1, h2, h3, _⟩ | ⟨hno, _⟩
      · cases h2
        simp only at k1
        rw [k1] at h1
        cases h1
        exact ⟨rfl, by rw [h3, ← k3]; exact g3⟩
      · exact absurd rfl (hno _ g1)

theorem idx_mem {l : List Nat} {i : Nat} (h : i ∈ l) : ∃ j, idx l i = some j := by
  induction l with
  | nil => cases h
  | cons x r ih =>
    unfold idx
    cases hb : Nat.beq x i
    · simp only [cond_false]
      cases h with
      | head => rw [Nat.beq_refl] at hb; cases hb
      | tail _ h =>
        obtain ⟨j, hj⟩ := ih h
        exact ⟨j + 1, by simp [hj]⟩
    · exact ⟨0, rfl⟩

theorem Inv.base (hI : Inv B β F H w) : Inv ⟨w, KOf β w, F⟩ β F H w :=
  ⟨rfl, rfl, rfl, Nat.le_refl _, fun _ _ => rfl, fun _ h => h.1, hI.inj, fun i l b hl hb => ⟨(hI.fresh i l b hl hb).1, fun hk => hk.2 i l hl hb⟩, hI.obs, fun b o hf => ⟨(hI.froz b o hf).1, fun _ => hf⟩, hI.prot⟩

theorem with_ok {g : FuncId} {fn : Fun} (hfn : FunOK P g fn) (hI : Inv B β F H w) {n : Nat} {u0 : Upd} (hu0 : FrzUpd F w β H u0) {args : List V} {cargs : Array Value} (hargs : RelAll (Also F β u0) (cl w) β args cargs) {obs : List (Nat × Ob)} (hnd : (obs.map (·.1)).Nodup) (hobs : ∀ p ∈ obs, H.at? p.1 = some p.2)
    (h : (withR fn n args u0 obs).run H l = some ((v, u), l')) (hfresh : ∀ p ∈ u, n ≤ p.1 → β p.1 = none) :
    Calls P g cargs w fun e w' => ∃ cv β' F', e = .returned cv ∧ Left n B β F H w v u cv w' β' F' := by
  unfold withR at h
  simp only at h
  split at h
  · rename_i hc
    simp only [Bool.and_eq_true] at hc
    obtain ⟨hdis, hlt⟩ := hc
    generalize hL : obs.map (·.1) = L at *
    have hdis' : ∀ p ∈ u0, p.1 ∉ L := fun p hp hm => by
      unfold upd1 at hdis
      simp only [List.all_eq_true] at hdis
      have := hdis p hp
      simp [hm] at this
    have hlt' : ∀ i ∈ L, i < n := by simpa using hlt
    split at h
    · rename_i args2 hs hargs2 hhs
      split at h
      · rename_i r hp hcall
        split at h
        · rename_i hlen
          obtain ⟨q1, q2⟩ := pullObs_get hhs
          have hLl : L.length = obs.length := by rw [← hL]; simp
          have hLget : ∀ (j : Nat) (p : Nat × Ob), obs[j]? = some p → L[j]? = some p.1 := fun j p hj => by rw [← hL]; simp [hj]
          have hA := hI.also hu0
          have hAobs : ∀ p ∈ obs, (H.puts u0).at? p.1 = some p.2 := fun p hp => by
            rw [puts_other u0 H p.1 fun q hq e => hdis' q hq (by rw [e, ← hL]; exact List.mem_map_of_mem hp)]
            exact hobs p hp
          -- the callee's view
          let βc : Place := fun j => (L[j]?).bind β
          have hIc : Inv B βc (Also F β u0) (hs.map some) w := hA.renum (fun j => L[j]?) (idx L) (fun i j h => idx_get h) (fun j k i h1 h2 => nodup_at hnd h1 h2) fun j o' ho => by
            rw [at?_map_some] at ho
            obtain ⟨p, h1, h2⟩ := q2 j o' ho
            exact ⟨p.1, p.2, hLget j p h1, hAobs p (List.mem_of_getElem? h1), h2⟩
          have hcnone : ∀ i, hs.length ≤ i → βc i = none := fun i hi => by
            have : L[i]? = none := by rw [List.getElem?_eq_none]; omega
            simp [βc, this]
          obtain ⟨r1, r2⟩ := reAll_get hargs2
          have hargsc : RelAll (Also F β u0) (cl w) βc args2 cargs := ⟨by rw [hargs.size, r1], fun j v hj => by
            obtain ⟨x, h1, h2⟩ := r2 j v hj
            exact (hargs.at_ j x h1).re (fun i k hk => by simp [βc, idx_get hk]) h2⟩
          refine (hfn args2 hs r hp hcall βc (Also F β u0) w cargs hIc.base hcnone hargsc).mono ?_
          rintro e w' ⟨cv, β2, F2, rfl, hpost⟩
          -- which blocks stay
          have lalive : ∀ j i, L[j]? = some i → ∃ o, (H.puts u0).at? i = some o ∧ H.at? i = some o := fun j i hj => by
            rw [← hL, List.getElem?_map, Option.map_eq_some_iff] at hj
            obtain ⟨p, h1, rfl⟩ := hj
            exact ⟨p.2, hAobs p (List.mem_of_getElem? h1), hobs p (List.mem_of_getElem? h1)⟩
          have kb : ∀ b, B.K b → KOf βc w b := fun b hb => ⟨Nat.lt_of_lt_of_le (hI.kin b hb) hI.size, fun j lc hj hlc => by
            simp only [βc, Option.bind_eq_some_iff] at hj
            obtain ⟨i, _, h2⟩ := hj
            exact (hI.fresh i lc b h2 hlc).2 hb⟩
          have ko : ∀ i o lc b, (H.puts u0).at? i = some o → i ∉ L → β i = some lc → lc.block = some b → KOf βc w b := fun i o lc b ho hi hl hb => ⟨(hI.fresh i lc b hl hb).1, fun j lc' hj hlc => by
            simp only [βc, Option.bind_eq_some_iff] at hj
            obtain ⟨i', h1, h2⟩ := hj
            obtain ⟨o', h3, _⟩ := lalive j i' h1
            exact hi (hA.inj i i' o o' lc lc' b ho h3 hl h2 hb hlc ▸ List.mem_of_getElem? h1)⟩
          have same : ∀ b, KOf βc w b → w'.heap[b]? = w.heap[b]? := hpost.inv.keep
          have hwsz : w.heap.size ≤ w'.heap.size := hpost.inv.size
          have hos : w'.os = B.w0.os := by rw [hpost.inv.os]; exact hI.os
          have htape : w'.tape = B.w0.tape := by rw [hpost.inv.tape]; exact hI.tape
          have hout : w'.output = B.w0.output := by rw [hpost.inv.output]; exact hI.output
          have hkeep : ∀ b, B.K b → w'.heap[b]? = B.w0.heap[b]? := fun b hb => by rw [same b (kb b hb)]; exact hI.keep b hb
          unfold afterR at h
          split at h
          · rename_i r' us hr' hus
            split at h
            · -- nothing is left of the call but its answer
              rename_i hcond
              simp only [Bool.and_eq_true, List.isEmpty_iff] at hcond
              obtain ⟨⟨hLn, hpn⟩, hnf⟩ := hcond
              subst hLn hpn
              simp only [Rd.run, Option.some.injEq, Prod.mk.injEq] at h
              obtain ⟨⟨rfl, rfl⟩, _⟩ := h
              have hk : ∀ b, b < w.heap.size → KOf βc w b := fun b hb => ⟨hb, fun j lc hj => by simp [βc] at hj⟩
              have hx : Ext β β F F w w' := ⟨fun _ _ h => h, fun b o hf => ⟨hf, cl_of_block (same b (hk b (hI.froz b o hf).1)) o⟩⟩
              have hrel : Rel F2 (cl w') β r' cv := hpost.rel.re (f := back [] n 0) (fun i j hj => by simp [back, nth] at hj) hr'
              refine ⟨cv, β, F, rfl, ⟨hrel.noFz hnf, ?_, hx, fun i hi => absurd rfl hi⟩⟩
              refine ⟨hos, htape, hout, Nat.le_trans hI.size hwsz, hkeep, hI.kin, hI.inj, fun i lc b hl hb => ⟨Nat.lt_of_lt_of_le (hI.fresh i lc b hl hb).1 hwsz, (hI.fresh i lc b hl hb).2⟩, fun i o ho => ?_, fun b o hf => ⟨Nat.lt_of_lt_of_le (hI.froz b o hf).1 hwsz, (hI.froz b o hf).2⟩, hI.prot⟩
              obtain ⟨lc, h1, h2⟩ := hI.obs i o ho
              exact ⟨lc, h1, h2.keep hx fun b hb => same b (hk b (hI.fresh i lc b h1 hb).1)⟩
            · simp only [Rd.run, Option.some.injEq, Prod.mk.injEq] at h
              obtain ⟨⟨rfl, rfl⟩, _⟩ := h
              obtain ⟨g1, g2⟩ := pushObs_get hus
              simp only [Nat.zero_add] at g1 g2
              let β' : Place := fun i => if n ≤ i ∧ i < n + (hp.length - L.length) then β2 (i - n + L.length) else β i
              have bk : ∀ j i, back L n hp.length j = some i → β' i = β2 j := fun j i hj => by
                unfold back at hj
                rw [nth_eq] at hj
                split at hj
                · rename_i a ha
                  cases hj
                  have hi := hlt' i (List.mem_of_getElem? ha)
                  obtain ⟨o, h1, h2⟩ := lalive j i ha
                  obtain ⟨lc, h3, _⟩ := hI.obs i o h2
                  have : β2 j = some lc := hpost.ext.place j lc (by simp [βc, ha, h3])
                  simp only [β']
                  rw [if_neg (by omega), h3, this]
                · rename_i ha
                  split at hj
                  · rename_i hjm
                    cases hj
                    have hjl : L.length ≤ j := by simpa using ha
                    simp only [β']
                    rw [if_pos (by omega)]
                    congr 1
                    omega
                  · cases hj
              have bkin : ∀ i, n ≤ i → i < n + (hp.length - L.length) → back L n hp.length (i - n + L.length) = some i := fun i h1 h2 => by
                unfold back
                rw [nth_eq, List.getElem?_eq_none (by omega)]
                simp only
                rw [if_pos (by omega)]
                congr 1
                omega
              have binj : ∀ {j k i : Nat}, back L n hp.length j = some i → back L n hp.length k = some i → j = k := fun h1 h2 => back_inj hnd hlt' h1 h2
              have hnew : ∀ i, n ≤ i → i < n + (hp.length - L.length) → β i = none := fun i h1 h2 => by
                have hk := bkin i h1 h2
                have hlt2 : i - n + L.length < hp.length := by omega
                obtain ⟨i', a, b⟩ := g1 (i - n + L.length) hp[i - n + L.length] (by simp [hlt2])
                rw [hk] at a
                cases a
                rcases b with ⟨_, b⟩ | ⟨_, _, _, _, b⟩
                · exact hfresh _ (List.mem_append_left _ b) h1
                · exact hfresh _ (List.mem_append_left _ b) h1
              have old : ∀ i lc, β i = some lc → β' i = some lc := fun i lc hi => by
                simp only [β']
                rw [if_neg]
                · exact hi
                · rintro ⟨h1, h2⟩
                  rw [hnew i h1 h2] at hi
                  cases hi
              have hx1 : Ext β β' (Also F β u0) F2 w w' := ⟨old, hpost.ext.froz⟩
              have hx : Ext β β' F F2 w w' := ⟨old, fun b o hf => hpost.ext.froz b o (.inl hf)⟩
              -- an object behind the call
              have nob : ∀ j i, back L n hp.length j = some i → (∀ p ∈ u0, p.1 ≠ i) := fun j i hj p hp' e => by
                unfold back at hj
                rw [nth_eq] at hj
                split at hj
                · rename_i a ha
                  cases hj
                  exact hdis' p hp' (e ▸ List.mem_of_getElem? ha)
                · rename_i ha
                  split at hj
                  · cases hj
                    obtain ⟨st, rows0, rows, fz, p0, h1, _⟩ := hu0 p hp'
                    obtain ⟨lc, h2, _⟩ := hI.obs _ _ h1
                    rw [e] at h2
                    rw [hnew _ (by omega) (by simp at ha; omega)] at h2
                    cases h2
                  · cases hj
              have atN : ∀ j i o, back L n hp.length j = some i → hp[j]? = some o → (H.puts (us ++ u0)).at? i = o.bind (Ob.re (back L n hp.length)) := fun j i o hj ho => by
                rw [puts_append, puts_other u0 _ i (nob j i hj)]
                obtain ⟨i', a, b⟩ := g1 j o ho
                rw [hj] at a
                cases a
                have uniq : ∀ x, (i, x) ∈ us → x = o.bind (Ob.re (back L n hp.length)) := fun x hx' => by
                  obtain ⟨k, o2, a1, a2, a3⟩ := g2 (i, x) hx'
                  have := binj a2 hj
                  subst this
                  rw [ho] at a1
                  cases a1
                  rcases a3 with ⟨rfl, a3⟩ | ⟨ob, ob', rfl, a3, a4⟩
                  · exact a3
                  · simp only [Option.bind_some]
                    rw [a3]
                    exact a4
                rcases b with ⟨_, b⟩ | ⟨_, _, _, _, b⟩
                · rw [puts_at us H i none b fun q hq e => by rw [uniq q.2 (by rw [← e]; exact hq), uniq none b]]
                  exact uniq none b
                · rename_i ob' _ _
                  rw [puts_at us H i _ b fun q hq e => by rw [uniq q.2 (by rw [← e]; exact hq), uniq _ b]]
                  exact uniq _ b
              have atO : ∀ i, (∀ j, back L n hp.length j ≠ some i) → (H.puts (us ++ u0)).at? i = (H.puts u0).at? i := fun i hi => by
                have hno : ∀ p ∈ us, p.1 ≠ i := fun p hp' e => by
                  obtain ⟨k, o, _, a2, _⟩ := g2 p hp'
                  exact hi k (e ▸ a2)
                rw [puts_append]
                by_cases hm : ∃ p ∈ u0, p.1 = i
                · obtain ⟨p, _, _, hh⟩ := puts_some u0 i hm
                  rw [hh, hh]
                · have hn : ∀ p ∈ u0, p.1 ≠ i := fun p hp' e => hm ⟨p, hp', e⟩
                  rw [puts_other u0 _ i hn, puts_other u0 _ i hn, puts_other us _ i hno]
              -- each live object is one of the callee's, or an old one
              have kind : ∀ i o, (H.puts (us ++ u0)).at? i = some o → (∃ j o0, back L n hp.length j = some i ∧ hp.at? j = some o0 ∧ o0.re (back L n hp.length) = some o ∧ β' i = β2 j) ∨
                  ((∀ j, back L n hp.length j ≠ some i) ∧ (H.puts u0).at? i = some o ∧ i ∉ L ∧ β' i = β i) := fun i o ho => by
                by_cases hb : ∃ j, back L n hp.length j = some i
                · obtain ⟨j, hj⟩ := hb
                  have hjm : j < hp.length := by
                    unfold back at hj
                    rw [nth_eq] at hj
                    split at hj
                    · rename_i a ha
                      have := (List.getElem?_eq_some_iff.1 ha).1
                      omega
                    · split at hj
                      · assumption
                      · cases hj
                  rw [atN j i hp[j] hj (by simp [hjm])] at ho
                  simp only [Option.bind_eq_some_iff] at ho
                  obtain ⟨o0, h1, h2⟩ := ho
                  exact .inl ⟨j, o0, hj, by rw [at?_eq]; simp [hjm, h1], h2, bk j i hj⟩
                · have hno : ∀ j, back L n hp.length j ≠ some i := fun j hj => hb ⟨j, hj⟩
                  rw [atO i hno] at ho
                  refine .inr ⟨hno, ho, fun hm => ?_, ?_⟩
                  · obtain ⟨j, hj⟩ := List.mem_iff_getElem?.1 hm
                    exact hno j (by unfold back; rw [nth_eq, hj])
                  · simp only [β']
                    rw [if_neg]
                    rintro ⟨h1, h2⟩
                    exact hno _ (bkin i h1 h2)
              refine ⟨cv, β', F2, rfl, ⟨hpost.rel.re (fun j i hj => bk j i hj) hr', ?_, hx, fun i hi => ?_⟩⟩
              · refine ⟨hos, htape, hout, Nat.le_trans hI.size hwsz, hkeep, hI.kin, ?_, ?_, ?_, ?_, ?_⟩
                · intro i1 i2 o1 o2 l1 l2 b h1 h2 hl1 hl2 hb1 hb2
                  rcases kind i1 o1 h1 with ⟨j1, p1, a1, a2, a3, a4⟩ | ⟨a1, a2, a3, a4⟩ <;> rcases kind i2 o2 h2 with ⟨j2, p2, c1, c2, c3, c4⟩ | ⟨c1, c2, c3, c4⟩
                  · rw [a4] at hl1
                    rw [c4] at hl2
                    have := hpost.inv.inj j1 j2 p1 p2 l1 l2 b a2 c2 hl1 hl2 hb1 hb2
                    subst this
                    rw [a1] at c1
                    exact Option.some.inj c1
                  · rw [a4] at hl1
                    rw [c4] at hl2
                    exact absurd (ko i2 o2 l2 b c2 c3 hl2 hb2) (hpost.inv.fresh j1 l1 b hl1 hb1).2
                  · rw [a4] at hl1
                    rw [c4] at hl2
                    exact absurd (ko i1 o1 l1 b a2 a3 hl1 hb1) (hpost.inv.fresh j2 l2 b hl2 hb2).2
                  · rw [a4] at hl1
                    rw [c4] at hl2
                    exact hA.inj i1 i2 o1 o2 l1 l2 b a2 c2 hl1 hl2 hb1 hb2
                · intro i lc b hl hb
                  simp only [β'] at hl
                  split at hl
                  · have := hpost.inv.fresh _ lc b hl hb
                    exact ⟨this.1, fun hk => this.2 (kb b hk)⟩
                  · exact ⟨Nat.lt_of_lt_of_le (hI.fresh i lc b hl hb).1 hwsz, (hI.fresh i lc b hl hb).2⟩
                · intro i o ho
                  rcases kind i o ho with ⟨j, o0, a1, a2, a3, a4⟩ | ⟨a1, a2, a3, a4⟩
                  · obtain ⟨lc, b1, b2⟩ := hpost.inv.obs j o0 a2
                    exact ⟨lc, by rw [a4]; exact b1, b2.re (fun j i hj => bk j i hj) a3⟩
                  · obtain ⟨lc, b1, b2⟩ := hA.obs i o a2
                    exact ⟨lc, by rw [a4]; exact b1, b2.keep hx1 fun b hb => same b (ko i o lc b a2 a3 b1 hb)⟩
                · intro b o hf
                  refine ⟨(hpost.inv.froz b o hf).1, fun hk => ?_⟩
                  exact (hA.froz b o ((hpost.inv.froz b o hf).2 (kb b hk))).2 hk
                · intro i b st C st' rows frz pure hl ho o hf
                  rcases kind i _ ho with ⟨j, o0, a1, a2, a3, a4⟩ | ⟨a1, a2, a3, a4⟩
                  · rw [a4] at hl
                    obtain ⟨rows0, rfl, hlen0⟩ := re_buf a3
                    have := hpost.inv.prot j b st C _ _ _ _ hl a2 o hf
                    rw [hlen0] at this
                    exact this
                  · rw [a4] at hl
                    have hk := ko i _ _ b a2 a3 hl rfl
                    exact hA.prot i b st C _ _ _ _ hl a2 o ((hpost.inv.froz b o hf).2 hk)
              · simp only [β'] at hi
                split at hi
                · rename_i hr
                  have hk := bkin i hr.1 hr.2
                  obtain ⟨i', a, b⟩ := g1 (i - n + L.length) (hp[i - n + L.length]'(by omega)) (by simp)
                  rw [hk] at a
                  cases a
                  refine ⟨hr.1, hnew i hr.1 hr.2, ?_⟩
                  rcases b with ⟨_, b⟩ | ⟨_, _, _, _, b⟩
                  · exact ⟨_, List.mem_append_left _ b⟩
                  · exact ⟨_, List.mem_append_left _ b⟩
                · exact absurd rfl hi
          · simp [Rd.run] at h
        · simp [Rd.run] at h
      · simp [Rd.run] at h
    · simp [Rd.run] at h
  · simp [Rd.run] at h
end

end Go.Proofs.YtoggbcckkjfkhaaGreat.R
/- Arrays; bytes and texts; make. -/
namespace Go.Proofs.YtoggbcckkjfkhaaGreat.R
set_option linter.unusedVariables false
set_option linter.unusedSimpArgs false
open Go Go.RowKit

section
variable {P : Program} {T : TT} (hT : TOK P T) {B : Base} {F : Froz} {w : World} {β : Place} {H : Heap} {l l' : List Nat} {v : V} {u : Upd}

theorem arrOf_ok {t : TypeId} {m : Nat} {te : TI} (hT : TOK P T) (h : arrOf T t = some (m, te)) : ∃ e ti, T t = some ti ∧ ti.kd = .arr m e ∧ P.underlying t = some (.array m e) ∧ T e = some te ∧ te.size ≠ 0 ∧ ti.size = m * te.size := by
  unfold arrOf at h
  split at h
  · rename_i ti ht
    split at h
    · rename_i n e hk
      split at h
      · rename_i te' he
        split at h
        · cases h
        · rename_i hc
          cases h
          exact ⟨e, ti, ht, hk, (hT.told ht).arr hk, he, fun e => hc (.inl e), Classical.not_not.1 fun e => hc (.inr e)⟩
      · cases h
    · cases h
  · cases h

theorem ones_get {cs : List V} {r j : Nat} {row : List V} {v : V} (hr : (cs.map fun c => [c])[r]? = some row) (hv : row[j]? = some v) : j = 0 ∧ cs[r]? = some v := by
  simp only [List.getElem?_map, Option.map_eq_some_iff] at hr
  obtain ⟨c, hc, rfl⟩ := hr
  cases j with
  | zero =>
    simp only [List.getElem?_cons_zero, Option.some.injEq] at hv
    exact ⟨rfl, hv ▸ hc⟩
  | succ j => simp at hv

theorem flat_one : ∀ {rows : List (List V)}, (∀ row ∈ rows, row.length = 1) → rows.flatten.length = rows.length ∧ ∀ (j : Nat) (v : V), rows.flatten[j]? = some v → rows[j]? = some [v]
  | [], _ => ⟨rfl, by simp⟩
  | row :: r, h => by
    obtain ⟨x, rfl⟩ := List.length_eq_one_iff.1 (h row (.head _))
    obtain ⟨h1, h2⟩ := flat_one (rows := r) fun q hq => h q (.tail _ hq)
    refine ⟨by simp [h1], fun j v hv => ?_⟩
    cases j with
    | zero => simpa using hv
    | succ j => simpa using h2 j v (by simpa using hv)

theorem allocA_ok (hT : TOK P T) {n : Nat} {t : TypeId} (hI : Inv B β F H w) (h : (allocA T n t).run H l = some ((v, u), l')) (hn : β n = none) :
    ∃ cv w' β' F', (Instr.alloc t true (.tuple #[])).run P w = .ok cv w' ∧ Left n B β F H w v u cv w' β' F' := by
  unfold allocA at h
  split at h
  · rename_i m te hm
    split at h
    · rename_i hc
      obtain ⟨e, ti, ht, hk, hu, he, h0, hs⟩ := arrOf_ok hT hm
      rw [ht] at h
      simp only [Rd.run, Option.some.injEq, Prod.mk.injEq] at h
      obtain ⟨⟨rfl, rfl⟩, _⟩ := h
      obtain ⟨z, hz, hzok⟩ := (hT.told ht).zero (P := P) w
      have hF : ∀ b o, F b o → b < w.heap.size := fun b o hf => (hI.froz b o hf).1
      have hext : Ext β (β.set n (.at w.heap.size 1 m)) F F w (w.alloc (.cells z.cells t)) := alloc_ext hn hF
      obtain ⟨hzr, hzc, hzi⟩ := zOK_rel hzok F (cl (w.alloc (.cells z.cells t))) (β.set n (.at w.heap.size 1 m))
      have hcells := hzr.cells hzc
      have hzl := (hT.told ht).zlen
      rw [hs, hc.1, Nat.mul_one] at hzl
      refine ⟨.pointer (some ⟨w.heap.size, 0 * 1 + 0, none⟩), w.alloc (.cells z.cells t), β.set n (.at w.heap.size 1 m), F, ?_, ⟨?_, ?_, hext, set_only hn (.head _)⟩⟩
      · simp [Instr.alloc, hz, newVar, newRow]
      · exact .ptr _ _ _ _ _ _ m (by simp [Place.set])
      · refine hI.alloc hn rfl (new_rel (by omega) (by have := hcells.size; omega) (by simp; omega) (fun row hm => ?_) (fun row hm v hv => ?_) (fun _ row hm v hv => ?_) (fun r j row v hr hv => ?_) false (by omega))
        · obtain ⟨c, _, rfl⟩ := List.mem_map.1 hm
          rfl
        · obtain ⟨c, hc2, rfl⟩ := List.mem_map.1 hm
          rw [List.mem_singleton] at hv
          subst hv
          simp only [List.all_eq_true] at hzc
          exact hzc v hc2
        · obtain ⟨c, hc2, rfl⟩ := List.mem_map.1 hm
          rw [List.mem_singleton] at hv
          subst hv
          exact anyIds_mem.1 hzi v hc2
        · obtain ⟨rfl, hcs⟩ := ones_get hr hv
          have := hcells.at_ r v hcs
          simpa using this
    · exact alloc_ok hT hI h hn
  · exact alloc_ok hT hI h hn

theorem loadA_ok (hT : TOK P T) {t : TypeId} {x : V} {cv : Value} (hI : Inv B β F H w) (h : (loadA T t x).run H l = some ((v, u), l')) (hx : Rel F (cl w) β x cv) :
    ∃ cw, (Instr.loadAt t cv).run P w = .ok cw w ∧ Rel F (cl w) β v cw ∧ u = [] := by
  unfold loadA at h
  split at h
  · rename_i m te i r hm
    simp only [Rd.run] at h
    split at h
    · rename_i ob hob
      split at h
      · rename_i st rows frz pure
        split at h
        · rename_i hc
          split at h
          · rename_i hlen
            simp only [Rd.run, Option.some.injEq, Prod.mk.injEq] at h
            obtain ⟨⟨rfl, rfl⟩, _⟩ := h
            obtain ⟨e, ti, ht, hk, hu, he, h0, hs⟩ := arrOf_ok hT hm
            obtain ⟨rfl, h1, _⟩ := hc
            cases hx with
            | ptr _ _ _ _ b st' C hb =>
              obtain ⟨lc, hl, ho⟩ := hI.obs _ _ hob
              rw [hb] at hl
              cases hl
              cases ho with
              | buf _ _ _ _ _ _ hst hthere hC hlen1 hcell hpure hr =>
                have hall : ∀ row ∈ (rows.drop r).take m, row.length = 1 := fun row hm => hlen1 row (List.mem_of_mem_drop (List.mem_of_mem_take hm))
                obtain ⟨f1, f2⟩ := flat_one hall
                have ha : ti.agg = true := by unfold TI.agg; rw [hk]
                have hfl : (((rows.drop r).take m).flatten).length = m := by rw [f1]; simp; omega
                obtain ⟨cw, q1, q2⟩ := load_at (hT.told ht) (row := ((rows.drop r).take m).flatten) (off := 0) (b := b) (base := r * 1) (β := β) (F := F) (w := w) (v := .agg ((rows.drop r).take m).flatten) (fun j v hv => by
                  have hj := f2 j v hv
                  rw [List.getElem?_take] at hj
                  split at hj
                  · rw [List.getElem?_drop] at hj
                    have := hr (r + j) 0 [v] v hj rfl
                    rwa [show (r + j) * 1 + 0 = r * 1 + j by omega] at this
                  · cases hj) (by unfold partOf; rw [if_pos ha, if_pos (by rw [hfl, hs, h1]; omega), List.drop_zero, List.take_of_length_le (by rw [hfl, hs, h1]; omega)])
                exact ⟨cw, q1, q2, rfl⟩
          · simp [Rd.run] at h
        · have : ∃ l2, (loadR T t (.ptr i r 0)).run H l2 = some ((v, u), l') := ⟨_, h⟩
          obtain ⟨l2, h2⟩ := this
          exact load_ok hT hI h2 hx
      · simp [Rd.run] at h
    · cases h
  · exact load_ok hT hI h hx

theorem cells_run {b q : Nat} {cells : List Value} (hth : w.there b q cells.length) (h1 : ∀ u ∈ cells, oneCell u = true) : (storeCells ⟨b, q, none⟩ cells).run P w = .ok () (w.setCells b q cells) := by
  have hs := run_storeCells_cells (P := P) b q cells 0 w (fun j hj => by simpa using (hth j hj).1) (fun j hj => by simpa using (hth j hj).2) (fun u hu => by
    have := h1 u hu
    cases u <;> first | rfl | (simp [oneCell] at this))
  simpa using hs

theorem storeA_ok (hT : TOK P T) {n : Nat} {t : TypeId} {a x : V} {ca cx : Value} (hI : Inv B β F H w) (h : (storeA T t a x).run H l = some ((v, u), l')) (ha : Rel F (cl w) β a ca) (hx : Rel F (cl w) β x cx) :
    ∃ w' β' F', (Instr.storeAt t ca cx).run P w = .ok () w' ∧ Left n B β F H w v u undef w' β' F' := by
  unfold storeA at h
  split at h
  · rename_i m te i r hm
    simp only [Rd.run] at h
    split at h
    · rename_i ob hob
      split at h
      · rename_i st rows pure
        split at h
        · rename_i hc
          split at h
          · rename_i hcond
            obtain ⟨hlen, hxl, hall⟩ := hcond
            simp only [Rd.run, Option.some.injEq, Prod.mk.injEq] at h
            obtain ⟨⟨rfl, rfl⟩, _⟩ := h
            obtain ⟨e, ti, ht, hk, hu, he, h0, hs⟩ := arrOf_ok hT hm
            obtain ⟨rfl, h1, _⟩ := hc
            cases ha with
            | ptr _ _ _ _ b st' C hb =>
              obtain ⟨lc, hl, ho⟩ := hI.obs _ _ hob
              rw [hb] at hl
              cases hl
              cases ho with
              | buf _ _ _ _ _ _ hst hthere hC hlen1 hcell hpure hr =>
                have hcx := hx.cells hall
                have hvl : cx.cells.toList.length = m := by simp [hcx.size, hxl]
                obtain ⟨g1, g2⟩ := over_ok hI hb hob (q := r) (n := r + m) (new := x.cells.map fun c => [c]) (news := cx.cells.toList) (np := !V.anyIds x.cells) (by simp [hcx.size]) (fun r' j row v hr' hv => by
                    obtain ⟨rfl, hcs⟩ := ones_get hr' hv
                    have := hcx.at_ r' v hcs
                    rw [Array.getD_eq_getD_getElem?, ← Array.getElem?_toList] at this
                    simpa [List.getD_eq_getElem?_getD] using this) (fun row hm => by
                    obtain ⟨c, _, rfl⟩ := List.mem_map.1 hm
                    rfl) (fun row hm v hv => by
                    obtain ⟨c, hc2, rfl⟩ := List.mem_map.1 hm
                    rw [List.mem_singleton] at hv
                    subst hv
                    simp only [List.all_eq_true] at hall
                    exact hall v hc2) (fun hp row hm v hv => by
                    obtain ⟨c, hc2, rfl⟩ := List.mem_map.1 hm
                    rw [List.mem_singleton] at hv
                    subst hv
                    simp only [Bool.not_eq_true'] at hp
                    exact anyIds_mem.1 hp v hc2) (by simp; omega) (by simp [hxl])
                refine ⟨w.setCells b (r * 1) cx.cells.toList, β, F, ?_, ⟨.undef _ _, g1, g2, fun i h => absurd rfl h⟩⟩
                have hin : r * 1 + cx.cells.toList.length ≤ C * 1 := by omega
                have hrun := cells_run (P := P) (there_sub hthere.t hin) (fun u hu => by
                  obtain ⟨j, hj⟩ := List.mem_iff_getElem?.1 hu
                  have hjl := (List.getElem?_eq_some_iff.1 hj).1
                  have hvj : x.cells[j]? = some (x.cells[j]'(by omega)) := by simp
                  have h1 := hcx.at_ j _ hvj
                  have h2 : cx.cells.getD j undef = u := by
                    rw [Array.getD_eq_getD_getElem?, ← Array.getElem?_toList, hj]; rfl
                  rw [h2] at h1
                  exact h1.one (by simp only [List.all_eq_true] at hall; exact hall _ (List.getElem_mem _)))
                have hsz : cx.cells.size = ti.size := by rw [hcx.size, hxl, hs, h1]; omega
                simp only [Nat.add_zero]
                simp [Instr.storeAt, Instr.sureAddr, storeVar, (hT.told ht).sizeOf w, hsz]
                simpa using hrun
          · simp [Rd.run] at h
        · exact store_ok hT hI h ha hx
      · simp [Rd.run] at h
    · cases h
  · exact store_ok hT hI h ha hx

theorem indexAddrA_ok (hT : TOK P T) {t : TypeId} {x i : V} {cv ci : Value} (hI : Inv B β F H w) (h : (indexAddrA T t x i).run H l = some ((v, u), l')) (hx : Rel F (cl w) β x cv) (hi : Rel F (cl w) β i ci) :
    ∃ cw, (Instr.indexAt t cv ci).run P w = .ok cw w ∧ Rel F (cl w) β v cw ∧ u = [] := by
  unfold indexAddrA at h
  split at h
  · rename_i m te hm
    obtain ⟨e, ti, ht, hk, hu, he, h0, hs⟩ := arrOf_ok hT hm
    have hsize := (hT.told he).sizeOf w
    split at h
    · rename_i k hn
      obtain ⟨kk, rfl⟩ := natOf_rel hn hi
      split at h
      · rename_i hlt
        split at h
        · rename_i id r off
          simp only [Rd.run] at h
          split at h
          · rename_i ob hob
            split at h
            · rename_i st rows frz pure
              cases hx with
              | ptr _ _ _ _ b st' C hb =>
                obtain ⟨lc, hl, ho⟩ := hI.obs _ _ hob
                rw [hb] at hl
                cases hl
                cases ho with
                | buf _ _ _ _ _ _ hst hthere hC hlen1 hcell hpure hr =>
                  split at h
                  · rename_i hc
                    simp only [Rd.run, Option.some.injEq, Prod.mk.injEq] at h
                    obtain ⟨⟨rfl, rfl⟩, _⟩ := h
                    obtain ⟨rfl, h1⟩ := hc
                    refine ⟨.pointer (some ⟨b, (r + off + k) * 1 + 0, none⟩), ?_, .ptr _ _ _ _ _ _ C hb, rfl⟩
                    simp [Instr.indexAt, asIntOf, run_underlying hu, hlt, hsize, Instr.sureAddr, Addr.add_mid, h1]
                  · simp only [Rd.run, Option.some.injEq, Prod.mk.injEq] at h
                    obtain ⟨⟨rfl, rfl⟩, _⟩ := h
                    refine ⟨.pointer (some ⟨b, r * st + (off + k * te.size), none⟩), ?_, .ptr _ _ _ _ _ _ C hb, rfl⟩
                    simp [Instr.indexAt, asIntOf, run_underlying hu, hlt, hsize, Instr.sureAddr, Addr.add_mid, Nat.add_assoc]
            · simp [Rd.run] at h
          · cases h
        · rename_i row off
          simp only [Rd.run, Option.some.injEq, Prod.mk.injEq] at h
          obtain ⟨⟨rfl, rfl⟩, _⟩ := h
          cases hx with
          | el _ _ _ b base g hcell hF hr =>
            refine ⟨.pointer (some ⟨b, base + (off + k * te.size), none⟩), ?_, .el _ _ _ _ base g hcell hF hr, rfl⟩
            simp [Instr.indexAt, asIntOf, run_underlying hu, hlt, hsize, Instr.sureAddr, Addr.add_mid, Nat.add_assoc]
        · simp [Rd.run] at h
      · simp [Rd.run] at h
    · simp [Rd.run] at h
  · exact indexAddr_ok hT h hx hi

theorem indexA_ok (hT : TOK P T) {t : TypeId} {x i : V} {cv ci : Value} (h : (indexA T t x i).run H l = some ((v, u), l')) (hx : Rel F (cl w) β x cv) (hi : Rel F (cl w) β i ci) :
    ∃ cw, (Instr.index t cv ci).run P w = .ok cw w ∧ Rel F (cl w) β v cw ∧ u = [] := by
  unfold indexA at h
  split at h
  · rename_i m te hm
    obtain ⟨e, ti, ht, hk, hu, he, h0, hs⟩ := arrOf_ok hT hm
    have hsize := (hT.told he).sizeOf w
    split at h
    · rename_i k cs hn
      obtain ⟨kk, rfl⟩ := natOf_rel hn hi
      split at h
      · rename_i hlt
        obtain ⟨hp, rfl, _⟩ := ok_run h
        cases hx with
        | agg _ _ c1 s1 g1 =>
          obtain ⟨cw, p1, p2⟩ := partOf_rel (P := P) (hT.told he) s1 g1 hp
          refine ⟨cw, ?_, p2, rfl⟩
          simp [Instr.index, asIntOf, run_underlying hu, hlt, hsize, p1]
      · simp [Rd.run] at h
    · simp [Rd.run] at h
  · exact index_ok hT h hx hi

theorem sliceA_ok (hT : TOK P T) (hI : Inv B β F H w) {t : TypeId} {x : V} {lo hi mx : Option V} {cv : Value} {clo chi cmx : Option Value} (h : (sliceA T t x lo hi mx).run H l = some ((v, u), l')) (hx : Rel F (cl w) β x cv)
    (h1 : OptRel F (cl w) β lo clo) (h2 : OptRel F (cl w) β hi chi) (h3 : OptRel F (cl w) β mx cmx) (hn : mx ≠ none → hi ≠ none) :
    ∃ cw, (Instr.sliceAt t cv clo chi cmx).run P w = .ok cw w ∧ Rel F (cl w) β v cw ∧ u = [] := by
  unfold sliceA at h
  split at h
  · rename_i m te hm
    obtain ⟨e, ti, ht, hk, hu, he, h0, hs⟩ := arrOf_ok hT hm
    have hsize := (hT.told he).sizeOf w
    split at h
    · rename_i i r off ll hh hll hhh
      split at h
      · rename_i hc
        obtain ⟨q1, q2, q3⟩ := hc
        simp only [Rd.run] at h
        split at h
        · rename_i ob hob
          split at h
          · rename_i st rows frz pure
            split at h
            · rename_i hst1
              obtain ⟨rfl, hlen⟩ := hst1
              simp only [Rd.run, Option.some.injEq, Prod.mk.injEq] at h
              obtain ⟨⟨rfl, rfl⟩, _⟩ := h
              cases cmx with
              | some _ => exact h3.elim
              | none =>
                cases hx with
                | ptr _ _ _ _ b st' C hb =>
                  obtain ⟨lc, hl, ho⟩ := hI.obs _ _ hob
                  rw [hb] at hl
                  cases hl
                  cases ho with
                  | buf _ _ _ _ _ _ hst hthere hC hlen1 hcell hpure hr =>
                    have hbnd := bounds_ok (P := P) (ll := ll) (hh := hh) (mm := m) (len := m) (cap := m) false h1 h2 h3 hll hhh rfl hn q2 q3 (Nat.le_refl _)
                    by_cases hml : m = ll
                    · subst hml
                      refine ⟨.slice (some ⟨b, r * 1 + off, none⟩) (hh - m) (m - m), ?_, .ms _ _ _ _ _ _ b C _ _ hb (by omega) (by omega) (fun k hk => by cases hk; rfl) (fun hk => by cases hk) (.inl (by omega)), rfl⟩
                      simp [Instr.sliceAt, run_underlying hu, Instr.sureAddr, hbnd, hsize, q1]
                    · refine ⟨.slice (some ⟨b, r * 1 + off + ll, none⟩) (hh - ll) (m - ll), ?_, .ms _ _ _ _ _ _ b C (m - ll) _ hb (by omega) (by omega) (fun k hk => by cases hk; rfl) (fun hk => by cases hk) (.inr (by omega)), rfl⟩
                      simp [Instr.sliceAt, run_underlying hu, Instr.sureAddr, hbnd, hsize, q1, hml, Addr.add_mid]
            · simp [Rd.run] at h
          · simp [Rd.run] at h
        · cases h
      · simp [Rd.run] at h
    · simp [Rd.run] at h
  · exact slice_ok hT hI h hx h1 h2 h3 hn

theorem arrayAtR_ok (hT : TOK P T) (hI : Inv B β F H w) {t : TypeId} {x : V} {cv : Value} (h : (arrayAtR T t x).run H l = some ((v, u), l')) (hx : Rel F (cl w) β x cv) :
    ∃ cw, (Instr.arrayAt t cv).run P w = .ok cw w ∧ Rel F (cl w) β v cw ∧ u = [] := by
  unfold arrayAtR at h
  split at h
  · rename_i m te hm
    obtain ⟨e, ti, ht, hk, hu, he, h0, hs⟩ := arrOf_ok hT hm
    split at h
    · rename_i hc
      split at h
      · rename_i i o len cap
        split at h
        · rename_i hlen
          simp only [Rd.run] at h
          split at h
          · rename_i ob hob
            split at h
            · simp only [Rd.run, Option.some.injEq, Prod.mk.injEq] at h
              obtain ⟨⟨rfl, rfl⟩, _⟩ := h
              have hn : ¬ len < m := by omega
              cases hx with
              | ms0 => omega
              | ms _ _ _ _ _ _ b C cc o' hb hcc hl hcap hnone ho =>
                have ho2 : o' = o * 1 := by omega
                subst ho2
                exact ⟨.pointer (some ⟨b, o * 1 + 0, none⟩), by simp [Instr.arrayAt, run_underlying hu, hn], .ptr _ _ _ _ _ _ C hb, rfl⟩
            · simp [Rd.run] at h
          · cases h
        · simp [Rd.run] at h
      · rename_i rows
        split at h
        · rename_i hlen
          simp only [Rd.run, Option.some.injEq, Prod.mk.injEq] at h
          obtain ⟨⟨rfl, rfl⟩, _⟩ := h
          have hn : ¬ rows.length < m := by omega
          have hall : ∀ row ∈ rows, row.length = 1 := by simpa using hlen.2
          obtain ⟨f1, f2⟩ := flat_one (rows := rows.take m) fun row hm => hall row (List.mem_of_mem_take hm)
          cases hx with
          | fz0 => simp at hlen; omega
          | fz _ _ b o st cap g hl hst hcell hF hr =>
            have hst1 : st = 1 := by
              have : rows ≠ [] := by rintro rfl; simp at hlen; omega
              obtain ⟨row, hrow⟩ := List.exists_mem_of_ne_nil _ this
              rw [← hst row hrow, hall row hrow]
            subst hst1
            have hlm : (rows.take m).flatten.length = m := by rw [f1, List.length_take]; omega
            refine ⟨.pointer (some ⟨b, o + 0, none⟩), by simp [Instr.arrayAt, run_underlying hu, hn], .el _ _ _ b o (fun j => g j 0) (fun v hv => ?_) (fun j hj => ?_) (fun j v hv => ?_), rfl⟩
            · obtain ⟨row, hrow, hv⟩ := List.mem_flatten.1 hv
              exact hcell row (List.mem_of_mem_take hrow) v hv
            · rw [hlm] at hj
              have := hF j 0 (by omega) (by omega)
              simpa using this
            · have hj := f2 j v hv
              rw [List.getElem?_take] at hj
              split at hj
              · exact hr j 0 [v] v hj rfl
              · cases hj
        · simp [Rd.run] at h
      · simp [Rd.run] at h
    · simp [Rd.run] at h
  · simp [Rd.run] at h
end
end Go.Proofs.YtoggbcckkjfkhaaGreat.R
/- Bytes and texts; make. -/
namespace Go.Proofs.YtoggbcckkjfkhaaGreat.R
set_option linter.unusedVariables false
set_option linter.unusedSimpArgs false
open Go Go.RowKit

section
variable {P : Program} {T : TT} (hT : TOK P T) {B : Base} {F : Froz} {w : World} {β : Place} {H : Heap} {l l' : List Nat} {v : V} {u : Upd}

theorem isU8_ok (hT : TOK P T) {e : TypeId} (h : isU8 T e = true) : P.underlying e = some (.int .u8) := by
  unfold isU8 at h
  split at h
  · rename_i te he
    split at h
    · rename_i hk
      exact (hT.told he).int hk
    · cases h
  · cases h

theorem bytesOf_inv : ∀ {rows : List (List V)} {bs : List UInt8}, bytesOf rows = some bs → ∃ xs : List Int, rows = xs.map (fun k => [.int .u8 k]) ∧ bs = xs.map fun k => UInt8.ofNat k.toNat
  | [], bs, h => by
    cases h
    exact ⟨[], rfl, rfl⟩
  | row :: r, bs, h => by
    unfold bytesOf at h
    split at h
    · rename_i h1; cases h1
    · rename_i k r' h1
      cases h1
      simp only [Option.map_eq_some_iff] at h
      obtain ⟨bs', h2, rfl⟩ := h
      obtain ⟨xs, rfl, rfl⟩ := bytesOf_inv h2
      exact ⟨k :: xs, rfl, rfl⟩
    · cases h

theorem one_cell {xs : List Int} {r : Nat} (h : r < xs.length) : (xs.map fun k => [V.int .u8 k])[r]? = some [.int .u8 (xs.getD r 0)] := by
  simp [List.getElem?_eq_getElem h, List.getD]

theorem empty_run {src dst e : TypeId} (hs : P.underlying src = some (.slice e)) (he : P.underlying e = some (.int .u8)) (hd : P.underlying dst = some .string) (a : Option Addr) (c : Nat) :
    (convert src dst (.slice a 0 c)).run P w = .ok (.string ⟨#[]⟩) w := by
  rw [run_convert_bytes_string w src dst e a 0 c hs he hd]
  cases a with
  | none => simp [Conv.bytesToString]; rfl
  | some a => simp [Conv.bytesToString, loadCells, loadCellsFrom]; rfl

theorem toText_ok (hI : Inv B β F H w) {src dst e : TypeId} (hs : P.underlying src = some (.slice e)) (he : P.underlying e = some (.int .u8)) (hd : P.underlying dst = some .string) {x : V} {cx : Value}
    (h : (bytesR x).run H l = some ((v, u), l')) (hx : Rel F (cl w) β x cx) : ∃ cv, (convert src dst cx).run P w = .ok cv w ∧ Rel F (cl w) β v cv ∧ u = [] := by
  have fin : ∀ {rows : List (List V)} {l1 : List Nat}, (textR rows).run H l1 = some ((v, u), l') → ∃ xs : List Int, rows = xs.map (fun k => [.int .u8 k]) ∧ v = .str (strOfNums xs) ∧ u = [] := by
    intro rows l1 h
    unfold textR at h
    split at h
    · rename_i bs hb
      obtain ⟨xs, rfl, rfl⟩ := bytesOf_inv hb
      simp only [Rd.run, Option.some.injEq, Prod.mk.injEq] at h
      obtain ⟨⟨rfl, rfl⟩, _⟩ := h
      exact ⟨xs, rfl, rfl, rfl⟩
    · simp [Rd.run] at h
  unfold bytesR rows? at h
  split at h
  · obtain ⟨xs, hxs, rfl, rfl⟩ := fin h
    have : xs = [] := by simpa using hxs.symm
    subst this
    cases hx
    exact ⟨_, empty_run hs he hd none 0, .str _ _, rfl⟩
  · rename_i rows
    split at h
    · rename_i hall
      obtain ⟨xs, hxs, rfl, rfl⟩ := fin h
      cases hx with
      | fz0 _ a cap =>
        have : xs = [] := by simpa using hxs.symm
        subst this
        exact ⟨_, empty_run hs he hd a cap, .str _ _, rfl⟩
      | fz _ _ b o st cap g hl hst hcell hF hr =>
        subst hxs
        rcases Nat.eq_zero_or_pos xs.length with h0 | h0
        · have : xs = [] := List.length_eq_zero_iff.1 h0
          subst this
          exact ⟨_, empty_run hs he hd _ cap, .str _ _, rfl⟩
        · have hst1 : st = 1 := by rw [← hst _ (List.mem_of_getElem? (one_cell h0))]; rfl
          subst hst1
          refine ⟨_, run_convert_bytes_arg w src e hs he b o _ cap xs (by simp) (fun i hi => ?_) dst hd, .str _ _, rfl⟩
          simp only [List.length_map] at hi
          have h1 := (hF i 0 (by simpa using hi) (by omega)).2
          have h2 := hr i 0 _ _ (one_cell hi) rfl
          cases hg : g i 0 <;> rw [hg] at h2 h1 <;> cases h2
          simpa [cl] using h1
    · simp [Rd.run] at h
  · rename_i i st o n c
    split at h
    · rename_i hst1
      subst hst1
      simp only [Rd.run] at h
      split at h
      · rename_i ob hob
        split at h
        · rename_i st' rows frz pure
          split at h
          · rename_i hc
            obtain ⟨xs, hxs, rfl, rfl⟩ := fin h
            have hxl : xs.length = n := by
              have := congrArg List.length hxs
              simp at this
              omega
            cases hx with
            | ms0 =>
              have : xs = [] := List.length_eq_zero_iff.1 hxl
              subst this
              exact ⟨_, empty_run hs he hd none 0, .str _ _, rfl⟩
            | ms _ _ _ _ _ _ b C cc o' hb hcc hlen hcap hnone ho =>
              rcases Nat.eq_zero_or_pos n with h0 | h0
              · have : xs = [] := List.length_eq_zero_iff.1 (by omega)
                subst this
                subst h0
                exact ⟨_, empty_run hs he hd _ _, .str _ _, rfl⟩
              · have ho2 : o' = o * 1 := by omega
                subst ho2
                obtain ⟨lc, hl, hobr⟩ := hI.obs _ _ hob
                rw [hb] at hl
                cases hl
                cases hobr with
                | buf _ _ _ _ _ _ hst hthere hC hlen1 hcell hpure hr =>
                  refine ⟨_, run_convert_bytes_arg w src e hs he b (o * 1) n cc xs hxl (fun i hi => ?_) dst hd, .str _ _, rfl⟩
                  have h1 : rows[o + i]? = some [.int .u8 (xs.getD i 0)] := by
                    have := congrArg (fun z => z[i]?) hxs
                    simp only [one_cell (show i < xs.length by omega), List.getElem?_take, List.getElem?_drop] at this
                    rwa [if_pos (by omega)] at this
                  obtain ⟨cv, h2, h3⟩ := hr (o + i) 0 _ _ h1 rfl
                  cases h3
                  simpa [cl, Nat.add_assoc] using h2
          · simp [Rd.run] at h
        · simp [Rd.run] at h
      · cases h
    · simp [Rd.run] at h
  · simp [Rd.run] at h

theorem rowsOf_get {s : ByteArray} {r j : Nat} {row : List V} {v : V} (hr : (rowsOf s)[r]? = some row) (hv : row[j]? = some v) : j = 0 ∧ r < s.size ∧ v = .int .u8 (s.data.toList.getD r 0).toNat := by
  unfold rowsOf at hr
  simp only [List.getElem?_map, Option.map_eq_some_iff] at hr
  obtain ⟨b, hb, rfl⟩ := hr
  have hlt := (List.getElem?_eq_some_iff.1 hb).1
  cases j with
  | zero =>
    simp only [List.getElem?_cons_zero, Option.some.injEq] at hv
    refine ⟨rfl, by show r < s.data.size; simpa using hlt, ?_⟩
    rw [← hv, List.getD_eq_getElem?_getD, hb]
    rfl
  | succ j => simp at hv
theorem rowsOf_len (s : ByteArray) : (rowsOf s).length = s.size := by
  unfold rowsOf
  rw [List.length_map, Array.length_toList]
  rfl
theorem rowsOf_mem {s : ByteArray} {row : List V} (h : row ∈ rowsOf s) : ∃ k : Int, row = [.int .u8 k] := by
  obtain ⟨b, _, rfl⟩ := List.mem_map.1 h
  exact ⟨_, rfl⟩

theorem toBytes_ok (hI : Inv B β F H w) {n : Nat} (hn : β n = none) {src dst e : TypeId} (hs : P.underlying src = some .string) (hd : P.underlying dst = some (.slice e)) (he : P.underlying e = some (.int .u8)) (s : ByteArray) (hsz0 : s.size ≤ 140737488355328) :
    ∃ cv w' β' F', (convert src dst (.string s)).run P w = .ok cv w' ∧ Left n B β F H w (.ms n 1 0 s.size none) [(n, some (.buf 1 (rowsOf s) false true))] cv w' β' F' := by
  have hrun := Lib.run_convert_string_bytes w src dst e s hs hd he
  have hge := grownCap_ge w s.size 0 e
  have hgm : grownCap w s.size 0 e ≤ 9223372036854775807 := grownCap_le_maxLen w _ _ _ (by simp only [maxLen]; omega)
  have hId := hI.drew
  have hF : ∀ b o, F b o → b < w.drew.heap.size := fun b o hf => (hId.froz b o hf).1
  have hcs : (Lib.bytesCells w e s).size = grownCap w s.size 0 e := by
    have hd : s.data.size = s.size := rfl
    simp only [Lib.bytesCells, Array.size_append, Array.size_map, Array.size_replicate, hd]
    omega
  generalize hg : grownCap w s.size 0 e = g at *
  have ob1 : ObRel F (w.drew.alloc (.cells (Lib.bytesCells w e s) e)) (β.set n (.at w.heap.size 1 g)) (.at w.heap.size 1 g) (.buf 1 (rowsOf s) false true) := by
    refine new_rel (w := w.drew) (by omega) (by omega) (by rw [rowsOf_len]; exact hge) (fun row hm => ?_) (fun row hm v hv => ?_) (fun _ row hm v hv => ?_) (fun r j row v hr hv => ?_) false hgm
    · obtain ⟨k, rfl⟩ := rowsOf_mem hm; rfl
    · obtain ⟨k, rfl⟩ := rowsOf_mem hm
      rw [List.mem_singleton] at hv
      subst hv; rfl
    · obtain ⟨k, rfl⟩ := rowsOf_mem hm
      rw [List.mem_singleton] at hv
      subst hv; rfl
    · obtain ⟨rfl, hlt, rfl⟩ := rowsOf_get hr hv
      have : (Lib.bytesCells w e s).getD (r * 1 + 0) undef = .int .u8 (s.data.toList.getD r 0).toNat := by
        have hd : r < s.data.size := hlt
        simp [Lib.bytesCells, Array.getD_eq_getD_getElem?, Array.getElem?_append, hd, hlt, List.getD]
      rw [this]
      exact .int _ _ _
  have hA := hId.alloc hn (lc := .at w.heap.size 1 g) rfl ob1
  have hnew := Lib.bytesWorld_at_new w e s
  have hold := fun k hk => Lib.bytesWorld_at_old w e s k hk
  have hsz : (Lib.bytesWorld w e s).heap.size = (w.drew.alloc (.cells (Lib.bytesCells w e s) e)).heap.size := by
    rw [Lib.bytesWorld_size]
    show _ = (w.heap.push _).size
    simp
  have hw2 : ∀ k, k ≠ w.heap.size → (Lib.bytesWorld w e s).heap[k]? = (w.drew.alloc (.cells (Lib.bytesCells w e s) e)).heap[k]? := fun k hk => by
    rcases Nat.lt_or_ge k w.heap.size with h | h
    · rw [hold k h]
      exact (heap_push_lt (w := w.drew) h).symm
    · rw [Array.getElem?_eq_none (by rw [Lib.bytesWorld_size]; omega), Array.getElem?_eq_none (by show (w.heap.push _).size ≤ k; simp; omega)]
  have hcl : ∀ j, cl (Lib.bytesWorld w e s) w.heap.size j = cl (w.drew.alloc (.cells (Lib.bytesCells w e s) e)) w.heap.size j := fun j => by
    have h1 := heap_push_at (w := w.drew) (o := .cells (Lib.bytesCells w e s) e)
    have h2 : (w.drew.alloc (.cells (Lib.bytesCells w e s) e)).heap[w.heap.size]? = some (.cells (Lib.bytesCells w e s) e) := h1
    simp only [cl, World.cell?, hnew, h2]
  obtain ⟨g1, g2⟩ := hA.turn (i := n) (b := w.heap.size) (oi := .buf 1 (rowsOf s) false true) (lc := .at w.heap.size 1 g) (w' := Lib.bytesWorld w e s) (by simp [Place.set]) (by rw [at?_put]; simp) rfl hw2 hsz rfl rfl rfl (fun o hf => hcl o) (ob := .buf 1 (rowsOf s) false true) (fun hx' => by
    cases ob1 with
    | buf _ _ _ _ _ _ hst hthere hC hlen1 hcell hpure hr =>
      refine .buf _ _ _ _ _ _ hst ⟨fun j hj => ?_, fun c e lo hi h => by rw [hnew] at h; cases h; omega, hthere.sm⟩ hC hlen1 hcell hpure fun r j row v hr' hv => ?_
      · have := hthere.t j hj
        refine ⟨?_, ?_⟩
        · have h1 := this.1
          have h2 : (Lib.bytesWorld w e s).cell? ⟨w.heap.size, 0 + j, none⟩ = (w.drew.alloc (.cells (Lib.bytesCells w e s) e)).cell? ⟨w.heap.size, 0 + j, none⟩ := hcl (0 + j)
          rw [h2]
          exact h1
        · simp only [World.frozen?, hnew]
          simp
          omega
      · obtain ⟨cv, q1, q2⟩ := hr r j row v hr' hv
        exact ⟨cv, by rw [hcl]; exact q1, hx'.rel q2⟩) (fun st rows frz pure hob o hf => absurd (hF _ _ hf) (by show ¬ w.heap.size < w.heap.size; omega))
  have hx0 : Ext β β F F w w.drew := ⟨fun _ _ h => h, fun _ _ h => ⟨h, rfl⟩⟩
  refine ⟨_, _, β.set n (.at w.heap.size 1 g), F, hrun, ⟨?_, ?_, (hx0.trans (alloc_ext hn hF)).trans g2, set_only hn (.head _)⟩⟩
  · exact .ms _ _ _ _ _ _ w.heap.size g g 0 (by simp [Place.set]) (by omega) hge (by simp) (by simp) (by simp)
  · refine g1.congr fun j => ?_
    simp only [Heap.puts, at?_put]
    split <;> rfl

theorem makeSlice_ok (hT : TOK P T) (hI : Inv B β F H w) {n : Nat} (hn : β n = none) {t : TypeId} {len cap : V} {clen ccap : Value} (h : (makeSliceR T n t len cap).run H l = some ((v, u), l')) (hlen : Rel F (cl w) β len clen) (hcap : Rel F (cl w) β cap ccap) :
    ∃ cv w' β' F', (Instr.makeSlice t clen ccap).run P w = .ok cv w' ∧ Left n B β F H w v u cv w' β' F' := by
  unfold makeSliceR at h
  split at h
  · rename_i ti' ht'
    split at h
    · rename_i e hk
      have hu := (hT.told ht').slice hk
      split at h
      · rename_i ti ll c hte hl hc
        split at h
        · rename_i hcond
          obtain ⟨h0, hlc, hcb, hby⟩ := hcond
          simp only [Rd.run, Option.some.injEq, Prod.mk.injEq] at h
          obtain ⟨⟨rfl, rfl⟩, _⟩ := h
          obtain ⟨k1, rfl⟩ := natOf_rel hl hlen
          obtain ⟨k2, rfl⟩ := natOf_rel hc hcap
          have hti := hT.told hte
          obtain ⟨i, z, hi, hs, hbytes, hz, hzok⟩ := hti.info
          obtain ⟨hzr, hzc, _⟩ := zOK_rel hzok F (cl w) β
          have hzs : z.cells.size = ti.size := by rw [(hzr.cells hzc).size, hti.zlen]
          have hF : ∀ b o, F b o → b < w.heap.size := fun b o hf => (hI.froz b o hf).1
          have wl : IntKind.i64.wrap (ll : Int) = ll := by rw [IntKind.wrap_i64]; omega
          have wc : IntKind.i64.wrap (c : Int) = c := by rw [IntKind.wrap_i64]; omega
          have n1 : ¬ (c : Int) < 0 := by omega
          have hbi : (ti.bytes : Int) * c ≤ 140737488355328 := by
            have : ((c * ti.bytes : Nat) : Int) ≤ 140737488355328 := Int.ofNat_le.2 hby
            rw [Int.natCast_mul, Int.mul_comm] at this
            exact this
          have n2 : ¬ (281474976710656 < (ti.bytes : Int) * c) := by omega
          have n3 : ¬ (ll : Int) < 0 := by omega
          have n4 : ¬ (c : Int) < ll := by omega
          have n5 : ¬ (140737488355328 < c * ti.bytes) := by omega
          obtain ⟨q1, q2, q3, q4, q5⟩ := zeroCells_at (F := F) (w := w.alloc (.cells (Builtin.zeroCells z.cells c) e)) (β := β.set n (.at w.heap.size ti.size c)) hti hzok (by omega) c
          have hrun : (Instr.makeSlice t (.int k1 (ll : Int)) (.int k2 (c : Int))).run P w = .ok (.slice (some ⟨w.heap.size, 0, none⟩) ll c) (w.alloc (.cells (Builtin.zeroCells z.cells c) e)) := by
            by_cases hc0 : c * ti.size = 0
            · have : c = 0 := by
                rcases Nat.mul_eq_zero.1 hc0 with h | h
                · exact h
                · exact absurd h h0
              subst this
              have hl0 : ll = 0 := by omega
              subst hl0
              have w0 : IntKind.i64.wrap 0 = 0 := by simpa using wc
              simp [Instr.makeSlice, run_underlying hu, asInt, asIntOf, typeInfo, hi, sizeOf, w0, newRow, askRoom, roomBytes, Builtin.zeroCells]
              congr 2
              apply Array.ext <;> simp
            · have hc1 : c ≠ 0 := fun e => hc0 (by rw [e, Nat.zero_mul])
              simp [Instr.makeSlice, run_underlying hu, asInt, asIntOf, typeInfo, hi, hs, hbytes, sizeOf, zeroValue, hz, wl, wc, n1, n2, n3, n4, n5, newRow, askRoom, roomBytes, Builtin.zeroCells, hzs, hc1, h0]
              exact fun h => absurd h hc0
          refine ⟨_, _, β.set n (.at w.heap.size ti.size c), F, hrun, ⟨?_, ?_, alloc_ext hn hF, set_only hn (.head _)⟩⟩
          · refine .ms _ _ _ _ _ _ w.heap.size c c 0 (by simp [Place.set]) (by omega) hlc (fun k hk => ?_) (fun hk => by omega) (.inr (by omega))
            split at hk
            · cases hk
            · cases hk; rfl
          · refine hI.alloc hn rfl (new_rel (by omega) (by rw [zeroCells_size, hzs]; exact Nat.le_refl _) (by simp) q2 (fun row hm v hv => (q3 row hm v hv).1) (fun _ row hm v hv => (q3 row hm v hv).2) (fun r j row v hr hv => ?_) false (by omega))
            have := q1 r j row v hr hv
            rwa [Array.getD_eq_getD_getElem?, ← Array.getElem?_toList, ← List.getD_eq_getElem?_getD]
        · simp [Rd.run] at h
      · simp [Rd.run] at h
    · simp [Rd.run] at h
  · simp [Rd.run] at h

/-- A text's bytes, appended. -/
theorem text_new {e : TypeId} {ti : TI} (hti : Told P e ti) (h1 : ti.size = 1) {tx : TypeId} (hk : P.underlying tx = some .string) (s : ByteArray) : NewA P e F w β 1 tx (.string s) (rowsOf s) true (byteCells s) := by
  refine ⟨?_, fun r j row v hr hv => ?_, fun row hm => ?_, fun row hm v hv => ?_, fun _ row hm v hv => ?_⟩
  · rw [rowsOf_len, ← h1]
    exact .of hti (by rw [h1]; exact Src.ofString w hk s)
  · obtain ⟨rfl, hlt, rfl⟩ := rowsOf_get hr hv
    have : (byteCells s).getD (r * 1 + 0) undef = .int .u8 (s.data.toList.getD r 0).toNat := by
      have hd : r < s.data.size := hlt
      simp [byteCells, List.getD]
      rw [Array.getElem?_eq_getElem hd]
      rfl
    show Rel F (cl w) β _ ((byteCells s).getD (r * 1 + 0) undef)
    rw [this]
    exact .int _ _ _
  · obtain ⟨k, rfl⟩ := rowsOf_mem hm; rfl
  · obtain ⟨k, rfl⟩ := rowsOf_mem hm
    rw [List.mem_singleton] at hv
    subst hv; rfl
  · obtain ⟨k, rfl⟩ := rowsOf_mem hm
    rw [List.mem_singleton] at hv
    subst hv; rfl

/-- '[]byte("..")' of a constant: the same slice; its block is marked behind its end. -/
theorem sameBytes_ok (hI : Inv B β F H w) {n : Nat} {t e : TypeId} (hu : P.underlying t = some (.slice e)) (he : P.underlying e = some (.int .u8)) {i st o len : Nat} {c : Option Nat} {cx : Value} {ob : Ob} (hob : H.at? i = some ob) (hbuf : ∃ s r f p, ob = .buf s r f p)
    (hx : Rel F (cl w) β (.ms i st o len c) cx) (hne : len ≠ 0) : ∃ w', (convert t t cx).run P w = .ok cx w' ∧ Left n B β F H w (.ms i st o len c) [] cx w' β F := by
  cases hx with
  | ms0 => exact absurd rfl hne
  | ms _ _ _ _ _ _ b C cc o' hb hcc hlen hcap hnone ho =>
    obtain ⟨lc, hl, hobr⟩ := hI.obs _ _ hob
    rw [hb] at hl
    cases hl
    obtain ⟨s0, rows, frz, pure, rfl⟩ := hbuf
    have hobr' := hobr
    cases hobr with
    | buf _ _ _ _ _ _ hst hthere hC hlen1 hcell hpure hr =>
      have hC0 : 0 < C * st := Nat.mul_pos (by omega) hst
      obtain ⟨cells, ce, lo, hi2, hw⟩ : ∃ cells ce lo hi2, w.heap[b]? = some (.cells cells ce (lo, hi2)) := by
        have := (hthere.t 0 hC0).1
        simp only [World.cell?, Nat.add_zero] at this
        split at this
        · rename_i cs ce fr hh
          exact ⟨cs, ce, fr.1, fr.2, hh⟩
        · simp at this
      have hcs : C * st ≤ cells.size := by
        have := (hthere.t (C * st - 1) (by omega)).1
        simp only [World.cell?, hw, Nat.zero_add] at this
        have h2 : C * st - 1 < cells.size := by
          rcases Nat.lt_or_ge (C * st - 1) cells.size with h | h
          · exact h
          · simp [Array.getElem?_eq_none h] at this
        omega
      have hblt : b < w.heap.size := (hI.fresh i _ b hb rfl).1
      let w2 := w.freeze ⟨b, cells.size, none⟩ 1
      have hw2 : w2.heap[b]? = some (.cells cells ce (if lo == hi2 then (cells.size, cells.size + 1) else (min lo cells.size, max hi2 (cells.size + 1)))) := by
        show (w.heap.modify b _)[b]? = _
        rw [Array.getElem?_modify]
        simp [hw]
      have hold : ∀ k, k ≠ b → w2.heap[k]? = w.heap[k]? := fun k hk => by
        show (w.heap.modify b _)[k]? = _
        rw [Array.getElem?_modify, if_neg (fun e => hk e.symm)]
      have hsz : w2.heap.size = w.heap.size := by
        show (w.heap.modify b _).size = _
        simp
      have hcl : ∀ o, cl w2 b o = cl w b o := fun o => by simp only [cl, World.cell?, hw, hw2]
      have hrun : (convert t t (.slice (some ⟨b, o', none⟩) len cc)).run P w = .ok (.slice (some ⟨b, o', none⟩) len cc) w2 := by
        have hsh : w.shape? b = some (ce, cells.size) := by simp [World.shape?, hw]
        simp [convert, run_underlying hu, run_underlying he, markStringish, hsh, w2]
      have hnf : ∀ j, j < C * st → ¬ (lo ≤ j ∧ j < hi2) := fun j hj => by
        have := (hthere.t j hj).2
        simp only [World.frozen?, hw, Nat.zero_add] at this
        simpa using this
      obtain ⟨g1, g2⟩ := hI.turn hb hob rfl hold hsz rfl rfl rfl (fun o _ => hcl o) (ob := .buf st rows frz pure) (fun hx' => by
        refine .buf _ _ _ _ _ _ hst ⟨fun j hj => ⟨?_, ?_⟩, fun c e lo' hi' h => by rw [hw2] at h; split at h <;> (cases h; omega), hthere.sm⟩ hC hlen1 hcell hpure fun r j row v hr' hv => ?_
        · have h1 := (hthere.t j hj).1
          have h2 : w2.cell? ⟨b, 0 + j, none⟩ = w.cell? ⟨b, 0 + j, none⟩ := hcl (0 + j)
          rw [h2]
          exact h1
        · simp only [World.frozen?, hw2, Nat.zero_add]
          have h3 := hnf j hj
          have h5 := hthere.fr _ _ _ _ hw
          by_cases e : lo = hi2
          · simp [e]; omega
          · have h6 : j < lo := by
              rcases Nat.lt_or_ge j lo with h | h
              · exact h
              · have := hnf lo (by omega)
                omega
            simp [e]; omega
        · obtain ⟨cv, q1, q2⟩ := hr r j row v hr' hv
          exact ⟨cv, by rw [hcl]; exact q1, hx'.rel q2⟩) (fun st' rows' frz' pure' e o hf => by
        cases e
        exact hI.prot _ _ _ _ _ _ _ _ hb hob o hf)
      refine ⟨w2, hrun, ⟨.ms _ _ _ _ _ _ b C cc o' hb hcc hlen hcap hnone ho, g1.congr fun j => ?_, g2, fun i h => absurd rfl h⟩⟩
      simp only [Heap.puts, at?_put]
      split
      · rename_i e; rw [e, hob]
      · rfl

theorem convR_ok (hT : TOK P T) (hI : Inv B β F H w) {n : Nat} (hn : β n = none) {src dst : TypeId} {x : V} {cx : Value} (h : (convR T n src dst x).run H l = some ((v, u), l')) (hx : Rel F (cl w) β x cx) :
    ∃ cv w' β' F', (convert src dst cx).run P w = .ok cv w' ∧ Left n B β F H w v u cv w' β' F' := by
  unfold convR at h
  split at h
  · rename_i a b ha hb
    split at h
    · rename_i e hka hkb
      split at h
      · rename_i hu8
        obtain ⟨cv, q1, q2, rfl⟩ := toText_ok hI ((hT.told ha).slice hka) (isU8_ok hT hu8) ((hT.told hb).str hkb) h hx
        exact ⟨cv, w, β, F, q1, Left.quiet hI q2⟩
      · simp [Rd.run] at h
    · rename_i e s hka hkb
      split at h
      · rename_i hu8
        simp only [Rd.run, Option.some.injEq, Prod.mk.injEq] at h
        obtain ⟨⟨rfl, rfl⟩, _⟩ := h
        cases hx
        exact toBytes_ok hI hn ((hT.told ha).str hka) ((hT.told hb).slice hkb) (isU8_ok hT hu8.1) s hu8.2
      · simp [Rd.run] at h
    · rename_i e1 e i st o len c hka hkb
      split at h
      · rename_i hu8
        obtain ⟨hu8, rfl⟩ := hu8
        simp only [Rd.run] at h
        split at h
        · rename_i ob hob
          split at h
          · rename_i s0 r0 f0 p0
            split at h
            · simp [Rd.run] at h
            · rename_i hne
              simp only [Rd.run, Option.some.injEq, Prod.mk.injEq] at h
              obtain ⟨⟨rfl, rfl⟩, _⟩ := h
              obtain ⟨w', q1, q2⟩ := sameBytes_ok hI (n := n) ((hT.told hb).slice hkb) (isU8_ok hT hu8) hob ⟨_, _, _, _, rfl⟩ hx hne
              exact ⟨_, w', β, F, q1, q2⟩
          · simp [Rd.run] at h
        · cases h
      · simp [Rd.run] at h
    · obtain ⟨q0, rfl, _⟩ := ok_run h
      obtain ⟨cw, q1, q2⟩ := conv_ok hT q0 hx
      exact ⟨cw, w, β, F, q1, Left.quiet hI q2⟩
  · simp [Rd.run] at h
end
end Go.Proofs.YtoggbcckkjfkhaaGreat.R
/- A key taken out of a map. -/
namespace Go.Proofs.YtoggbcckkjfkhaaGreat.R
set_option linter.unusedVariables false
set_option linter.unusedSimpArgs false
open Go Go.RowKit

section
variable {P : Program} {T : TT} (hT : TOK P T) {B : Base} {F : Froz} {w : World} {β : Place} {H : Heap} {l l' : List Nat} {v : V} {u : Upd}

theorem delKey_ok {d : TypeDesc} {k : V} {ck : Value} (hk : Rel F (cl w) β k ck) (hd : MapKept.IsKey d ck) : ∀ (es es' : List (V × V)) (ces : List MapEntry) (i : Nat), es.length = ces.length →
    (∀ (j : Nat) (e : V × V), es[j]? = some e → ∃ ce, ces[j]? = some ce ∧ Rel F (cl w) β e.1 ce.key ∧ Rel F (cl w) β e.2 ce.val) → delKey k es = some es' →
      (∃ j cv, Instr.findNow d ck ces i = some (some (i + j, cv)) ∧ es' = es.eraseIdx j ∧ j < es.length) ∨ (Instr.findNow d ck ces i = some none ∧ es' = es)
  | [], es', [], i, _, _, h => by
    simp only [delKey, Option.some.injEq] at h
    subst h
    exact .inr ⟨rfl, rfl⟩
  | [], _, _ :: _, _, hl, _, _ => by simp at hl
  | _ :: _, _, [], _, hl, _, _ => by simp at hl
  | (k', v') :: es, es', ce :: ces, i, hl, hr, h => by
    obtain ⟨ce', hce, r1, r2⟩ := hr 0 (k', v') rfl
    simp only [List.getElem?_cons_zero, Option.some.injEq] at hce
    subst hce
    have same : ∀ b, eqCell k k' = some b → Instr.sameNow d ck ce.key = some b := by
      intro b hb
      unfold eqCell at hb
      split at hb
      · cases hk; cases d <;> simp [MapKept.IsKey] at hd; simp at r1; cases hb; generalize ce.key = q at *; cases r1; rfl
      · split at hb
        · rename_i hkk
          subst hkk
          cases hk; cases d <;> simp [MapKept.IsKey] at hd
          cases hb; generalize ce.key = q at *; cases r1; simp [Instr.sameNow]
        · cases hb
      · cases hk; cases d <;> simp [MapKept.IsKey] at hd; cases hb; generalize ce.key = q at *; cases r1; rfl
      · cases hb
    simp only [delKey] at h
    split at h
    · rename_i hb
      cases h
      exact .inl ⟨0, ce.val, by simp [Instr.findNow, same _ hb], rfl, by simp⟩
    · rename_i hb
      rw [Option.map_eq_some_iff] at h
      obtain ⟨es2, h2, rfl⟩ := h
      rcases delKey_ok hk hd es es2 ces (i + 1) (by simpa using hl) (fun j e he => hr (j + 1) e he) h2 with ⟨j, cv, g1, g2, g3⟩ | ⟨g1, g2⟩
      · exact .inl ⟨j + 1, cv, by simp [Instr.findNow, same _ hb, g1]; omega, by rw [g2]; rfl, by simpa using g3⟩
      · exact .inr ⟨by simp [Instr.findNow, same _ hb, g1], by rw [g2]⟩
    · cases h

theorem erase_toList (ces : Array MapEntry) (j : Nat) : (ces.eraseIdxIfInBounds j).toList = ces.toList.eraseIdx j := by
  unfold Array.eraseIdxIfInBounds
  split
  · simp
  · rename_i h
    rw [List.eraseIdx_of_length_le (by simpa using h)]

theorem delR_ok (hT : TOK P T) {n : Nat} {t ty t2 : TypeId} {m k : V} {cm ck : Value} (hI : Inv B β F H w) (h : (delR T t m k).run H l = some ((v, u), l')) (hm : Rel F (cl w) β m cm) (hk : Rel F (cl w) β k ck) :
    ∃ cv w' β' F', (Builtin.delete_ #[t, t2] ty #[cm, ck]).run P w = .ok cv w' ∧ Left n B β F H w v u cv w' β' F' := by
  unfold delR at h
  split at h
  · rename_i ti' ht'
    split at h
    · rename_i kt et hkd
      have hu := (hT.told ht').map hkd
      split at h
      · rename_i hkey
        obtain ⟨d, hd, hisk⟩ := isKey_ok hT hkey hk
        split at h
        · simp only [Rd.run, Option.some.injEq, Prod.mk.injEq] at h
          obtain ⟨⟨rfl, rfl⟩, _⟩ := h
          cases hm
          exact ⟨.tuple #[], w, β, F, by simp [Builtin.delete_, run_underlying hu, MapKept.run_checkKey hd hisk], Left.quiet hI (.undef _ _)⟩
        · rename_i i
          simp only [Rd.run] at h
          split at h
          · rename_i ob hob
            split at h
            · rename_i es p
              split at h
              · rename_i es' hes
                simp only [Rd.run, Option.some.injEq, Prod.mk.injEq] at h
                obtain ⟨⟨rfl, rfl⟩, _⟩ := h
                cases hm with
                | map _ _ b hb =>
                  obtain ⟨lc, hl, ho⟩ := hI.obs _ _ hob
                  rw [hb] at hl
                  cases hl
                  cases ho with
                  | mp _ _ _ ces clock hw hs hpure hre =>
                    have hre' : ∀ (j : Nat) (e : V × V), es[j]? = some e → ∃ ce, ces.toList[j]? = some ce ∧ Rel F (cl w) β e.1 ce.key ∧ Rel F (cl w) β e.2 ce.val := fun j e he => by
                      have hj := (List.getElem?_eq_some_iff.1 he).1
                      obtain ⟨q1, q2⟩ := hre j e he
                      have hc : ces[j]? = some (ces[j]'(by omega)) := by simp
                      rw [Array.getD_eq_getD_getElem?, hc] at q1 q2
                      exact ⟨_, by simp, q1, q2⟩
                    have turn : ∀ ces' : Array MapEntry, ces'.size = es'.length → (∀ j e, es'[j]? = some e → Rel F (cl w) β e.1 (ces'.getD j default).key ∧ Rel F (cl w) β e.2 (ces'.getD j default).val) → (∀ e ∈ es', e ∈ es) →
                        Inv B β F (H.put i (some (.mp es' p))) { w with heap := w.heap.setIfInBounds b (.map ces' clock) } ∧ Ext β β F F w { w with heap := w.heap.setIfInBounds b (.map ces' clock) } := by
                      intro ces' q1 q2 q3
                      have hset := MapKept.heap_set (w := w) (r := b) (o' := .map ces' clock) hw
                      have hnoF : ∀ o, F b o → cl { w with heap := w.heap.setIfInBounds b (.map ces' clock) } b o = cl w b o := fun o _ => by
                        unfold cl World.cell?
                        simp only [hset.1, hw]
                      refine hI.turn (w' := { w with heap := w.heap.setIfInBounds b (.map ces' clock) }) hb hob rfl hset.2 (by simp) rfl rfl rfl hnoF (fun hx' => ?_) (fun _ _ _ _ e => by cases e)
                      exact .mp b es' _ ces' clock hset.1 q1 (fun hp e he => hpure hp e (q3 e he)) fun j e he => ⟨hx'.rel (q2 j e he).1, hx'.rel (q2 j e he).2⟩
                    rcases delKey_ok hk hisk es es' ces.toList 0 (by simp [hs]) hre' hes with ⟨j, cv, g1, g2, g3⟩ | ⟨g1, rfl⟩
                    · have hsz : (ces.eraseIdxIfInBounds j).size = es'.length := by
                        rw [← Array.length_toList, erase_toList, g2, List.length_eraseIdx_of_lt g3, List.length_eraseIdx_of_lt (by simp [hs]; exact g3)]
                        simp [hs]
                      obtain ⟨t1, t2⟩ := turn (ces.eraseIdxIfInBounds j) hsz (fun r e he => by
                          rw [g2, List.getElem?_eraseIdx] at he
                          have hget : (ces.eraseIdxIfInBounds j)[r]? = if r < j then ces[r]? else ces[r + 1]? := by
                            rw [← Array.getElem?_toList, erase_toList, List.getElem?_eraseIdx]
                            simp
                          rw [Array.getD_eq_getD_getElem?, hget]
                          split at he
                          · rename_i hlt
                            rw [if_pos hlt]
                            have := hre r e he
                            rwa [Array.getD_eq_getD_getElem?] at this
                          · rename_i hlt
                            rw [if_neg hlt]
                            have := hre (r + 1) e he
                            rwa [Array.getD_eq_getD_getElem?] at this) (fun e he => by
                          rw [g2] at he
                          exact List.mem_of_mem_eraseIdx he)
                      refine ⟨.tuple #[], _, β, F, ?_, ⟨.undef _ _, t1, t2, fun i h => absurd rfl h⟩⟩
                      simp [Builtin.delete_, run_underlying hu, MapKept.run_getObj_map hw, MapKept.run_checkKey hd hisk, MapKept.run_findKey hd g1, MapKept.run_setObj_map _ hw]
                    · obtain ⟨t1, t2⟩ := turn ces (by simp [hs]) (fun r e he => hre r e he) (fun e he => he)
                      refine ⟨.tuple #[], _, β, F, ?_, ⟨.undef _ _, t1, t2, fun i h => absurd rfl h⟩⟩
                      simp [Builtin.delete_, run_underlying hu, MapKept.run_getObj_map hw, MapKept.run_checkKey hd hisk, MapKept.run_findKey hd g1, MapKept.run_setObj_map _ hw]
              · simp [Rd.run] at h
            · simp [Rd.run] at h
          · simp at h
        · simp [Rd.run] at h
      · simp [Rd.run] at h
    · simp [Rd.run] at h
  · simp [Rd.run] at h
end
end Go.Proofs.YtoggbcckkjfkhaaGreat.R
/- Every operation. -/
namespace Go.Proofs.YtoggbcckkjfkhaaGreat.R
set_option linter.unusedVariables false
set_option linter.unusedSimpArgs false
open Go Go.RowKit

section
variable {P : Program} {T : TT} (hT : TOK P T) {B : Base} {F : Froz} {w : World} {β : Place} {H : Heap} {l l' : List Nat} {v : V} {u : Upd}

theorem call_ok {g : FuncId} {fn : Fun} (hfn : FunOK P g fn) (hI : Inv B β F H w) {n : Nat} {pfz : List Bool} {args : List V} {cargs : Array Value} (hargs : RelAll F (cl w) β args cargs)
    (h : (callR fn pfz n args).run H l = some ((v, u), l')) (hfresh : ∀ p ∈ u, n ≤ p.1 → β p.1 = none) :
    Calls P g cargs w fun e w' => ∃ cv β' F', e = .returned cv ∧ Left n B β F H w v u cv w' β' F' := by
  unfold callR at h
  obtain ⟨args', u0, l1, h1, h2, h3⟩ := frzArgs_ok hI args pfz _ l _ cargs h hargs
  obtain ⟨obs, l2, h4, h5, h6⟩ := collect_ok 4096 _ [] _ l1 _ h1 (by simp) (by simp)
  exact with_ok hfn hI h3 h2 h5 h6 h4 hfresh

theorem len_ok (hI : Inv B β F H w) {x : V} {cx : Value} {t ty : TypeId} (h : (lenR x).run H l = some ((v, u), l')) (hx : Rel F (cl w) β x cx) (ht : ∃ d, P.underlying t = some d ∧ (match x with | .str _ => d = .string | .nilm | .map _ => ∃ k e, d = .map k e | _ => ∃ e, d = .slice e)) :
    ∃ cv, (Builtin.len_ #[t] ty #[cx]).run P w = .ok cv w ∧ Rel F (cl w) β v cv ∧ u = [] := by
  obtain ⟨d, hd, hk⟩ := ht
  unfold lenR at h
  split at h
  · simp only [Rd.run, Option.some.injEq, Prod.mk.injEq] at h
    obtain ⟨⟨rfl, rfl⟩, _⟩ := h
    obtain ⟨e, rfl⟩ := hk
    cases hx
    exact ⟨_, by simp [Builtin.len_, run_underlying hd, goInt], .int _ _ _, rfl⟩
  · simp only [Rd.run, Option.some.injEq, Prod.mk.injEq] at h
    obtain ⟨⟨rfl, rfl⟩, _⟩ := h
    obtain ⟨e, rfl⟩ := hk
    cases hx with
    | fz0 => exact ⟨_, by simp [Builtin.len_, run_underlying hd, goInt], .int _ _ _, rfl⟩
    | fz => exact ⟨_, by simp [Builtin.len_, run_underlying hd, goInt], .int _ _ _, rfl⟩
  · simp only [Rd.run, Option.some.injEq, Prod.mk.injEq] at h
    obtain ⟨⟨rfl, rfl⟩, _⟩ := h
    obtain ⟨e, rfl⟩ := hk
    cases hx with
    | ms0 => exact ⟨_, by simp [Builtin.len_, run_underlying hd, goInt], .int _ _ _, rfl⟩
    | ms => exact ⟨_, by simp [Builtin.len_, run_underlying hd, goInt], .int _ _ _, rfl⟩
  · simp only [Rd.run, Option.some.injEq, Prod.mk.injEq] at h
    obtain ⟨⟨rfl, rfl⟩, _⟩ := h
    subst hk
    cases hx
    exact ⟨_, by simp [Builtin.len_, run_underlying hd, goInt], .int _ _ _, rfl⟩
  · simp only [Rd.run, Option.some.injEq, Prod.mk.injEq] at h
    obtain ⟨⟨rfl, rfl⟩, _⟩ := h
    obtain ⟨k, e, rfl⟩ := hk
    cases hx
    exact ⟨_, by simp [Builtin.len_, run_underlying hd, goInt], .int _ _ _, rfl⟩
  · rename_i i
    simp only [Rd.run] at h
    split at h
    · rename_i ob hob
      split at h
      · simp only [Rd.run, Option.some.injEq, Prod.mk.injEq] at h
        obtain ⟨⟨rfl, rfl⟩, _⟩ := h
        obtain ⟨k, e, rfl⟩ := hk
        cases hx with
        | map _ _ b hb =>
          obtain ⟨lc, hl, ho⟩ := hI.obs _ _ hob
          rw [hb] at hl
          cases hl
          cases ho with
          | mp _ _ _ ces clock hw hs =>
            exact ⟨_, by simp [Builtin.len_, run_underlying hd, MapKept.run_getObj_map hw, goInt, hs], .int _ _ _, rfl⟩
      · simp [Rd.run] at h
    · cases h
  · simp [Rd.run] at h

include hT in
theorem lenB_ok (hI : Inv B β F H w) {x : V} {cx : Value} {t ty : TypeId} (h : (lenB T t x).run H l = some ((v, u), l')) (hx : Rel F (cl w) β x cx) :
    ∃ cv, (Builtin.len_ #[t] ty #[cx]).run P w = .ok cv w ∧ Rel F (cl w) β v cv ∧ u = [] := by
  unfold lenB at h
  split at h
  · rename_i ti hti
    split at h
    · rename_i hk
      have ht := hT.told hti
      refine len_ok hI h hx ?_
      unfold lenKd at hk
      split at hk
      · exact ⟨_, ht.str ‹_›, rfl⟩
      · exact ⟨_, ht.slice ‹_›, _, rfl⟩
      · exact ⟨_, ht.slice ‹_›, _, rfl⟩
      · exact ⟨_, ht.slice ‹_›, _, rfl⟩
      · exact ⟨_, ht.map ‹_›, _, _, rfl⟩
      · exact ⟨_, ht.map ‹_›, _, _, rfl⟩
      · cases hk
    · simp [Rd.run] at h
  · simp [Rd.run] at h

include hT in
theorem capB_ok {x : V} {cx : Value} {t ty : TypeId} (h : (capB T t x).run H l = some ((v, u), l')) (hx : Rel F (cl w) β x cx) :
    ∃ cv, (Builtin.cap_ #[t] ty #[cx]).run P w = .ok cv w ∧ Rel F (cl w) β v cv ∧ u = [] := by
  unfold capB at h
  split at h
  · rename_i ti hti
    have ht := hT.told hti
    split at h
    · have hu := ht.slice ‹_›
      simp only [Rd.run, Option.some.injEq, Prod.mk.injEq] at h
      obtain ⟨⟨rfl, rfl⟩, _⟩ := h
      cases hx with
      | ms0 _ _ _ _ hb hc =>
        have := hc _ rfl
        subst this
        exact ⟨_, by simp [Builtin.cap_, run_underlying hu, goInt], .int _ _ _, rfl⟩
      | ms _ _ _ _ _ _ b C cc o hb h1 h2 h3 =>
        have := h3 _ rfl
        subst this
        exact ⟨_, by simp [Builtin.cap_, run_underlying hu, goInt], .int _ _ _, rfl⟩
    · have hu := ht.slice ‹_›
      simp only [Rd.run, Option.some.injEq, Prod.mk.injEq] at h
      obtain ⟨⟨rfl, rfl⟩, _⟩ := h
      cases hx
      exact ⟨_, by simp [Builtin.cap_, run_underlying hu, goInt], .int _ _ _, rfl⟩
    · simp [Rd.run] at h
  · simp [Rd.run] at h

include hT in
theorem appendB_ok {n : Nat} (hI : Inv B β F H w) (hn : β n = none) {s x : V} {cs cx : Value} {t t' ty : TypeId} (h : (appendB T n t t' s x).run H l = some ((v, u), l')) (hs : Rel F (cl w) β s cs) (hx : Rel F (cl w) β x cx) :
    ∃ cv w' β' F', (Builtin.append_ #[t, t'] ty #[cs, cx]).run P w = .ok cv w' ∧ Left n B β F H w v u cv w' β' F' := by
  unfold appendB at h
  split at h
  · rename_i a b ha hb
    split at h
    · rename_i e e' hka hkb
      have hu := (hT.told ha).slice hka
      have hu' := (hT.told hb).slice hkb
      split at h
      · rename_i ti hti
        split at h
        · simp [Rd.run] at h
        · rename_i h0
          obtain ⟨new, p, l1, news, h1, h2⟩ := rows_ok hI hu' (by omega) h hx
          exact append_ok hT hti (by omega) hu hI hn (h2.toA (hT.told hti)) h1 hs
      · simp [Rd.run] at h
    · rename_i e kk hka hkb
      have hu := (hT.told ha).slice hka
      have hu' := (hT.told hb).int hkb
      split at h
      · rename_i ti hti
        split at h
        · simp [Rd.run] at h
        · rename_i h0
          unfold appendZ at h
          split at h
          · rename_i k m
            split at h
            · rename_i hm
              cases hx
              obtain ⟨m, rfl⟩ := Int.eq_ofNat_of_zero_le hm.1
              obtain ⟨news, h2⟩ := zeros_new (F := F) (w := w) (β := β) (hT.told hti) (by omega) hu' k m (by simpa using hm.2.1) (by have := hm.2.2; omega)
              exact append_ok hT hti (by omega) hu hI hn h2 h hs
            · simp [Rd.run] at h
          · simp [Rd.run] at h
      · simp [Rd.run] at h
    · rename_i e hka hkb
      have hu := (hT.told ha).slice hka
      have hu' := (hT.told hb).str hkb
      split at h
      · rename_i ti y hti
        split at h
        · rename_i h1
          cases hx
          have hnew := text_new (F := F) (w := w) (β := β) (hT.told hti) h1 hu' y
          rw [← h1] at hnew
          exact append_ok hT hti (by omega) hu hI hn hnew h hs
        · simp [Rd.run] at h
      · simp [Rd.run] at h
    · simp [Rd.run] at h
  · simp [Rd.run] at h

include hT in
theorem copyB_ok {n : Nat} (hI : Inv B β F H w) {s x : V} {cs cx : Value} {t t' ty : TypeId} (h : (copyB T t t' s x).run H l = some ((v, u), l')) (hs : Rel F (cl w) β s cs) (hx : Rel F (cl w) β x cx) :
    ∃ cv w' β' F', (Builtin.copy_ #[t, t'] ty #[cs, cx]).run P w = .ok cv w' ∧ Left n B β F H w v u cv w' β' F' := by
  unfold copyB at h
  split at h
  · rename_i a b ha hb
    split at h
    · rename_i e e' hka hkb
      split at h
      · rename_i ti hti
        split at h
        · simp [Rd.run] at h
        · rename_i h0
          exact copy_ok (hT.told hti) (by omega) ((hT.told ha).slice hka) ((hT.told hb).slice hkb) hI h hs hx
      · simp [Rd.run] at h
    · simp [Rd.run] at h
  · simp [Rd.run] at h
include hT in
theorem clearB_ok {n : Nat} (hI : Inv B β F H w) {s : V} {cs : Value} {t ty : TypeId} (h : (clearB T t s).run H l = some ((v, u), l')) (hs : Rel F (cl w) β s cs) :
    ∃ cv w' β' F', (Builtin.clear_ #[t] ty #[cs]).run P w = .ok cv w' ∧ Left n B β F H w v u cv w' β' F' := by
  unfold clearB at h
  split at h
  · rename_i a ha
    split at h
    · rename_i e hka
      split at h
      · rename_i ti hti
        split at h
        · simp [Rd.run] at h
        · rename_i h0
          exact clear_ok (hT.told hti) (by omega) ((hT.told ha).slice hka) hI h hs
      · simp [Rd.run] at h
    · simp [Rd.run] at h
  · simp [Rd.run] at h

/-- What is asked of the functions. -/
structure FnsOK (P : Program) (fns : FuncId → Option AFn) : Prop where
  there : ∀ g fn, fns g = some fn → ∃ f : Func, P.funcs[g]? = some f ∧ f.body.isNone = false ∧ (f.name == "runtime.NumGoroutine") = false

theorem upon_of_calls {n : Nat} {o : Oper} {a : Act} {next : Act → World → Prop} {Q : Exit → Act → World → Prop} {g : FuncId} {args : Array Value} (h : (execOp a.eval o).run P w = .ok (.enter g args) w)
    (hc : Calls P g args w fun e w' => ∃ cv β' F', e = .returned cv ∧ Left n B β F H w v u cv w' β' F') (hn : ∀ cv w' β' F', Left n B β F H w v u cv w' β' F' → next (a.put o.dst cv) w') : o.wp P a w next Q := by
  unfold Oper.wp
  rw [h, Oper.upon_enter]
  refine hc.mono ?_
  rintro e w' ⟨cv, β', F', rfl, hl⟩
  exact hn cv w' β' F' hl

theorem optRel {e : Env} {a : Act} (he : EnvRel F w β e a.tmps) (x : Option Operand) : OptRel F (cl w) β (x.map (ev e)) (x.map a.eval) := by
  cases x with
  | none => trivial
  | some x => exact ev_rel he x

theorem partsRel {e : Env} {a : Act} (he : EnvRel F w β e a.tmps) : ∀ (ps : List (Nat × Operand)), PartsRel F (cl w) β (parts e ps) (ps.map fun p => (p.1, a.eval p.2))
  | [] => trivial
  | (i, x) :: r => ⟨rfl, ev_rel he x, partsRel he r⟩

theorem arr_one {A : Array Value} (h : A.size = 1) : A = #[A.getD 0 undef] := by
  obtain ⟨l⟩ := A
  match l, h with
  | [x], _ => rfl
theorem arr_two {A : Array Value} (h : A.size = 2) : A = #[A.getD 0 undef, A.getD 1 undef] := by
  obtain ⟨l⟩ := A
  match l, h with
  | [x, y], _ => rfl

/-- ONE OPERATION. -/
theorem aop_ok (hT : TOK P T) {cx : Cx} (hcx : cx.T = T) (hfns : FnsOK P cx.fns) (hcall : ∀ g fn, cx.fns g = some fn → FunOK P g (cx.call g)) {n : Nat} {e : Env} {o : Oper} {a : Act} (hI : Inv B β F H w) (hE : EnvRel F w β e a.tmps) (hn : β n = none)
    (h : (aop cx n e o).run H l = some ((v, u), l')) (hfresh : ∀ p ∈ u, n ≤ p.1 → β p.1 = none) {next : Act → World → Prop} {Q : Exit → Act → World → Prop} (hnext : ∀ cv w' β' F', Left n B β F H w v u cv w' β' F' → next (a.put o.dst cv) w') : o.wp P a w next Q := by
  subst hcx
  have quiet : ∀ {cv : Value} {s : Sem Value}, execOp a.eval o = (do pure (.value (← s))) → (∃ cw, s.run P w = .ok cw w ∧ Rel F (cl w) β v cw ∧ u = []) → o.wp P a w next Q := by
    rintro _ s hs ⟨cw, h1, h2, rfl⟩
    exact wp_value (by rw [hs]; simp [h1]) (hnext cw w β F (Left.quiet hI h2))
  have loud : ∀ {s : Sem Value}, execOp a.eval o = (do pure (.value (← s))) → (∃ cv w' β' F', s.run P w = .ok cv w' ∧ Left n B β F H w v u cv w' β' F') → o.wp P a w next Q := by
    rintro s hs ⟨cw, w', β', F', h1, h2⟩
    exact wp_value (by rw [hs]; simp [h1]) (hnext cw w' β' F' h2)
  have skips : ∀ {s : Sem Unit}, execOp a.eval o = (do s; pure .skip) → (∃ w' β' F', s.run P w = .ok () w' ∧ Left n B β F H w v u undef w' β' F') → o.wp P a w next Q := by
    rintro s hs ⟨w', β', F', h1, h2⟩
    exact wp_skips (by rw [hs]; simp [h1]) (hnext undef w' β' F' h2)
  have okq : ∀ {x : Option V} {s : Sem Value}, (ok x).run H l = some ((v, u), l') → execOp a.eval o = (do pure (.value (← s))) → (x = some v → ∃ cw, s.run P w = .ok cw w ∧ Rel F (cl w) β v cw) → o.wp P a w next Q := by
    intro x s hx hs hh
    obtain ⟨h1, rfl, _⟩ := ok_run hx
    obtain ⟨cw, h2, h3⟩ := hh h1
    exact quiet (cv := undef) hs ⟨cw, h2, h3, rfl⟩
  unfold aop at h
  have hx := fun x => ev_rel hE x
  split at h
  · -- move
    rename_i x hop
    simp only [Rd.run, Option.some.injEq, Prod.mk.injEq] at h
    obtain ⟨⟨rfl, rfl⟩, _⟩ := h
    exact wp_value (by unfold execOp; simp only [hop]; rfl) (hnext _ w β F (Left.quiet hI (hx x)))
  · rename_i x hop
    simp only [Rd.run, Option.some.injEq, Prod.mk.injEq] at h
    obtain ⟨⟨rfl, rfl⟩, _⟩ := h
    exact wp_value (by unfold execOp; simp only [hop]; rfl) (hnext _ w β F (Left.quiet hI (hx x)))
  · rename_i c x y hop
    obtain ⟨d, h1, h2, rfl⟩ := pick_ok h (hx c) (hx x) (hx y)
    exact wp_value (by unfold execOp; simp only [hop, h1]; simp [asBool]) (hnext _ w β F (Left.quiet hI h2))
  · rename_i t hop
    exact loud (by unfold execOp; simp only [hop]) (allocA_ok hT hI h hn)
  · rename_i t x hop
    exact loud (by unfold execOp; simp only [hop]) (box_ok (t := t) hI h (hx x) hn)
  · rename_i t x hop
    exact quiet (cv := undef) (by unfold execOp; simp only [hop]) (loadA_ok hT hI h (hx x))
  · rename_i t x y hop
    exact skips (by unfold execOp; simp only [hop]) (storeA_ok hT hI h (hx x) (hx y))
  · rename_i t ps hop
    exact quiet (cv := undef) (by unfold execOp; simp only [hop]) (build_ok hT (cps := ps.map fun (i, x) => (i, a.eval x)) h (by rw [Array.toList_map]; exact partsRel hE ps.toList))
  · rename_i t len ps hop
    exact loud (by unfold execOp; simp only [hop]) (buildSlice_ok hT (cps := ps.map fun (i, x) => (i, a.eval x)) hI h (by rw [Array.toList_map]; exact partsRel hE ps.toList) hn)
  · rename_i x hop
    obtain ⟨rfl, rfl, h1⟩ := nilCheck_ok h (hx x)
    refine wp_value (cv := a.eval x) (w' := w) ?_ (hnext _ w β F (Left.quiet hI (hx x)))
    unfold execOp
    simp only [hop]
    rcases h1 with ⟨b, hb⟩ | ⟨f, cs, hb⟩ <;> rw [hb] <;> rfl
  · rename_i op t x y yt hop
    exact okq h (by unfold execOp; simp only [hop]) fun hb => bin_ok hT hb (hx x) (hx y) x y
  · rename_i op t x hop
    exact okq h (by unfold execOp; simp only [hop]) fun hb => un_ok hb (hx x)
  · rename_i src dst x hop
    exact loud (by unfold execOp; simp only [hop]) (convR_ok hT hI hn h (hx x))
  · rename_i t len cap hop
    exact loud (by unfold execOp; simp only [hop]) (makeSlice_ok hT hI hn h (hx len) (hx cap))
  · rename_i t x hop
    exact quiet (cv := undef) (by unfold execOp; simp only [hop]) (arrayAtR_ok hT hI h (hx x))
  · rename_i f first caps hop
    split at h
    · rename_i h0
      simp only [Rd.run, Option.some.injEq, Prod.mk.injEq] at h
      obtain ⟨⟨rfl, rfl⟩, _⟩ := h
      have hf : first = #[] := Array.eq_empty_of_size_eq_zero h0
      subst hf
      have hev := evs_rel hE caps
      exact wp_value (cv := .func (.func f) #[] (caps.map a.eval)) (by unfold execOp; simp only [hop]; simp [Instr.makeFunc]) (hnext _ w β F (Left.quiet hI (.clo _ _ _ _ hev.size hev.at_)))
    · simp [Rd.run] at h
  · rename_i t hop
    simp only [Rd.run, Option.some.injEq, Prod.mk.injEq] at h
    obtain ⟨⟨rfl, rfl⟩, _⟩ := h
    exact loud (by unfold execOp; simp only [hop]; rfl) (makeMap_ok (t := t) hI hn)
  · rename_i t x lo hi mx hop
    split at h
    · simp [Rd.run] at h
    · rename_i hc
      refine quiet (cv := undef) (by unfold execOp; simp only [hop]) (sliceA_ok hT hI h (hx x) (optRel hE lo) (optRel hE hi) (optRel hE mx) fun hm hh => hc ?_)
      cases mx <;> cases hi <;> simp_all
  · rename_i t x f hop
    exact quiet (cv := undef) (by unfold execOp; simp only [hop]) (fieldAddr_ok hT h (hx x))
  · rename_i t x f hop
    exact quiet (cv := undef) (by unfold execOp; simp only [hop]) (field_ok hT h (hx x))
  · rename_i t x i hop
    exact quiet (cv := undef) (by unfold execOp; simp only [hop]) (indexAddrA_ok hT hI h (hx x) (hx i))
  · rename_i t x i hop
    exact quiet (cv := undef) (by unfold execOp; simp only [hop]) (indexA_ok hT h (hx x) (hx i))
  · rename_i t m k cok hop
    exact quiet (cv := undef) (by unfold execOp; simp only [hop]) (lookup_ok hT hI h (hx m) (hx k))
  · rename_i t m k x hop
    exact skips (by unfold execOp; simp only [hop]) (mapUpdate_ok hT hI h (hx m) (hx k) (hx x))
  · rename_i x i hop
    exact quiet (cv := undef) (by unfold execOp; simp only [hop]) (extract_ok h (hx x))
  · rename_i c hop
    have hargs := evs_rel hE c.args
    split at h
    · -- a builtin
      rename_i b hb
      have hexec : ∀ s : Sem Value, (∀ consts, builtin b c.argTypes o.type consts (c.args.map a.eval) = do pure (.value (← s))) → (execOp a.eval o).run P w = (do pure (Next.value (← s)) : Sem Next).run P w := by
        intro s hs
        unfold execOp
        simp only [hop, resolve, hb]
        rw [Sem.run_bind, Sem.run_pure]
        simp only [Result.andThen_ok, invoke]
        rw [hs]
      have sz : ∀ k, (evs e c.args.toList).length = k → (c.args.map a.eval).size = k := fun k hk => by rw [hargs.size, hk]
      have one : ∀ x, evs e c.args.toList = [x] → c.args.map a.eval = #[(c.args.map a.eval).getD 0 undef] := fun x hxs => arr_one (sz 1 (by rw [hxs]; rfl))
      have two : ∀ x y, evs e c.args.toList = [x, y] → c.args.map a.eval = #[(c.args.map a.eval).getD 0 undef, (c.args.map a.eval).getD 1 undef] := fun x y hxs => arr_two (sz 2 (by rw [hxs]; rfl))
      unfold builtinR at h
      split at h
      · rename_i t x ht hxs
        have h1 : c.argTypes = #[t] := by apply Array.ext'; simpa using ht
        obtain ⟨cv, q1, q2, rfl⟩ := lenB_ok hT hI (ty := o.type) h (hargs.at_ 0 x (by rw [hxs]; rfl))
        refine wp_value (cv := cv) (w' := w) ?_ (hnext _ w β F (Left.quiet hI q2))
        rw [hexec (Builtin.len_ c.argTypes o.type (c.args.map a.eval)) (fun _ => rfl), h1, one x hxs]
        rw [Sem.run_bind, q1]
        rfl
      · rename_i t x ht hxs
        have h1 : c.argTypes = #[t] := by apply Array.ext'; simpa using ht
        obtain ⟨cv, q1, q2, rfl⟩ := capB_ok hT (ty := o.type) (P := P) h (hargs.at_ 0 x (by rw [hxs]; rfl))
        refine wp_value (cv := cv) (w' := w) ?_ (hnext _ w β F (Left.quiet hI q2))
        rw [hexec (Builtin.cap_ c.argTypes o.type (c.args.map a.eval)) (fun _ => rfl), h1, one x hxs]
        rw [Sem.run_bind, q1]
        rfl
      · rename_i x y hxs
        obtain ⟨q0, rfl, _⟩ := ok_run h
        obtain ⟨cv, q1, q2⟩ := max2_ok (P := P) q0 (hargs.at_ 0 x (by rw [hxs]; rfl)) (hargs.at_ 1 y (by rw [hxs]; rfl))
        refine wp_value (cv := cv) (w' := w) ?_ (hnext _ w β F (Left.quiet hI q2))
        rw [hexec (Builtin.max_ c.argTypes o.type (c.args.map a.eval)) (fun _ => rfl), two x y hxs]
        have q1' : (Builtin.max_ c.argTypes o.type #[(c.args.map a.eval).getD 0 undef, (c.args.map a.eval).getD 1 undef]).run P w = .ok cv w := q1
        rw [Sem.run_bind, q1']
        rfl
      · rename_i x y hxs
        obtain ⟨q0, rfl, _⟩ := ok_run h
        obtain ⟨cv, q1, q2⟩ := min2_ok (P := P) q0 (hargs.at_ 0 x (by rw [hxs]; rfl)) (hargs.at_ 1 y (by rw [hxs]; rfl))
        refine wp_value (cv := cv) (w' := w) ?_ (hnext _ w β F (Left.quiet hI q2))
        rw [hexec (Builtin.min_ c.argTypes o.type (c.args.map a.eval)) (fun _ => rfl), two x y hxs]
        have q1' : (Builtin.min_ c.argTypes o.type #[(c.args.map a.eval).getD 0 undef, (c.args.map a.eval).getD 1 undef]).run P w = .ok cv w := q1
        rw [Sem.run_bind, q1']
        rfl
      · rename_i t t' x y ht hxs
        have h1 : c.argTypes = #[t, t'] := by apply Array.ext'; simpa using ht
        obtain ⟨cv, w', β', F', q1, q2⟩ := appendB_ok hT hI hn (ty := o.type) h (hargs.at_ 0 x (by rw [hxs]; rfl)) (hargs.at_ 1 y (by rw [hxs]; rfl))
        refine wp_value (cv := cv) (w' := w') ?_ (hnext _ w' β' F' q2)
        rw [hexec (Builtin.append_ c.argTypes o.type (c.args.map a.eval)) (fun _ => rfl), h1, two x y hxs]
        rw [Sem.run_bind, q1]
        rfl
      · rename_i t t' x y ht hxs
        have h1 : c.argTypes = #[t, t'] := by apply Array.ext'; simpa using ht
        obtain ⟨cv, w', β', F', q1, q2⟩ := copyB_ok hT hI (n := n) (ty := o.type) h (hargs.at_ 0 x (by rw [hxs]; rfl)) (hargs.at_ 1 y (by rw [hxs]; rfl))
        refine wp_value (cv := cv) (w' := w') ?_ (hnext _ w' β' F' q2)
        rw [hexec (Builtin.copy_ c.argTypes o.type (c.args.map a.eval)) (fun _ => rfl), h1, two x y hxs]
        rw [Sem.run_bind, q1]
        rfl
      · rename_i t x ht hxs
        have h1 : c.argTypes = #[t] := by apply Array.ext'; simpa using ht
        obtain ⟨cv, w', β', F', q1, q2⟩ := clearB_ok hT hI (n := n) (ty := o.type) h (hargs.at_ 0 x (by rw [hxs]; rfl))
        refine wp_value (cv := cv) (w' := w') ?_ (hnext _ w' β' F' q2)
        rw [hexec (Builtin.clear_ c.argTypes o.type (c.args.map a.eval)) (fun _ => rfl), h1, one x hxs]
        rw [Sem.run_bind, q1]
        rfl
      · rename_i t t' x y ht hxs
        have h1 : c.argTypes = #[t, t'] := by apply Array.ext'; simpa using ht
        obtain ⟨cv, w', β', F', q1, q2⟩ := delR_ok hT (n := n) (ty := o.type) (t2 := t') hI h (hargs.at_ 0 x (by rw [hxs]; rfl)) (hargs.at_ 1 y (by rw [hxs]; rfl))
        refine wp_value (cv := cv) (w' := w') ?_ (hnext _ w' β' F' q2)
        rw [hexec (Builtin.delete_ c.argTypes o.type (c.args.map a.eval)) (fun _ => rfl), h1, two x y hxs]
        rw [Sem.run_bind, q1]
        rfl
      · simp [Rd.run] at h
    · -- a function
      rename_i f hf
      unfold callV at h
      split at h
      · rename_i g caps hev
        split at h
        · rename_i fn hfn
          have hrf := hx f
          rw [hev] at hrf
          generalize hcf : a.eval f = cf at hrf
          cases hrf with
          | clo _ _ _ cvs hs hr =>
            obtain ⟨Fn, k1, k2, k3⟩ := hfns.there g fn hfn
            have hargs2 : RelAll F (cl w) β (evs e c.args.toList ++ caps) (c.args.map a.eval ++ cvs) := ⟨by simp [hargs.size, hs], fun j v hj => by
              by_cases hlt : j < (evs e c.args.toList).length
              · rw [List.getElem?_append_left hlt] at hj
                rw [Array.getD_eq_getD_getElem?, Array.getElem?_append_left (by rw [hargs.size]; exact hlt), ← Array.getD_eq_getD_getElem?]
                exact hargs.at_ j v hj
              · rw [List.getElem?_append_right (by omega)] at hj
                rw [Array.getD_eq_getD_getElem?, Array.getElem?_append_right (by rw [hargs.size]; omega), ← Array.getD_eq_getD_getElem?, hargs.size]
                exact hr _ v hj⟩
            refine upon_of_calls (g := g) (args := c.args.map a.eval ++ cvs) ?_ (call_ok (hcall g fn hfn) hI hargs2 h hfresh) hnext
            unfold execOp
            simp only [hop, resolve, hf, hcf, Deferred.ofValue]
            rw [Sem.run_bind, Sem.run_pure]
            have k3' : ¬ Fn.name = "runtime.NumGoroutine" := by simpa using k3
            have k2' : ¬ Fn.body = none := by intro hb; rw [hb] at k2; cases k2
            simp [invoke, callFunc, k1, k2', k3']
        · simp [Rd.run] at h
      · simp [Rd.run] at h
    · simp [Rd.run] at h
  · simp [Rd.run] at h
end

end Go.Proofs.YtoggbcckkjfkhaaGreat.R
/- Regions: in the text's order, and in whatever order is drawn. -/
namespace Go.Proofs.YtoggbcckkjfkhaaGreat.R
set_option linter.unusedVariables false
set_option linter.unusedSimpArgs false
open Go Go.RowKit

theorem put_len : ∀ (h : Heap) (i : Nat) (o : Option Ob), h.length ≤ (h.put i o).length ∧ i < (h.put i o).length
  | [], 0, o => by simp [Heap.put]
  | [], i + 1, o => by have := put_len [] i o; simp [Heap.put]; omega
  | x :: h, 0, o => by simp [Heap.put]
  | x :: h, i + 1, o => by have := put_len h i o; simp [Heap.put]; omega

theorem puts_len : ∀ (u : Upd) (h : Heap), h.length ≤ (h.puts u).length ∧ ∀ p ∈ u, p.1 < (h.puts u).length
  | [], h => by simp [Heap.puts]
  | (i, o) :: r, h => by
    obtain ⟨h1, h2⟩ := puts_len r (h.put i o)
    obtain ⟨h3, h4⟩ := put_len h i o
    simp only [Heap.puts]
    refine ⟨by omega, fun p hp => ?_⟩
    cases hp with
    | head => show i < _; omega
    | tail _ hp => exact h2 p hp

/-- What is asked of the program. -/
structure CxOK (P : Program) (cx : Cx) : Prop where
  types : TOK P cx.T
  fns : FnsOK P cx.fns
  call : ∀ g fn, cx.fns g = some fn → FunOK P g (cx.call g)

/-- The machine's state beside Go's. -/
structure Sim (B : Base) (β0 : Place) (ntmps : Nat) (ds : List Deferred) (s : St) (a : Act) (w : World) (β : Place) (F : Froz) : Prop where
  inv : Inv B β F s.heap w
  env : EnvRel F w β s.env a.tmps
  defers : a.defers = ds
  size : a.tmps.size = ntmps
  fresh : ∀ i, s.heap.length ≤ i → β i = none
  ext : Ext β0 β B.F0 F B.w0 w

section
variable {P : Program} {cx : Cx} {B : Base} {β0 : Place} {ntmps : Nat} {ds : List Deferred}

theorem putDst_env {F : Froz} {w : World} {β : Place} {e e' : Env} {a : Act} {d : Option Tmp} {v : V} {cv : Value} (hE : EnvRel F w β e a.tmps) (hs : a.tmps.size = ntmps) (hv : Rel F (cl w) β v cv) (h : putDst ntmps e d v = some e') :
    EnvRel F w β e' (a.put d cv).tmps ∧ (a.put d cv).tmps.size = ntmps ∧ (a.put d cv).defers = a.defers ∧ ∀ t, lk e' t = if d = some t then v else lk e t := by
  unfold putDst at h
  cases d with
  | none =>
    simp only [Option.some.injEq] at h
    subst h
    exact ⟨hE, hs, rfl, fun t => by simp⟩
  | some d =>
    simp only at h
    split at h
    · rename_i hd
      simp only [Option.some.injEq] at h
      subst h
      refine ⟨fun t => ?_, by simp [Act.put, hs], rfl, fun t => by rw [lk_cons]; simp⟩
      rw [lk_cons]
      simp only [Act.put]
      rw [Array.getD_eq_getD_getElem?]
      by_cases e1 : d = t
      · subst e1
        rw [if_pos rfl, Array.getElem?_setIfInBounds_self_of_lt (by rw [hs]; exact hd)]
        exact hv
      · rw [if_neg e1, Array.getElem?_setIfInBounds_ne e1, ← Array.getD_eq_getD_getElem?]
        exact hE t
    · cases h

theorem wanted_of {F : Froz} {w : World} {β : Place} {ops : Array Oper} {e : Env} {a : Act} (hE : EnvRel F w β e a.tmps) {o : Oper} {b : Bool} (h : wants ops e o = some b) : Region.wanted o (yielded ops a.tmps) = b := by
  unfold wants at h
  unfold Region.wanted
  cases hg : o.guard with
  | none =>
    simp only [hg, Option.some.injEq] at h
    simp [h]
  | some p =>
    obtain ⟨j, want⟩ := p
    simp only [hg] at h
    split at h
    · rename_i hsk
      cases h
      unfold skipped at hsk
      unfold yielded
      cases hd : (ops[j]?).bind (·.dst) with
      | none => simp [hd] at hsk
      | some t =>
        simp only [hd] at hsk
        have hr := hE t
        have hlk : lk e t = .tup [] := by
          unfold isSkip at hsk
          split at hsk
          · rename_i h; exact h
          · cases hsk
        rw [hlk] at hr
        have hu : a.tmps.getD t undef = .tuple #[] := by
          generalize a.tmps.getD t undef = cv at hr
          cases hr with
          | tup _ _ cvs hs _ => simp at hs; rw [hs]
        have : a.tmps[t]? = some (.tuple #[]) ∨ a.tmps[t]? = none := by
          rw [Array.getD_eq_getD_getElem?] at hu
          cases ht : a.tmps[t]? with
          | none => exact .inr rfl
          | some x => rw [ht] at hu; simp at hu; exact .inl (by rw [hu])
        simp only [hd, Option.bind_some]
        rcases this with h | h <;> rw [h] <;> cases want <;> rfl
    simp only [Option.map_eq_some_iff] at h
    obtain ⟨y, hy, rfl⟩ := h
    unfold yields at hy
    unfold yielded
    cases hd : (ops[j]?).bind (·.dst) with
    | none => simp [hd] at hy
    | some t =>
      simp only [hd] at hy
      have hr := hE t
      split at hy
      · rename_i b hb
        cases hy
        rw [hb] at hr
        have : a.tmps[t]? = some (.bool y) := by
          rw [Array.getD_eq_getD_getElem?] at hr
          cases ht : a.tmps[t]? with
          | none => rw [ht] at hr; simp [undef] at hr; cases hr
          | some x => rw [ht] at hr; simp at hr; cases hr; rfl
        simp only [Option.bind_some, hd, this]
        cases y <;> cases want <;> rfl
      · cases hy

theorem Sim.next {s : St} {a : Act} {w : World} {β : Place} {F : Froz} (hS : Sim B β0 ntmps ds s a w β F) {v : V} {u : Upd} {cv : Value} {w' : World} {β' : Place} {F' : Froz} (hL : Left s.heap.length B β F s.heap w v u cv w' β' F') {d : Option Tmp} {e' : Env} (he : putDst ntmps s.env d v = some e') :
    Sim B β0 ntmps ds { env := e', heap := s.heap.puts u } (a.put d cv) w' β' F' := by
  obtain ⟨h1, h2, h3, h4⟩ := putDst_env (hL.ext.env hS.env) hS.size hL.rel he
  refine ⟨hL.inv, h1, by rw [h3, hS.defers], h2, fun i hi => ?_, hS.ext.trans hL.ext⟩
  obtain ⟨k1, k2⟩ := puts_len u s.heap
  have : β' i = β i := by
    apply Classical.byContradiction
    intro hne
    obtain ⟨_, _, o, ho⟩ := hL.only i hne
    have := k2 _ ho
    simp only at hi this
    omega
  rw [this]
  exact hS.fresh i (by simp only at hi; omega)

theorem Sim.skip {s : St} {a : Act} {w : World} {β : Place} {F : Froz} (hS : Sim B β0 ntmps ds s a w β F) {d : Option Tmp} {e' : Env} (he : putDst ntmps s.env d (.tup []) = some e') : Sim B β0 ntmps ds { env := e', heap := s.heap } (a.put d undef) w β F := by
  obtain ⟨h1, h2, h3, h4⟩ := putDst_env hS.env hS.size (show Rel F (cl w) β (.tup []) undef from .tup β [] #[] rfl (by simp)) he
  exact ⟨hS.inv, h1, by rw [h3, hS.defers], h2, hS.fresh, hS.ext⟩

/-- In the text's order. -/
theorem ops_ok (hcx : CxOK P cx) {ops : Array Oper} {Q : Exit → Act → World → Prop} : ∀ (k : Nat) (rest : List Oper) (s s' : St) (a : Act) (w : World) (β : Place) (F : Froz), ops.toList.drop k = rest → runOps cx ntmps ops rest s = some s' → Sim B β0 ntmps ds s a w β F →
    (∀ a' w' β' F', Sim B β0 ntmps ds s' a' w' β' F' → Q .normal a' w') → wpOps P ops Q ((List.range ops.size).drop k) a w
  | k, [], s, s', a, w, β, F, hk, h, hS, hQ => by
    have hl : ops.size ≤ k := by simpa using hk
    rw [List.drop_of_length_le (by simpa using hl)]
    simp only [runOps, Option.some.injEq] at h
    subst h
    exact hQ _ _ _ _ hS
  | k, o :: r, s, s', a, w, β, F, hk, h, hS, hQ => by
    have hlt : k < ops.size := by
      rcases Nat.lt_or_ge k ops.size with h | h
      · exact h
      · rw [List.drop_of_length_le (by simpa using h)] at hk; cases hk
    have ho : ops[k]? = some o := by
      have : (ops.toList.drop k)[0]? = some o := by rw [hk]; rfl
      rw [List.getElem?_drop] at this
      simpa using this
    have hr : ops.toList.drop (k + 1) = r := by rw [← List.drop_drop, hk]; rfl
    have hd : (List.range ops.size).drop k = k :: (List.range ops.size).drop (k + 1) := by
      rw [List.drop_eq_getElem_cons (by simpa using hlt)]
      simp
    rw [hd, wpOps_cons]
    unfold wpOp
    simp only [ho]
    simp only [runOps] at h
    split at h
    · cases h
    · rename_i hw
      rw [wanted_of hS.env hw]
      simp only [Option.bind_eq_some_iff] at h
      obtain ⟨e', he, h⟩ := h
      simp only [Bool.false_eq_true, if_false]
      exact ops_ok hcx (k + 1) r _ s' _ _ β F hr h (hS.skip he) hQ
    · rename_i hw
      rw [wanted_of hS.env hw]
      simp only [if_true]
      left
      split at h
      · cases h
      · rename_i v u l hrun
        simp only [Option.bind_eq_some_iff] at h
        obtain ⟨e', he, h⟩ := h
        refine aop_ok hcx.types rfl hcx.fns hcx.call hS.inv hS.env (hS.fresh _ (Nat.le_refl _)) hrun (fun p _ hp => hS.fresh _ hp) fun cv w' β' F' hL => ?_
        exact ops_ok hcx (k + 1) r _ s' _ _ β' F' hr h (hS.next hL he) hQ

/-! What an operation looks at. -/
theorem run_local {α : Type} : ∀ (r : Rd α) (H H' : Heap) (l l' : List Nat) (x : α), r.run H l = some (x, l') → (∀ i ∈ l', H'.at? i = H.at? i) → r.run H' l = some (x, l') := by
  intro r
  induction r with
  | pure a => intro H H' l l' x h _; simpa [Rd.run] using h
  | fail => intro H H' l l' x h _; simp [Rd.run] at h
  | get i k ih =>
    intro H H' l l' x h hl
    simp only [Rd.run] at h ⊢
    cases ho : H.at? i with
    | none => simp [ho] at h
    | some o =>
      simp only [ho] at h
      have sub : ∀ (r : Rd α) (l l' : List Nat), r.run H l = some (x, l') → ∀ i ∈ l, i ∈ l' := by
        intro r
        induction r with
        | pure a => intro l l' h i hi; simp [Rd.run] at h; exact h.2 ▸ hi
        | fail => intro l l' h; simp [Rd.run] at h
        | get j k ih =>
          intro l l' h i hi
          simp only [Rd.run] at h
          split at h
          · exact ih _ _ _ h i (.tail _ hi)
          · cases h
      rw [hl i (sub _ _ _ h i (.head _)), ho]
      exact ih o H H' _ _ x h hl

theorem ev_congr {e e' : Env} {x : Operand} (h : ∀ t, x = .tmp t → lk e t = lk e' t) : ev e x = ev e' x := by
  cases x with
  | tmp t => exact h t rfl
  | _ => rfl

theorem evs_congr {e e' : Env} : ∀ {xs : List Operand}, (∀ x ∈ xs, ∀ t, x = .tmp t → lk e t = lk e' t) → evs e xs = evs e' xs
  | [], _ => rfl
  | x :: r, h => by simp only [evs]; rw [ev_congr (h x (.head _)), evs_congr fun y hy => h y (.tail _ hy)]

theorem parts_congr {e e' : Env} : ∀ {xs : List (Nat × Operand)}, (∀ x ∈ xs, ∀ t, x.2 = .tmp t → lk e t = lk e' t) → parts e xs = parts e' xs
  | [], _ => rfl
  | (i, x) :: r, h => by simp only [parts]; rw [ev_congr (h (i, x) (.head _)), parts_congr fun y hy => h y (.tail _ hy)]

theorem aop_congr {n : Nat} {e e' : Env} {o : Oper} (h : ∀ t, Operand.tmp t ∈ o.op.operands → lk e t = lk e' t) : aop cx n e o = aop cx n e' o := by
  have one : ∀ x, x ∈ o.op.operands → ev e x = ev e' x := fun x hx => ev_congr fun t ht => h t (ht ▸ hx)
  unfold aop
  cases hop : o.op <;> simp only [hop, Op.operands] at one h <;> try simp only
  case move x => rw [one x (by simp)]
  case assign x => rw [one x (by simp)]
  case pick c a b => rw [one c (by simp), one a (by simp), one b (by simp)]
  case box t x => rw [one x (by simp)]
  case build t ps => rw [parts_congr (e' := e') fun x hx t ht => h t (by rw [← ht]; simp; exact ⟨x.1, by simpa using hx⟩)]
  case buildSlice t n ps => rw [parts_congr (e' := e') fun x hx t ht => h t (by rw [← ht]; simp; exact ⟨x.1, by simpa using hx⟩)]
  case makeMap t r => cases r <;> rfl
  case load t x => rw [one x (by simp)]
  case store t x y => rw [one x (by simp), one y (by simp)]
  case nilCheck x => rw [one x (by simp)]
  case binOp op t x y yt => rw [one x (by simp), one y (by simp)]
  case unOp op t x => rw [one x (by simp)]
  case convert s d x => rw [one x (by simp)]
  case sliceToArrayPointer d x => rw [one x (by simp)]
  case makeSlice t a b => rw [one a (by simp), one b (by simp)]
  case makeFunc fn first caps =>
    cases fn <;> simp only
    split
    · rw [evs_congr (e' := e') fun x hx t ht => h t (by rw [← ht]; simp; right; simpa using hx)]
    · rfl
  case slice t x lo hi mx =>
    have opt : ∀ (y : Option Operand), (∀ z, y = some z → z ∈ #[x] ++ lo.toArray ++ hi.toArray ++ mx.toArray) → y.map (ev e) = y.map (ev e') := fun y hy => by
      cases y with
      | none => rfl
      | some z => simp only [Option.map_some]; rw [one z (hy z rfl)]
    rw [one x (by simp), opt lo (fun z hz => by simp [hz]), opt hi (fun z hz => by simp [hz]), opt mx (fun z hz => by simp [hz])]
  case fieldAddr t x f => rw [one x (by simp)]
  case field t x f => rw [one x (by simp)]
  case indexAddr t x y => rw [one x (by simp), one y (by simp)]
  case index t x y => rw [one x (by simp), one y (by simp)]
  case lookup t x y c => rw [one x (by simp), one y (by simp)]
  case mapUpdate t x y z => rw [one x (by simp), one y (by simp), one z (by simp)]
  case extract x i => rw [one x (by simp)]
  case call c =>
    have hargs : evs e c.args.toList = evs e' c.args.toList := evs_congr fun x hx t ht => h t (by rw [← ht]; simp [Call.operands]; right; simpa using hx)
    cases hc : c.callee with
    | value f => simp only; rw [hargs, one f (by simp [Call.operands, hc])]
    | invoke r m => rfl
    | builtin b => simp only; rw [hargs]

/-! In whatever order. -/
/-- What became of an operation that is done in the text's order. -/
def Step (cx : Cx) (ntmps : Nat) (ops : Array Oper) (o : Oper) (s : St) (d : Did) (s' : St) : Prop :=
  wants ops s.env o = some d.want ∧ (∃ e, putDst ntmps s.env o.dst d.val = some e ∧ s'.env = e) ∧
  ((d.want = false ∧ d.val = .tup [] ∧ d.upd = [] ∧ d.reads = [] ∧ s'.heap = s.heap) ∨
   (d.want = true ∧ (aop cx s.heap.length s.env o).run s.heap [] = some ((d.val, d.upd), d.reads) ∧ s'.heap = Heap.pad (s.heap.length + 1) (s.heap.puts d.upd)))

theorem draw_steps {ops : Array Oper} {bef : Array Nat} : ∀ (l : List Oper) (j : Nat) (s s' : St) (done : List Did), runDraw cx ntmps ops bef l j s done = some s' → done.length = j →
    ∃ (st : Nat → St) (dd : Nat → Did), st 0 = s ∧ st l.length = s' ∧ ∀ k o, l[k]? = some o → Step cx ntmps ops o (st k) (dd k) (st (k + 1)) ∧
      ((dd k).want = true → ∀ i di, (if i < j then done[i]? else if i < j + k then some (dd (i - j)) else none) = some di → clash di (dd k) = true → (bef.getD (j + k) 0).testBit i = true)
  | [], j, s, s', done, h, hj => by
    simp only [runDraw, Option.some.injEq] at h
    exact ⟨fun _ => s, fun _ => ⟨false, .tup [], [], []⟩, rfl, h, by simp⟩
  | o :: l, j, s, s', done, h, hj => by
    have glue : ∀ (d : Did) (s1 : St), Step cx ntmps ops o s d s1 → (d.want = true → apart bef done j d = true) → runDraw cx ntmps ops bef l (j + 1) s1 (done ++ [d]) = some s' →
        ∃ (st : Nat → St) (dd : Nat → Did), st 0 = s ∧ st (o :: l).length = s' ∧ ∀ k o', (o :: l)[k]? = some o' → Step cx ntmps ops o' (st k) (dd k) (st (k + 1)) ∧
          ((dd k).want = true → ∀ i di, (if i < j then done[i]? else if i < j + k then some (dd (i - j)) else none) = some di → clash di (dd k) = true → (bef.getD (j + k) 0).testBit i = true) := by
      intro d s1 hstep hap hrest
      obtain ⟨st, dd, h1, h2, h3⟩ := draw_steps l (j + 1) s1 s' (done ++ [d]) hrest (by simp [hj])
      refine ⟨fun k => match k with | 0 => s | k + 1 => st k, fun k => match k with | 0 => d | k + 1 => dd k, rfl, h2, fun k o' hk => ?_⟩
      cases k with
      | zero =>
        simp only [List.getElem?_cons_zero, Option.some.injEq] at hk
        subst hk
        refine ⟨by simpa only [h1] using hstep, fun hw i di hi hcl => ?_⟩
        simp only [Nat.add_zero] at hi ⊢
        by_cases hij : i < j
        · rw [if_pos hij] at hi
          have := hap hw
          unfold apart at this
          simp only [List.all_eq_true] at this
          have := this (di, i) (by
            rw [List.mem_zipIdx_iff_getElem?]
            exact hi)
          simp only [hcl, Bool.not_true, Bool.false_or] at this
          exact this
        · rw [if_neg hij, if_neg hij] at hi
          cases hi
      | succ k =>
        obtain ⟨g1, g2⟩ := h3 k o' (by simpa using hk)
        refine ⟨g1, fun hw i di hi hcl => ?_⟩
        have := g2 hw i di (by
          by_cases hij : i < j
          · rw [if_pos hij] at hi
            rw [if_pos (by omega), List.getElem?_append_left (by omega)]
            exact hi
          · rw [if_neg hij] at hi
            split at hi
            · rename_i hik
              by_cases he : i = j
              · subst he
                rw [if_pos (by omega), List.getElem?_append_right (by omega)]
                simp only [hj, Nat.sub_self] at hi ⊢
                simpa using hi
              · rw [if_neg (by omega), if_pos (by omega)]
                obtain ⟨m, hm⟩ : ∃ m, i - j = m + 1 := ⟨i - j - 1, by omega⟩
                simp only [hm] at hi
                rw [show i - (j + 1) = m by omega]
                exact hi
            · cases hi) hcl
        rwa [show j + 1 + k = j + (k + 1) by omega] at this
    simp only [runDraw] at h
    split at h
    · cases h
    · rename_i hw
      simp only [Option.bind_eq_some_iff] at h
      obtain ⟨e, he, h⟩ := h
      exact glue ⟨false, .tup [], [], []⟩ { env := e, heap := s.heap } ⟨hw, ⟨e, he, rfl⟩, .inl ⟨rfl, rfl, rfl, rfl, rfl⟩⟩ (fun h => by cases h) h
    · rename_i hw
      split at h
      · cases h
      · rename_i v u lr hrun
        split at h
        · rename_i hap
          simp only [Option.bind_eq_some_iff] at h
          obtain ⟨e, he, h⟩ := h
          exact glue ⟨true, v, u, lr⟩ _ ⟨hw, ⟨e, he, rfl⟩, .inr ⟨rfl, hrun, rfl⟩⟩ (fun _ => hap) h
        · cases h

/-- What objects become: 'some none': gone. -/
def eff : Upd → Nat → Option (Option Ob)
  | [], _ => none
  | (i, o) :: r, m => match eff r m with
    | some x => some x
    | none => if i = m then some o else none

theorem puts_eff : ∀ (u : Upd) (h : Heap) (m : Nat), (h.puts u).at? m = match eff u m with | some x => x | none => h.at? m
  | [], h, m => rfl
  | (i, o) :: r, h, m => by
    simp only [Heap.puts, eff]
    rw [puts_eff r _ m]
    cases eff r m with
    | some x => rfl
    | none =>
      simp only
      rw [at?_put]
      by_cases e : m = i
      · subst e; simp
      · rw [if_neg e, if_neg (fun q => e q.symm)]

theorem eff_mem : ∀ {u : Upd} {m : Nat}, eff u m ≠ none → ∃ p ∈ u, p.1 = m
  | [], m, h => absurd rfl h
  | (i, o) :: r, m, h => by
    simp only [eff] at h
    split at h
    · rename_i x hx
      obtain ⟨p, h1, h2⟩ := eff_mem (u := r) (m := m) (by rw [hx]; simp)
      exact ⟨p, .tail _ h1, h2⟩
    · split at h
      · rename_i e
        exact ⟨(i, o), .head _, e⟩
      · exact absurd rfl h

theorem mem_eff : ∀ {u : Upd} {p : Nat × Option Ob}, p ∈ u → eff u p.1 ≠ none
  | [], p, h => by cases h
  | (i, o) :: r, p, h => by
    simp only [eff]
    cases hr : eff r p.1 with
    | some x => simp
    | none =>
      cases h with
      | head => simp
      | tail _ h => exact absurd hr (mem_eff h)

theorem at?_pad (n : Nat) (h : Heap) (m : Nat) : (Heap.pad n h).at? m = h.at? m := by
  unfold Heap.pad
  split
  · rw [at?_eq, at?_eq]
    by_cases hm : m < h.length
    · rw [List.getElem?_append_left hm]
    · rw [List.getElem?_append_right (by omega), List.getElem?_eq_none (Nat.le_of_not_lt hm)]
      by_cases h0 : m - h.length = 0
      · rw [h0]; rfl
      · rw [List.getElem?_eq_none (by simp; omega)]
  · rfl

theorem pad_len (n : Nat) (h : Heap) (hl : n ≤ h.length + 1) : h.length ≤ (Heap.pad n h).length ∧ n ≤ (Heap.pad n h).length := by
  unfold Heap.pad
  split
  · simp; omega
  · omega

/-- An object behind those operations of the first 'k' that are in 'S'. -/
def HV (dd : Nat → Did) (H0 : Heap) (S : Nat → Bool) : Nat → Nat → Option Ob
  | 0, m => H0.at? m
  | k + 1, m => if S k then (match eff (dd k).upd m with | some x => x | none => HV dd H0 S k m) else HV dd H0 S k m

/-- A slot behind them. -/
def EV (ops : Array Oper) (dd : Nat → Did) (e0 : Env) (S : Nat → Bool) : Nat → Nat → V
  | 0, t => lk e0 t
  | k + 1, t => if S k && ((ops[k]?).bind (·.dst) == some t) then (dd k).val else EV ops dd e0 S k t

def dstOf (ops : Array Oper) (k : Nat) : Option Tmp := (ops[k]?).bind (·.dst)

theorem HV_agree {dd : Nat → Did} {H0 : Heap} {S S' : Nat → Bool} {m : Nat} : ∀ {k : Nat}, (∀ i, i < k → eff (dd i).upd m ≠ none → S i = S' i) → HV dd H0 S k m = HV dd H0 S' k m
  | 0, _ => rfl
  | k + 1, h => by
    simp only [HV]
    rw [HV_agree (k := k) fun i hi => h i (by omega)]
    by_cases he : eff (dd k).upd m = none
    · rw [he]; simp
    · rw [h k (by omega) he]

theorem HV_drop {dd : Nat → Did} {H0 : Heap} {S : Nat → Bool} {m j : Nat} : ∀ {k : Nat}, j ≤ k → (∀ i, j ≤ i → i < k → S i = true → eff (dd i).upd m = none) → HV dd H0 S k m = HV dd H0 S j m
  | 0, hj, _ => by rw [show j = 0 by omega]
  | k + 1, hj, h => by
    by_cases e : j = k + 1
    · rw [e]
    · simp only [HV]
      rw [HV_drop (k := k) (by omega) fun i h1 h2 => h i h1 (by omega)]
      split
      · rename_i hs
        rw [h k (by omega) (by omega) hs]
      · rfl

theorem EV_agree {ops : Array Oper} {dd : Nat → Did} {e0 : Env} {S S' : Nat → Bool} {t : Nat} : ∀ {k : Nat}, (∀ i, i < k → dstOf ops i = some t → S i = S' i) → EV ops dd e0 S k t = EV ops dd e0 S' k t
  | 0, _ => rfl
  | k + 1, h => by
    simp only [EV]
    rw [EV_agree (k := k) fun i hi => h i (by omega)]
    by_cases he : dstOf ops k = some t
    · rw [h k (by omega) he]
    · have : ((ops[k]?).bind (·.dst) == some t) = false := by
        unfold dstOf at he
        simpa using he
      rw [this]
      simp

theorem EV_drop {ops : Array Oper} {dd : Nat → Did} {e0 : Env} {S : Nat → Bool} {t j : Nat} : ∀ {k : Nat}, j ≤ k → (∀ i, j ≤ i → i < k → S i = true → dstOf ops i ≠ some t) → EV ops dd e0 S k t = EV ops dd e0 S j t
  | 0, hj, _ => by rw [show j = 0 by omega]
  | k + 1, hj, h => by
    by_cases e : j = k + 1
    · rw [e]
    · simp only [EV]
      rw [EV_drop (k := k) (by omega) fun i h1 h2 => h i h1 (by omega)]
      split
      · rename_i hs
        simp only [Bool.and_eq_true, beq_iff_eq] at hs
        exact absurd hs.2 (h k (by omega) (by omega) hs.1)
      · rfl
end

/-! What is told to be ahead of an operation. -/
def Bits (ops : List Oper) (acc : Array Nat) : Prop := ∀ (j i : Nat), (acc.getD j 0).testBit i = true → ∃ o e, ops[j]? = some o ∧ e ∈ o.after ∧ Region.binds .any e = true ∧ (e.on = i ∨ (acc.getD e.on 0).testBit i = true)

theorem bits_fold (acc : Array Nat) (i : Nat) : ∀ (es : List Edge) (s : Nat), (es.foldl (fun s e => if Region.binds .any e then s ||| 2 ^ e.on ||| acc.getD e.on 0 else s) s).testBit i = true →
    s.testBit i = true ∨ ∃ e ∈ es, Region.binds .any e = true ∧ (e.on = i ∨ (acc.getD e.on 0).testBit i = true)
  | [], s, h => .inl h
  | e :: es, s, h => by
    simp only [List.foldl_cons] at h
    rcases bits_fold acc i es _ h with h | ⟨e', h1, h2⟩
    · split at h
      · rename_i hb
        rw [Nat.testBit_or, Nat.testBit_or, Bool.or_eq_true, Bool.or_eq_true] at h
        rcases h with (h | h) | h
        · exact .inl h
        · rw [Nat.testBit_two_pow] at h
          exact .inr ⟨e, .head _, hb, .inl (by simpa using h)⟩
        · exact .inr ⟨e, .head _, hb, .inr h⟩
      · exact .inl h
    · exact .inr ⟨e', .tail _ h1, h2⟩

theorem bits_push {pre : List Oper} {acc : Array Nat} (hs : acc.size = pre.length) (h : Bits pre acc) (o : Oper) :
    Bits (pre ++ [o]) (acc.push (o.after.foldl (fun s e => if Region.binds .any e then s ||| 2 ^ e.on ||| acc.getD e.on 0 else s) 0)) := by
  intro j i hj
  have low : ∀ k x, (acc.getD k 0).testBit x = true → ((acc.push (o.after.foldl (fun s e => if Region.binds .any e then s ||| 2 ^ e.on ||| acc.getD e.on 0 else s) 0)).getD k 0).testBit x = true := by
    intro k x hk
    by_cases hlt : k < acc.size
    · rw [Array.getD_eq_getD_getElem?, Array.getElem?_push, if_neg (by omega), ← Array.getD_eq_getD_getElem?]
      exact hk
    · rw [Array.getD_eq_getD_getElem?, Array.getElem?_eq_none (by omega)] at hk
      simp at hk
  by_cases hlt : j < acc.size
  · rw [Array.getD_eq_getD_getElem?, Array.getElem?_push, if_neg (by omega), ← Array.getD_eq_getD_getElem?] at hj
    obtain ⟨o', e, h1, h2, h3, h4⟩ := h j i hj
    refine ⟨o', e, by rw [List.getElem?_append_left (by omega)]; exact h1, h2, h3, ?_⟩
    rcases h4 with h4 | h4
    · exact .inl h4
    · exact .inr (low _ _ h4)
  · by_cases he : j = acc.size
    · subst he
      rw [Array.getD_eq_getD_getElem?, Array.getElem?_push, if_pos rfl] at hj
      simp only [Option.getD_some] at hj
      rw [← Array.foldl_toList] at hj
      rcases bits_fold acc i o.after.toList 0 hj with h | ⟨e, h1, h2, h3⟩
      · simp at h
      · refine ⟨o, e, by rw [hs]; simp, by simpa using h1, h2, ?_⟩
        rcases h3 with h3 | h3
        · exact .inl h3
        · exact .inr (low _ _ h3)
    · rw [Array.getD_eq_getD_getElem?, Array.getElem?_eq_none (by simp; omega)] at hj
      simp at hj

theorem before_bits (ops : Array Oper) : Bits ops.toList (Region.before ops) := by
  unfold Region.before
  rw [← Array.foldl_toList]
  have key : ∀ (l pre : List Oper) (acc : Array Nat), acc.size = pre.length → Bits pre acc → Bits (pre ++ l) (l.foldl (fun acc o => acc.push (o.after.foldl (fun s e => if Region.binds .any e then s ||| 2 ^ e.on ||| acc.getD e.on 0 else s) 0)) acc) := by
    intro l
    induction l with
    | nil => intro pre acc _ h; simpa using h
    | cons o l ih =>
      intro pre acc hs h
      have := ih (pre ++ [o]) _ (by simp [hs]) (bits_push hs h o)
      simpa using this
  simpa using key ops.toList [] #[] rfl (by intro j i h; simp at h)

/-- What is asked of a region that draws its order. -/
def drawOK (ops : Array Oper) : Bool :=
  (List.range ops.size).all fun j => match ops[j]? with
    | none => false
    | some o => (o.after.toList.all fun e => !Region.binds .any e || decide (e.on < j)) &&
        (List.range j).all fun i => match ops[i]? with
          | some p => Oper.apart ops p o || ((Region.before ops).getD j 0).testBit i
          | none => false

theorem looks_of {ops : Array Oper} {o : Oper} {t : Tmp} (h : Operand.tmp t ∈ o.op.operands) : t ∈ o.looksAt ops := by
  unfold Oper.looksAt
  refine List.mem_append_left _ ?_
  rw [List.mem_filterMap]
  exact ⟨.tmp t, by simpa using h, rfl⟩

section
variable {P : Program} {cx : Cx} {B : Base} {β0 : Place} {ntmps : Nat} {ds : List Deferred}

theorem draw_core (hcx : CxOK P cx) {ops : Array Oper} (hd : drawOK ops = true) {Q : Exit → Act → World → Prop} {s : St} {st : Nat → St} {dd : Nat → Did} (h0 : st 0 = s)
    (hsteps : ∀ k o, ops[k]? = some o → Step cx ntmps ops o (st k) (dd k) (st (k + 1)) ∧ ((dd k).want = true → ∀ i, i < k → clash (dd i) (dd k) = true → ((Region.before ops).getD k 0).testBit i = true))
    (hQ : ∀ a' w' β' F', Sim B β0 ntmps ds (st ops.size) a' w' β' F' → Q .normal a' w') :
    ∀ (fuel : Nat) (listed : Array Bool) (a : Act) (w : World) (β : Place) (F : Froz) (HS : Heap), listed.size = ops.size → ((List.range ops.size).filter fun i => !listed.getD i false).length ≤ fuel →
      (∀ j o e, listed.getD j false = true → ops[j]? = some o → e ∈ o.after → Region.binds .any e = true → listed.getD e.on false = true) →
      Inv B β F HS w → (∀ m, HS.at? m = HV dd s.heap (listed.getD · false) ops.size m) → (∀ t, Rel F (cl w) β (EV ops dd s.env (listed.getD · false) ops.size t) (a.tmps.getD t undef)) → a.defers = ds → a.tmps.size = ntmps →
      (∀ m, (st ops.size).heap.length ≤ m → β m = none) → (∀ j, j < ops.size → listed.getD j false = false → ∀ m, (st j).heap.length ≤ m → m < (st (j + 1)).heap.length → β m = none) → Ext β0 β B.F0 F B.w0 w →
      wpAny P .any ops Q fuel listed a w := by
  -- the text's order
  have hdj : ∀ j o, ops[j]? = some o → (∀ e ∈ o.after, Region.binds .any e = true → e.on < j) ∧ ∀ i p, i < j → ops[i]? = some p → Oper.apart ops p o = true ∨ ((Region.before ops).getD j 0).testBit i = true := by
    intro j o ho
    have hlt := (Array.getElem?_eq_some_iff.1 ho).1
    unfold drawOK at hd
    simp only [List.all_eq_true, List.mem_range] at hd
    have := hd j hlt
    rw [ho] at this
    simp only [Bool.and_eq_true, List.all_eq_true, List.mem_range] at this
    refine ⟨fun e he hb => ?_, fun i p hi hp => ?_⟩
    · have := this.1 e (by simpa using he)
      simpa [hb] using this
    · have := this.2 i hi
      rw [hp] at this
      simpa using this
  have there : ∀ j, j < ops.size → ∃ o, ops[j]? = some o := fun j hj => ⟨ops[j], by simp [hj]⟩
  have hlen : ∀ k, k < ops.size → (st k).heap.length ≤ (st (k + 1)).heap.length ∧ ((dd k).want = true → (st k).heap.length + 1 ≤ (st (k + 1)).heap.length) ∧ ∀ p ∈ (dd k).upd, p.1 < (st (k + 1)).heap.length := by
    intro k hk
    obtain ⟨o, ho⟩ := there k hk
    obtain ⟨⟨_, _, h⟩, _⟩ := hsteps k o ho
    rcases h with ⟨h1, _, h3, _, h4⟩ | ⟨h1, h2, h3⟩
    · rw [h4, h3]
      refine ⟨Nat.le_refl _, fun h => ?_, by simp⟩
      rw [h1] at h
      cases h
    · have h5 := puts_len (dd k).upd (st k).heap
      have h6 := pad_len ((st k).heap.length + 1) ((st k).heap.puts (dd k).upd) (by omega)
      rw [h3]
      exact ⟨by omega, fun _ => h6.2, fun p hp => by have := h5.2 p hp; omega⟩
  have hmono : ∀ j k, j ≤ k → k ≤ ops.size → (st j).heap.length ≤ (st k).heap.length := by
    intro j k hjk
    induction k with
    | zero => intro _; rw [show j = 0 by omega]; exact Nat.le_refl _
    | succ k ih =>
      intro hk
      by_cases e : j = k + 1
      · rw [e]; exact Nat.le_refl _
      · exact Nat.le_trans (ih (by omega) (by omega)) (hlen k (by omega)).1
  have cH : ∀ k, k ≤ ops.size → ∀ m, (st k).heap.at? m = HV dd s.heap (fun _ => true) k m := by
    intro k
    induction k with
    | zero => intro _ m; rw [h0]; rfl
    | succ k ih =>
      intro hk m
      obtain ⟨o, ho⟩ := there k (by omega)
      obtain ⟨⟨_, _, h⟩, _⟩ := hsteps k o ho
      simp only [HV, if_true]
      rcases h with ⟨h1, _, h3, _, h4⟩ | ⟨h1, h2, h3⟩
      · rw [h4, h3, ih (by omega)]; rfl
      · rw [h3, at?_pad, puts_eff]
        cases eff (dd k).upd m with
        | some x => rfl
        | none => exact ih (by omega) m
  have cE : ∀ k, k ≤ ops.size → ∀ t, lk (st k).env t = EV ops dd s.env (fun _ => true) k t := by
    intro k
    induction k with
    | zero => intro _ t; rw [h0]; rfl
    | succ k ih =>
      intro hk t
      obtain ⟨o, ho⟩ := there k (by omega)
      obtain ⟨⟨_, ⟨e, he, h5⟩, _⟩, _⟩ := hsteps k o ho
      simp only [EV, ho, Option.bind_some, Bool.true_and]
      rw [h5]
      have : lk e t = if o.dst = some t then (dd k).val else lk (st k).env t := by
        unfold putDst at he
        split at he
        · rename_i hdst
          simp only [Option.some.injEq] at he
          subst he
          simp [hdst]
        · rename_i d hdst
          split at he
          · simp only [Option.some.injEq] at he
            subst he
            rw [lk_cons, hdst]
            simp
          · cases he
      rw [this]
      by_cases e1 : o.dst = some t
      · simp [e1]
      · simp [e1, ih (by omega)]
  intro fuel
  induction fuel with
  | zero =>
    intro listed a w β F HS hsz hcnt hcl hI hH hE hde hsize hf1 hf2 hext
    have all : ∀ j, j < ops.size → listed.getD j false = true := by
      intro j hj
      have h0' : ((List.range ops.size).filter fun i => !listed.getD i false) = [] := List.eq_nil_of_length_eq_zero (by omega)
      rw [List.filter_eq_nil_iff] at h0'
      have := h0' j (by simpa using hj)
      simpa using this
    refine ⟨?_, ?_⟩
    · rw [Region.ready, List.filter_eq_nil_iff]
      intro j hj
      have := all j (by simpa using hj)
      have hj' : j < listed.size := by rw [hsz]; simpa using hj
      have h2 : listed.getD j true = true := by
        rw [Array.getD_eq_getD_getElem?] at this ⊢
        rw [Array.getElem?_eq_getElem hj'] at this ⊢
        exact this
      simp [h2]
    · refine hQ a w β F ⟨hI.congr fun m => ?_, fun t => ?_, hde, hsize, hf1, hext⟩
      · rw [cH ops.size (Nat.le_refl _), hH]
        exact (HV_agree fun i hi _ => by rw [all i hi]).symm
      · rw [cE ops.size (Nat.le_refl _)]
        have := hE t
        rwa [EV_agree (S' := fun _ => true) fun i hi _ => all i hi] at this
  | succ fuel ih =>
    intro listed a w β F HS hsz hcnt hcl hI hH hE hde hsize hf1 hf2 hext
    -- what is ahead of an operation that is done, or may be done now, is done
    have ahead : ∀ j, (listed.getD j false = true ∨ ∃ o, ops[j]? = some o ∧ ∀ e ∈ o.after, Region.binds .any e = true → listed.getD e.on false = true) → ∀ i, ((Region.before ops).getD j 0).testBit i = true → listed.getD i false = true := by
      intro j
      induction j using Nat.strongRecOn with
      | _ j ihj =>
        intro hj i hi
        obtain ⟨o, e, h1, h2, h3, h4⟩ := before_bits ops j i hi
        have h1' : ops[j]? = some o := by simpa using h1
        have hon : listed.getD e.on false = true := by
          rcases hj with hj | ⟨o', ho', hj⟩
          · exact hcl j o e hj h1' h2 h3
          · rw [h1'] at ho'
            cases ho'
            exact hj e h2 h3
        rcases h4 with h4 | h4
        · exact h4 ▸ hon
        · exact ihj e.on ((hdj j o h1').1 e h2 h3) (.inl hon) i h4
    refine ⟨fun hready => ?_, fun j hj => ?_⟩
    · -- nothing may be done any more: all is done
      have all : ∀ j, j < ops.size → listed.getD j false = true := by
        intro j
        induction j using Nat.strongRecOn with
        | _ j ihj =>
          intro hj
          apply Classical.byContradiction
          intro hno
          obtain ⟨o, ho⟩ := there j hj
          have : j ∈ Region.ready .any ops listed := by
            rw [Region.ready, List.mem_filter]
            refine ⟨by simpa using hj, ?_⟩
            have hj' : j < listed.size := by rw [hsz]; exact hj
            have h2 : listed.getD j true = false := by
              rw [Array.getD_eq_getD_getElem?] at hno ⊢
              rw [Array.getElem?_eq_getElem hj'] at hno ⊢
              simpa using hno
            simp only [h2, ho, Bool.not_false, Option.map_some, Option.getD_some, Bool.true_and]
            rw [Array.all_eq_true_iff_forall_mem]
            intro e he
            by_cases hb : Region.binds .any e = true
            · simp only [hb, Bool.not_true, Bool.false_or]
              have := (hdj j o ho).1 e he hb
              exact ihj e.on this (by omega)
            · simp [hb]
          rw [hready] at this
          cases this
      refine hQ a w β F ⟨hI.congr fun m => ?_, fun t => ?_, hde, hsize, hf1, hext⟩
      · rw [cH ops.size (Nat.le_refl _), hH]
        exact (HV_agree fun i hi _ => by rw [all i hi]).symm
      · rw [cE ops.size (Nat.le_refl _)]
        have := hE t
        rwa [EV_agree (S' := fun _ => true) fun i hi _ => all i hi] at this
    · -- one more
      rw [Region.ready, List.mem_filter] at hj
      obtain ⟨hjr, hjc⟩ := hj
      have hjlt : j < ops.size := by simpa using hjr
      obtain ⟨o, ho⟩ := there j hjlt
      simp only [ho, Option.map_some, Option.getD_some, Bool.and_eq_true, Bool.not_eq_true'] at hjc
      obtain ⟨hnl, hedges⟩ := hjc
      have hjs : j < listed.size := by rw [hsz]; exact hjlt
      have hnj : listed.getD j false = false := by
        rw [Array.getD_eq_getD_getElem?] at hnl ⊢
        rw [Array.getElem?_eq_getElem hjs] at hnl ⊢
        exact hnl
      have hedges' : ∀ e ∈ o.after, Region.binds .any e = true → listed.getD e.on false = true := fun e he hb => by
        have := Array.all_eq_true_iff_forall_mem.1 hedges e he
        simpa [hb] using this
      have ahj := ahead j (.inr ⟨o, ho, hedges'⟩)
      have behind : ∀ k, listed.getD k false = true → ((Region.before ops).getD k 0).testBit j = true → False := fun k hk hb => by
        have := ahead k (.inl hk) j hb
        rw [hnj] at this
        cases this
      obtain ⟨⟨hw, ⟨e2, he2, he3⟩, hstep⟩, hcl2⟩ := hsteps j o ho
      -- slots
      have slot : ∀ t, t ∈ o.looksAt ops → EV ops dd s.env (listed.getD · false) ops.size t = lk (st j).env t := by
        intro t ht
        rw [cE j (by omega)]
        rw [EV_drop (j := j) (by omega) fun i h1 h2 hS => ?_]
        · refine EV_agree fun i hi hdst => ?_
          obtain ⟨p, hp⟩ := there i (by omega)
          rcases (hdj j o ho).2 i p hi hp with h | h
          · obtain ⟨g1, _, _⟩ := Oper.apart_spec h
            exact absurd ht (g1 t (by simpa [dstOf, hp] using hdst))
          · exact ahj i h
        · intro hdst
          by_cases e1 : i = j
          · subst e1
            rw [hnj] at hS
            cases hS
          · obtain ⟨p, hp⟩ := there i h2
            rcases (hdj i p hp).2 j o (by omega) ho with h | h
            · obtain ⟨_, _, g3⟩ := Oper.apart_spec h
              exact g3 t (by simpa [dstOf, hp] using hdst) ht
            · exact behind i hS h
      let e' : Env := (o.looksAt ops).map fun t => (t, EV ops dd s.env (listed.getD · false) ops.size t)
      have he' : ∀ t, t ∈ o.looksAt ops → lk e' t = lk (st j).env t := by
        intro t ht
        rw [← slot t ht]
        have key : ∀ l : List Tmp, t ∈ l → lk (l.map fun t => (t, EV ops dd s.env (listed.getD · false) ops.size t)) t = EV ops dd s.env (listed.getD · false) ops.size t := by
          intro l
          induction l with
          | nil => intro h; cases h
          | cons x r ih =>
            intro h
            simp only [List.map_cons]
            rw [lk_cons]
            by_cases e1 : x = t
            · rw [if_pos e1, e1]
            · rw [if_neg e1]
              cases h with
              | head => exact absurd rfl e1
              | tail _ h => exact ih h
        exact key _ ht
      have hE' : EnvRel F w β e' a.tmps := by
        intro t
        have key : ∀ l : List Tmp, Rel F (cl w) β (lk (l.map fun t => (t, EV ops dd s.env (listed.getD · false) ops.size t)) t) (a.tmps.getD t undef) := by
          intro l
          induction l with
          | nil => exact .undef _ _
          | cons x r ih =>
            simp only [List.map_cons]
            rw [lk_cons]
            by_cases e1 : x = t
            · rw [if_pos e1, e1]; exact hE t
            · rw [if_neg e1]; exact ih
        exact key _
      have hw' : wants ops e' o = some (dd j).want := by
        rw [← hw]
        unfold wants
        cases hg : o.guard with
        | none => rfl
        | some p =>
          obtain ⟨g, wn⟩ := p
          simp only
          unfold skipped yields
          cases hdg : (ops[g]?).bind (·.dst) with
          | none => rfl
          | some t =>
            simp only
            rw [he' t (by
              unfold Oper.looksAt
              refine List.mem_append_right _ ?_
              simp [hg, hdg])]
      have hfresh' : ∀ m, (st j).heap.length ≤ m → m < (st (j + 1)).heap.length → β m = none := hf2 j hjlt hnj
      unfold wpOp
      simp only [ho]
      rw [wanted_of hE' hw']
      -- behind it
      have goOn : ∀ (cv : Value) (u : Upd) (w' : World) (β' : Place) (F' : Froz), u = (dd j).upd → Left (st j).heap.length B β F HS w (dd j).val u cv w' β' F' → ((dd j).want = false → u = []) → wpAny P .any ops Q fuel (listed.setIfInBounds j true) (a.put o.dst cv) w' := by
        intro cv u w' β' F' hu hL hwant
        subst hu
        have hset : ∀ i, (listed.setIfInBounds j true).getD i false = if i = j then true else listed.getD i false := by
          intro i
          rw [Array.getD_eq_getD_getElem?, Array.getElem?_setIfInBounds]
          by_cases e1 : j = i
          · subst e1; simp [hjs]
          · rw [if_neg e1, if_neg (fun q => e1 q.symm), ← Array.getD_eq_getD_getElem?]
        refine ih (listed.setIfInBounds j true) (a.put o.dst cv) w' β' F' (HS.puts (dd j).upd) (by simp [hsz]) ?_ ?_ hL.inv ?_ ?_ ?_ ?_ ?_ ?_ (hext.trans hL.ext)
        · -- fewer are left
          have e1 : ((List.range ops.size).filter fun i => !(listed.setIfInBounds j true).getD i false).length < ((List.range ops.size).filter fun i => !listed.getD i false).length := by
            have sub : ∀ l : List Nat, (l.filter fun i => !(listed.setIfInBounds j true).getD i false).length ≤ (l.filter fun i => !listed.getD i false).length ∧ (j ∈ l → (l.filter fun i => !(listed.setIfInBounds j true).getD i false).length < (l.filter fun i => !listed.getD i false).length) := by
              intro l
              induction l with
              | nil => simp
              | cons x r ih =>
                simp only [List.filter_cons, hset x]
                by_cases e2 : x = j
                · subst e2
                  simp only [if_true, Bool.not_true, Bool.false_eq_true, if_false, hnj, Bool.not_false, List.length_cons]
                  exact ⟨by omega, fun _ => by omega⟩
                · rw [if_neg e2]
                  refine ⟨?_, fun hm => ?_⟩
                  · split
                    · simp only [List.length_cons]; omega
                    · exact ih.1
                  · have := ih.2 (by cases hm with | head => exact absurd rfl e2 | tail _ h => exact h)
                    split
                    · simp only [List.length_cons]; omega
                    · exact this
            exact (sub _).2 (by simpa using hjlt)
          omega
        · intro k p e hk hp he hb
          rw [hset] at hk ⊢
          by_cases e1 : e.on = j
          · rw [if_pos e1]
          · rw [if_neg e1]
            by_cases e2 : k = j
            · subst e2
              rw [ho] at hp
              cases hp
              exact hedges' e he hb
            · rw [if_neg e2] at hk
              exact hcl k p e hk hp he hb
        · intro m
          rw [puts_eff]
          by_cases hem : eff (dd j).upd m = none
          · rw [hem, hH]
            refine HV_agree fun i hi hei => ?_
            simp only [hset]
            rw [if_neg]
            rintro rfl
            exact hei hem
          · obtain ⟨x, hx⟩ := Option.ne_none_iff_exists'.1 hem
            rw [hx]
            rw [HV_drop (j := j + 1) (by omega) fun k h1 h2 hS => ?_]
            · simp only [HV, hset, if_true, hx]
            · apply Classical.byContradiction
              intro hek
              simp only [hset] at hS
              rw [if_neg (by omega)] at hS
              obtain ⟨p, hp⟩ := there k h2
              obtain ⟨p1, q1, q2⟩ := eff_mem hem
              obtain ⟨p2, q3, q4⟩ := eff_mem hek
              have hwk : (dd k).want = true := by
                obtain ⟨⟨_, _, hk⟩, _⟩ := hsteps k p hp
                rcases hk with ⟨_, _, h3, _⟩ | ⟨h1, _⟩
                · rw [h3] at q3; cases q3
                · exact h1
              have hcla : clash (dd j) (dd k) = true := by
                unfold clash Did.touches
                simp only [Bool.or_eq_true, List.any_eq_true]
                exact .inl ⟨p1, q1, .inr ⟨p2, q3, by simp [q2, q4]⟩⟩
              exact behind k hS ((hsteps k p hp).2 hwk j (by omega) hcla)
        · intro t
          have hr := hL.ext.rel (hE t)
          have hput : (a.put o.dst cv).tmps.getD t undef = if o.dst = some t ∧ t < a.tmps.size then cv else a.tmps.getD t undef := by
            unfold Act.put
            cases hdst : o.dst with
            | none => simp
            | some d =>
              simp only
              rw [Array.getD_eq_getD_getElem?, Array.getElem?_setIfInBounds]
              by_cases e1 : d = t
              · subst e1
                by_cases e3 : d < a.tmps.size
                · simp [e3]
                · simp [e3]
              · simp [e1]
          rw [hput]
          by_cases e1 : o.dst = some t
          · have hlt : t < a.tmps.size := by
              rw [hsize]
              apply Classical.byContradiction
              intro hno
              unfold putDst at he2
              rw [e1] at he2
              simp only [if_neg hno] at he2
              cases he2
            rw [if_pos ⟨e1, hlt⟩]
            rw [EV_drop (j := j + 1) (by omega) fun k h1 h2 hS => ?_]
            · simp only [EV, hset, if_true, ho, Option.bind_some, e1, beq_self_eq_true, Bool.and_self]
              exact hL.rel
            · intro hdk
              simp only [hset] at hS
              rw [if_neg (by omega)] at hS
              obtain ⟨p, hp⟩ := there k h2
              rcases (hdj k p hp).2 j o (by omega) ho with h | h
              · obtain ⟨_, g2, _⟩ := Oper.apart_spec h
                exact g2 t e1 (by simpa [dstOf, hp] using hdk)
              · exact behind k hS h
          · rw [if_neg (fun h => e1 h.1)]
            rw [EV_agree (S' := (listed.getD · false)) fun i hi hdi => ?_]
            · exact hr
            · simp only [hset]
              rw [if_neg]
              rintro rfl
              exact e1 (by simpa [dstOf, ho] using hdi)
        · rw [← hde]
          unfold Act.put
          split <;> rfl
        · rw [← hsize]
          unfold Act.put
          split <;> simp
        · intro m hm
          have : β' m = β m := by
            apply Classical.byContradiction
            intro hne
            obtain ⟨_, _, x, hx⟩ := hL.only m hne
            have h1 := (hlen j hjlt).2.2 _ hx
            have h2 := hmono (j + 1) ops.size (by omega) (Nat.le_refl _)
            simp only at h1
            omega
          rw [this]
          exact hf1 m hm
        · intro k hk hkn m hm1 hm2
          rw [hset] at hkn
          by_cases e1 : k = j
          · rw [if_pos e1] at hkn; cases hkn
          · rw [if_neg e1] at hkn
            have : β' m = β m := by
              apply Classical.byContradiction
              intro hne
              obtain ⟨h1, _, x, hx⟩ := hL.only m hne
              have h2 := (hlen j hjlt).2.2 _ hx
              simp only at h2
              rcases Nat.lt_or_gt_of_ne e1 with hlt | hgt
              · have := hmono (k + 1) j (by omega) (by omega)
                omega
              · have := hmono (j + 1) k (by omega) (by omega)
                omega
            rw [this]
            exact hf2 k hk hkn m hm1 hm2
      rcases hstep with ⟨hwf, hval, hupd, _, _⟩ | ⟨hwt, hrun, _⟩
      · rw [hwf]
        simp only [Bool.false_eq_true, if_false]
        exact goOn undef [] w β F hupd.symm ⟨by rw [hval]; exact .tup _ [] #[] rfl (by simp), by simpa [Heap.puts] using hI, Ext.refl _ _ _, fun i h => absurd rfl h⟩ (fun _ => rfl)
      · rw [hwt]
        simp only [if_true]
        left
        have hrun' : (aop cx (st j).heap.length e' o).run HS [] = some (((dd j).val, (dd j).upd), (dd j).reads) := by
          rw [aop_congr (e' := (st j).env) fun t ht => he' t (looks_of ht)]
          refine run_local _ _ _ _ _ _ hrun fun m hm => ?_
          rw [hH, cH j (by omega)]
          rw [HV_drop (j := j) (by omega) fun i h1 h2 hS => ?_]
          · refine HV_agree fun i hi hei => ?_
            obtain ⟨p1, q1, q2⟩ := eff_mem hei
            have hcla : clash (dd i) (dd j) = true := by
              unfold clash Did.touches
              simp only [Bool.or_eq_true, List.any_eq_true]
              exact .inl ⟨p1, q1, .inl (by rw [q2]; simpa using hm)⟩
            exact ahj i (hcl2 hwt i hi hcla)
          · apply Classical.byContradiction
            intro hei
            by_cases e1 : i = j
            · subst e1
              rw [hnj] at hS
              cases hS
            · obtain ⟨p, hp⟩ := there i h2
              obtain ⟨p1, q1, q2⟩ := eff_mem hei
              have hwi : (dd i).want = true := by
                obtain ⟨⟨_, _, hk⟩, _⟩ := hsteps i p hp
                rcases hk with ⟨_, _, h3, _⟩ | ⟨h1, _⟩
                · rw [h3] at q1; cases q1
                · exact h1
              have hcla : clash (dd j) (dd i) = true := by
                unfold clash Did.touches
                simp only [Bool.or_eq_true, List.any_eq_true]
                exact .inr ⟨p1, q1, .inl (by rw [q2]; simpa using hm)⟩
              exact behind i hS ((hsteps i p hp).2 hwi j (by omega) hcla)
        refine aop_ok hcx.types rfl hcx.fns hcx.call hI hE' (hfresh' _ (Nat.le_refl _) (by have := (hlen j hjlt).2.1 hwt; omega)) hrun' (fun p hp hge => hfresh' _ hge ((hlen j hjlt).2.2 p hp)) fun cv w' β' F' hL => ?_
        exact goOn cv _ w' β' F' rfl hL (fun h => by rw [hwt] at h; cases h)

/-- A REGION THAT DRAWS ITS ORDER. -/
theorem draw_ok (hcx : CxOK P cx) {ops : Array Oper} (hd : drawOK ops = true) {Q : Exit → Act → World → Prop} {s s' : St} {a : Act} {w : World} {β : Place} {F : Froz} (h : runDraw cx ntmps ops (Region.before ops) ops.toList 0 s [] = some s') (hS : Sim B β0 ntmps ds s a w β F)
    (hQ : ∀ a' w' β' F', Sim B β0 ntmps ds s' a' w' β' F' → Q .normal a' w') : wpAny P .any ops Q ops.size (Array.replicate ops.size false) a w.drew := by
  obtain ⟨st, dd, h1, h2, h3⟩ := draw_steps ops.toList 0 s s' [] h rfl
  have hl : ops.toList.length = ops.size := by simp
  rw [hl] at h2
  have steps : ∀ k o, ops[k]? = some o → Step cx ntmps ops o (st k) (dd k) (st (k + 1)) ∧ ((dd k).want = true → ∀ i, i < k → clash (dd i) (dd k) = true → ((Region.before ops).getD k 0).testBit i = true) := by
    intro k o ho
    obtain ⟨g1, g2⟩ := h3 k o (by simpa using ho)
    refine ⟨g1, fun hw i hi hcl => ?_⟩
    have := g2 hw i (dd i) (by rw [if_neg (by omega), if_pos (by omega), Nat.sub_zero]) hcl
    rwa [Nat.zero_add] at this
  have hrep : ∀ j, (Array.replicate ops.size false).getD j false = false := by
    intro j
    rw [Array.getD_eq_getD_getElem?, Array.getElem?_replicate]
    split <;> rfl
  have hlen : ∀ k, k ≤ ops.size → s.heap.length ≤ (st k).heap.length := by
    intro k
    induction k with
    | zero => intro _; rw [h1]; exact Nat.le_refl _
    | succ k ih =>
      intro hk
      have h5 := steps k ops[k] (by simp)
      obtain ⟨⟨_, _, h6⟩, _⟩ := h5
      have := ih (by omega)
      rcases h6 with ⟨_, _, _, _, h7⟩ | ⟨_, _, h7⟩
      · rw [h7]; exact this
      · rw [h7]
        have := puts_len (dd k).upd (st k).heap
        have := pad_len ((st k).heap.length + 1) ((st k).heap.puts (dd k).upd) (by omega)
        omega
  have hx : Ext β β F F w w.drew := ⟨fun _ _ h => h, fun _ _ h => ⟨h, rfl⟩⟩
  have e0 : ∀ k m, HV dd s.heap (fun x => (Array.replicate ops.size false).getD x false) k m = s.heap.at? m := by
    intro k m
    induction k with
    | zero => rfl
    | succ k ih =>
      unfold HV
      rw [if_neg (by rw [hrep]; simp)]
      exact ih
  have e1 : ∀ k t, EV ops dd s.env (fun x => (Array.replicate ops.size false).getD x false) k t = lk s.env t := by
    intro k t
    induction k with
    | zero => rfl
    | succ k ih =>
      unfold EV
      rw [if_neg (by rw [hrep]; simp)]
      exact ih
  refine draw_core hcx hd h1 steps (fun a' w' β' F' hS' => hQ a' w' β' F' (h2 ▸ hS')) ops.size _ a w.drew β F s.heap (by simp) ?_ (fun j o e hj => by rw [hrep] at hj; cases hj) hS.inv.drew (fun m => (e0 ops.size m).symm) (fun t => ?_) hS.defers hS.size
    (fun m hm => hS.fresh m (Nat.le_trans (hlen _ (Nat.le_refl _)) hm)) (fun j hj _ m hm _ => hS.fresh m (Nat.le_trans (hlen j (by omega)) hm)) (hS.ext.trans hx)
  · have := List.length_filter_le (fun i => !(Array.replicate ops.size false).getD i false) (List.range ops.size)
    simpa using this
  · rw [e1]
    exact hx.rel (hS.env t)
end

end Go.Proofs.YtoggbcckkjfkhaaGreat.R
/- Regions in a round's frame; bases that turn. -/
namespace Go.Proofs.YtoggbcckkjfkhaaGreat.R
set_option linter.unusedVariables false
set_option linter.unusedSimpArgs false
open Go Go.RowKit

/-- Any frame, or a round's. -/
def fr (r : Option Nat) : Fence := { Fence.wide with round := r }
theorem calls_fr {r : Option Nat} {n : Nat} {P : Program} {f : FuncId} {args : Array Value} {w : World} {R : Ending → World → Prop} : CallsIn (fr r) n P f args w R ↔ Calls P f args w R := (Iff.rfl : CallsIn (fr r) n P f args w R ↔ CallsIn Fence.wide n P f args w R).trans callsIn_wide

def noDefer (o : Oper) : Prop := ∀ c, o.op ≠ .defer c

theorem rows_fr {r : Option Nat} {n : Nat} {P : Program} {row : String} {args : Array Value} {w : World} {R : Value → World → Prop} (h : Rows P row args w R) : RowsIn (fr r) n P row args w R := fun c cs _ => by
  obtain ⟨v, w', hR, hs⟩ := h c cs
  exact ⟨v, w', hR, (stepsIn_wide (P := P)).2 hs⟩

/-- What is true of an operation is true of it in a round's frame. -/
theorem opIn_of {r : Option Nat} {n : Nat} {P : Program} {o : Oper} {a : Act} {w : World} {next : Act → World → Prop} {Q : Exit → Act → World → Prop} (hd : noDefer o) (h : o.wp P a w next Q) :
    o.wpIn (fr r) n P a w (fun a' w' => next a' w' ∧ ∃ v, a'.tmps = (a.put o.dst v).tmps) Q := by
  refine ⟨fun _ _ => trivial, ?_⟩
  rw [Oper.semAt_eq _ _ _ hd]
  unfold Oper.wp at h
  generalize (execOp a.eval o).run P w = x at h ⊢
  cases x with
  | ok x w' =>
    cases x with
    | value v => exact ⟨h, v, rfl⟩
    | skip => exact ⟨h, undef, rfl⟩
    | defer d => exact ⟨h, undef, by unfold Act.put; cases o.dst <;> rfl⟩
    | enter f args =>
      refine ⟨fun hh => (by cases hh), (calls_fr).2 (Calls.mono h fun e w'' he => ?_)⟩
      cases e with
      | returned v => exact ⟨he, v, rfl⟩
      | panicked c => exact he
      | outgrown => exact he
    | row row args =>
      refine ⟨fun hh => (by cases hh), fun c cs _ => ?_⟩
      obtain ⟨v, w', hR, hs⟩ := h c cs
      exact ⟨v, w', ⟨hR, v, rfl⟩, (stepsIn_wide (P := P)).2 hs⟩
    | _ => exact h.elim
  | halt e w' =>
    cases e with
    | panic v => exact h
    | _ => exact h.elim

/-- Slots that no operation fills stay. -/
def Stays (ops : Array Oper) (a a' : Act) : Prop := ∀ t, (∀ (i : Nat) (o : Oper), ops[i]? = some o → o.dst ≠ some t) → a'.tmps.getD t undef = a.tmps.getD t undef
theorem stays_put {ops : Array Oper} {i : Nat} {o : Oper} (ho : ops[i]? = some o) {a a' : Act} {v : Value} (h : a'.tmps = (a.put o.dst v).tmps) : Stays ops a a' := fun t ht => by
  rw [h]
  unfold Act.put
  cases hd : o.dst with
  | none => rfl
  | some d =>
    have : d ≠ t := fun e => ht i o ho (by rw [hd, e])
    simp only
    rw [Array.getD_eq_getD_getElem?, Array.getD_eq_getD_getElem?, Array.getElem?_setIfInBounds_ne this]
theorem Stays.trans {ops : Array Oper} {a b c : Act} (h : Stays ops a b) (k : Stays ops b c) : Stays ops a c := fun t ht => (k t ht).trans (h t ht)
theorem Stays.refl (ops : Array Oper) (a : Act) : Stays ops a a := fun _ _ => rfl

/-- With what stays. -/
def QS (ops : Array Oper) (a0 : Act) (Q : Act → World → Prop) : Exit → Act → World → Prop := fun e a w => e = .normal ∧ Q a w ∧ Stays ops a0 a
theorem noLets {ops : Array Oper} {a0 : Act} {Q : Act → World → Prop} : ¬ LetsOut (QS ops a0 Q) := by
  rintro ⟨a, w, h, _⟩
  cases h
theorem wpOpIn_of {r : Option Nat} {n : Nat} {P : Program} {ops : Array Oper} (hd : ∀ (i : Nat) (o : Oper), ops[i]? = some o → noDefer o) {i : Nat} {a0 : Act} {Q : Act → World → Prop} {K K' : Act → World → Prop} {a : Act} {w : World} (hs : Stays ops a0 a)
    (hK : ∀ a' w', Stays ops a0 a' → K a' w' → K' a' w') (h : wpOp P ops (fun e a w => e = .normal ∧ Q a w) i K a w) : wpOpIn (fr r) n P ops (QS ops a0 Q) i K' a w := by
  unfold wpOp at h
  unfold wpOpIn
  cases ho : ops[i]? with
  | none =>
    simp only [ho] at h ⊢
    exact hK _ _ hs h
  | some o =>
    simp only [ho] at h ⊢
    split at h
    · rename_i hw
      rw [if_pos hw]
      rcases h with h | ⟨_, a', w', h, _⟩
      · have h2 := opIn_of (r := r) (n := n) (hd i o ho) h
        refine ⟨h2.1, ?_⟩
        have h3 := h2.2
        generalize (o.semAt (fr r).round a.eval).run P w = x at h3 ⊢
        cases x with
        | ok x w' =>
          cases x with
          | value v => exact hK _ _ (hs.trans (stays_put ho h3.2.choose_spec)) h3.1
          | skip => exact hK _ _ (hs.trans (stays_put ho h3.2.choose_spec)) h3.1
          | defer d => exact hK _ _ (hs.trans (stays_put ho h3.2.choose_spec)) h3.1
          | enter f args =>
            refine ⟨h3.1, h3.2.mono fun e w'' he => ?_⟩
            cases e with
            | returned v => exact hK _ _ (hs.trans (stays_put ho he.2.choose_spec)) he.1
            | panicked c => exact absurd he.1 (by simp)
            | outgrown => obtain ⟨_, _, h, _⟩ := he; cases h
          | row row args => exact ⟨h3.1, h3.2.mono fun v w'' he => hK _ _ (hs.trans (stays_put ho he.2.choose_spec)) he.1⟩
          | round l f tmps assign body =>
            refine ⟨h3.1, h3.2.mono fun e w'' he => ?_⟩
            cases e with
            | returned v => exact hK _ _ (hs.trans (stays_put ho he.2.choose_spec)) he.1
            | panicked c => exact absurd he.1 (by simp)
            | outgrown => obtain ⟨_, _, h, _⟩ := he; cases h
          | _ => exact h3.elim
        | halt e w' =>
          cases e with
          | panic v => exact absurd h3.1 (by simp)
          | _ => exact h3.elim
      · cases h
    · rename_i hw
      rw [if_neg hw]
      exact ⟨fun _ _ => trivial, hK _ _ (hs.trans (stays_put ho rfl)) h⟩

theorem wpOpsIn_of {r : Option Nat} {n : Nat} {P : Program} {ops : Array Oper} (hd : ∀ (i : Nat) (o : Oper), ops[i]? = some o → noDefer o) {a0 : Act} {Q : Act → World → Prop} : ∀ (l : List Nat) (a : Act) (w : World), Stays ops a0 a → wpOps P ops (fun e a w => e = .normal ∧ Q a w) l a w → wpOpsIn (fr r) n P ops (QS ops a0 Q) l a w
  | [], a, w, hs, h => ⟨rfl, h.2, hs⟩
  | i :: l, a, w, hs, h => by
    rw [wpOps_cons] at h
    rw [wpOpsIn_cons]
    exact wpOpIn_of hd hs (fun a' w' hs' hk => wpOpsIn_of hd l a' w' hs' hk) h
theorem wpAnyIn_of {r : Option Nat} {n : Nat} {P : Program} {md : Region.Mode} {ops : Array Oper} (hd : ∀ (i : Nat) (o : Oper), ops[i]? = some o → noDefer o) {a0 : Act} {Q : Act → World → Prop} : ∀ (fuel : Nat) (listed : Array Bool) (a : Act) (w : World), Stays ops a0 a →
    wpAny P md ops (fun e a w => e = .normal ∧ Q a w) fuel listed a w → wpAnyIn (fr r) n P md ops (QS ops a0 Q) fuel listed a w
  | 0, listed, a, w, hs, h => ⟨h.1, rfl, h.2.2, hs⟩
  | fuel + 1, listed, a, w, hs, h => ⟨fun he => ⟨rfl, (h.1 he).2, hs⟩, fun i hi => wpOpIn_of hd hs (fun a' w' hs' hk => wpAnyIn_of hd fuel _ a' w' hs' hk) (h.2 i hi)⟩

end Go.Proofs.YtoggbcckkjfkhaaGreat.R
/- Bases that turn: what stays as it is, told anew. -/
namespace Go.Proofs.YtoggbcckkjfkhaaGreat.R
set_option linter.unusedVariables false
set_option linter.unusedSimpArgs false
open Go Go.RowKit

/-- A later base, by which more stays. -/
structure BLe (B B' : Base) : Prop where
  k : ∀ b, B.K b → B'.K b
  same : ∀ b, B.K b → B'.w0.heap[b]? = B.w0.heap[b]?
  size : B.w0.heap.size ≤ B'.w0.heap.size
  os : B'.w0.os = B.w0.os
  tape : B'.w0.tape = B.w0.tape
  output : B'.w0.output = B.w0.output
  f0 : ∀ b o, B.K b → B'.F0 b o → B.F0 b o
  f1 : ∀ b o, B.F0 b o → B'.F0 b o ∧ cl B'.w0 b o = cl B.w0 b o
theorem BLe.refl (B : Base) : BLe B B := ⟨fun _ h => h, fun _ _ => rfl, Nat.le_refl _, rfl, rfl, rfl, fun _ _ _ h => h, fun _ _ h => ⟨h, rfl⟩⟩
theorem BLe.trans {A B C : Base} (h : BLe A B) (k : BLe B C) : BLe A C :=
  ⟨fun b hb => k.k b (h.k b hb), fun b hb => (k.same b (h.k b hb)).trans (h.same b hb), Nat.le_trans h.size k.size, k.os.trans h.os, k.tape.trans h.tape, k.output.trans h.output,
    fun b o hb hf => h.f0 b o hb (k.f0 b o (h.k b hb) hf), fun b o hf => ⟨(k.f1 b o (h.f1 b o hf).1).1, ((k.f1 b o (h.f1 b o hf).1).2).trans (h.f1 b o hf).2⟩⟩

section
variable {B B' : Base} {β0 : Place} {ntmps : Nat} {ds : List Deferred} {s : St} {a : Act} {w w' : World} {β : Place} {F : Froz} {H : Heap}

theorem Inv.rebase (hle : BLe B B') (hk : ∀ b, B.K b → b < B.w0.heap.size) (h : Inv B' β F H w) : Inv B β F H w :=
  ⟨h.os.trans hle.os, h.tape.trans hle.tape, h.output.trans hle.output, Nat.le_trans hle.size h.size, fun b hb => (h.keep b (hle.k b hb)).trans (hle.same b hb), hk, h.inj,
    fun i l b hi hl => ⟨(h.fresh i l b hi hl).1, fun hb => (h.fresh i l b hi hl).2 (hle.k b hb)⟩, h.obs, fun b o hf => ⟨(h.froz b o hf).1, fun hb => hle.f0 b o hb ((h.froz b o hf).2 (hle.k b hb))⟩, h.prot⟩
theorem Sim.rebase (hle : BLe B B') (hk : ∀ b, B.K b → b < B.w0.heap.size) (h : Sim B' β0 ntmps ds s a w β F) : Sim B β0 ntmps ds s a w β F :=
  ⟨h.inv.rebase hle hk, h.env, h.defers, h.size, h.fresh, ⟨h.ext.place, fun b o hf => by
    obtain ⟨h1, h2⟩ := hle.f1 b o hf
    exact ⟨(h.ext.froz b o h1).1, (h.ext.froz b o h1).2.trans h2⟩⟩⟩

theorem cl_other {w : World} {l : Nat} {o : Obj} (hl : w.heap[l]? = some o) (hc : o.isCells = false) (x : Nat) : cl w l x = none := by
  cases h : cl w l x with
  | none => rfl
  | some v =>
    obtain ⟨o', h1, h2⟩ := cells_of_cell (a := ⟨l, x, none⟩) h
    rw [hl] at h1
    cases h1
    rw [hc] at h2
    cases h2
theorem cl_putObj {w : World} {l : Nat} {o o' : Obj} (hl : w.heap[l]? = some o) (hc : o.isCells = false) (hc' : o'.isCells = false) (b x : Nat) : cl (w.putObj l o') b x = cl w b x := by
  by_cases e : b = l
  · subst e
    rw [cl_other hl hc, cl_other (World.putObj_heap_same (Array.getElem?_eq_some_iff.1 hl).1) hc']
  · exact cl_of_block (World.putObj_heap_other e) x

/-- A block of the base that holds no cells turns. -/
def Base.turn (B : Base) (l : Nat) (o : Obj) : Base := ⟨B.w0.putObj l o, B.K, B.F0⟩
theorem Sim.turn (h : Sim B β0 ntmps ds s a w β F) {l : Nat} {o o' : Obj} (hK : B.K l) (hl : w.heap[l]? = some o) (hc : o.isCells = false) (hc' : o'.isCells = false) : Sim (B.turn l o') β0 ntmps ds s a (w.putObj l o') β F := by
  have hcl := cl_putObj hl hc hc'
  have hl0 : B.w0.heap[l]? = some o := (h.inv.keep l hK).symm.trans hl
  have hcl0 := cl_putObj hl0 hc hc'
  have hx : Ext β β F F w (w.putObj l o') := ⟨fun _ _ h => h, fun b x hf => ⟨hf, hcl b x⟩⟩
  have hi := h.inv
  refine ⟨⟨hi.os, hi.tape, hi.output, by simp only [Base.turn, World.putObj_size]; exact hi.size, fun b hb => ?_, fun b hb => by simp only [Base.turn, World.putObj_size]; exact hi.kin b hb, hi.inj, fun i lc b h1 h2 => by rw [World.putObj_size]; exact hi.fresh i lc b h1 h2, fun i ob ho => ?_, fun b x hf => by rw [World.putObj_size]; exact hi.froz b x hf, hi.prot⟩, hx.env h.env, h.defers, h.size, h.fresh, ⟨h.ext.place, fun b x hf => ⟨(h.ext.froz b x hf).1, ?_⟩⟩⟩
  · show (w.putObj l o').heap[b]? = (B.w0.putObj l o').heap[b]?
    by_cases e : b = l
    · subst e
      rw [World.putObj_heap_same (Array.getElem?_eq_some_iff.1 hl).1, World.putObj_heap_same (Array.getElem?_eq_some_iff.1 hl0).1]
    · rw [World.putObj_heap_other e, World.putObj_heap_other e]
      exact hi.keep b hb
  · obtain ⟨lc, h1, h2⟩ := hi.obs i ob ho
    refine ⟨lc, h1, h2.keep hx fun b hb => World.putObj_heap_other fun e => ?_⟩
    subst e
    exact (hi.fresh i lc _ h1 hb).2 hK
  · show cl (w.putObj l o') b x = cl (B.w0.putObj l o') b x
    rw [hcl, hcl0]
    exact (h.ext.froz b x hf).2

/-- More blocks, and nothing else. -/
theorem Sim.grow (h : Sim B β0 ntmps ds s a w β F) (hs : w.heap.size ≤ w'.heap.size) (same : ∀ b, b < w.heap.size → w'.heap[b]? = w.heap[b]?) (hos : w'.os = w.os) (ht : w'.tape = w.tape) (ho : w'.output = w.output) : Sim B β0 ntmps ds s a w' β F := by
  have hi := h.inv
  have hx : Ext β β F F w w' := ⟨fun _ _ h => h, fun b x hf => ⟨hf, cl_of_block (same b (hi.froz b x hf).1) x⟩⟩
  refine ⟨⟨hos.trans hi.os, ht.trans hi.tape, ho.trans hi.output, Nat.le_trans hi.size hs, fun b hb => (same b (Nat.lt_of_lt_of_le (hi.kin b hb) hi.size)).trans (hi.keep b hb), hi.kin, hi.inj, fun i lc b h1 h2 => ⟨Nat.lt_of_lt_of_le (hi.fresh i lc b h1 h2).1 hs, (hi.fresh i lc b h1 h2).2⟩, fun i ob hob => ?_, fun b x hf => ⟨Nat.lt_of_lt_of_le (hi.froz b x hf).1 hs, (hi.froz b x hf).2⟩, hi.prot⟩, hx.env h.env, h.defers, h.size, h.fresh, h.ext.trans hx⟩
  obtain ⟨lc, h1, h2⟩ := hi.obs i ob hob
  exact ⟨lc, h1, h2.keep hx fun b hb => same b (hi.fresh i lc b h1 hb).1⟩

/-- The base that is told anew: what stands now, and some blocks that no object stands in. -/
def Base.now (B : Base) (w : World) (F : Froz) (X : Nat → Prop) : Base := ⟨w, fun b => B.K b ∨ X b, F⟩
theorem Sim.now (h : Sim B β0 ntmps ds s a w β F) {X : Nat → Prop} (hX : ∀ b, X b → b < w.heap.size ∧ ∀ i lc, β i = some lc → lc.block ≠ some b) : Sim (B.now w F X) β ntmps ds s a w β F ∧ BLe B (B.now w F X) := by
  have hi := h.inv
  refine ⟨⟨⟨rfl, rfl, rfl, Nat.le_refl _, fun _ _ => rfl, fun b hb => ?_, hi.inj, fun i lc b h1 h2 => ⟨(hi.fresh i lc b h1 h2).1, ?_⟩, hi.obs, fun b o hf => ⟨(hi.froz b o hf).1, fun _ => hf⟩, hi.prot⟩, h.env, h.defers, h.size, h.fresh, .refl _ _ _⟩,
    ⟨fun b hb => .inl hb, fun b hb => hi.keep b hb, hi.size, hi.os, hi.tape, hi.output, fun b o hb hf => (hi.froz b o hf).2 hb, fun b o hf => h.ext.froz b o hf⟩⟩
  · rcases hb with hb | hb
    · exact Nat.lt_of_lt_of_le (hi.kin b hb) hi.size
    · exact (hX b hb).1
  · rintro (hb | hb)
    · exact (hi.fresh i lc b h1 h2).2 hb
    · exact (hX b hb).2 i lc h1 h2
end
end Go.Proofs.YtoggbcckkjfkhaaGreat.R
