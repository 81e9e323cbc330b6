/- More operations that turn nothing: cuts of slices, struct literals, look-ups, len. -/
import Derived.Test.YtfdemnefkfkghaaRD
import Derived.Great.FillDense
import Derived.Laws.Tables
namespace Go.Proofs.Ytfdemnefkfkghaa.R
open Go Go.RowKit

section
variable {P : Program} {T : TT} (hT : TOK P T) {F : Froz} {w : World} {β : Place} {H : Heap} {l l' : List Nat} {v : V} {u : Upd}

/-- An operand of a cut. -/
def OptRel (F : Froz) (c : Nat → Nat → Option Value) (β : Place) : Option V → Option Value → Prop
  | none, none => True
  | some v, some cv => Rel F c β v cv
  | _, _ => False

theorem bound_ok {x : V} {n y : Nat} {cv : Value} (h : natOf x = some n) (hx : Rel F (cl w) β x cv) (hy : n ≤ y) (code : BoundsCode) : (Instr.sliceBound cv y code).run P w = .ok n w := by
  obtain ⟨k, rfl⟩ := natOf_rel h hx
  simp [Instr.sliceBound, asIntOf, hy]

theorem bounds_ok {lo hi mx : Option V} {clo chi cmx : Option Value} {ll hh mm len cap : Nat} (isS : Bool) (h1 : OptRel F (cl w) β lo clo) (h2 : OptRel F (cl w) β hi chi) (h3 : OptRel F (cl w) β mx cmx)
    (hl : optNat lo 0 = some ll) (hh' : optNat hi len = some hh) (hm : optNat mx cap = some mm) (hn : mx ≠ none → hi ≠ none) (a : ll ≤ hh) (b : hh ≤ mm) (c : mm ≤ cap) :
    (Instr.sliceBounds isS len cap clo chi cmx).run P w = .ok (ll, hh, mm) w := by
  have B : ∀ {x : V} {n y : Nat} {cv : Value}, natOf x = some n → Rel F (cl w) β x cv → n ≤ y → ∀ code, (Instr.sliceBound cv y code).run P w = .ok n w := fun h hx hy code => bound_ok h hx hy code
  cases lo <;> cases clo <;> (try exact h1.elim) <;> cases hi <;> cases chi <;> (try exact h2.elim) <;> cases mx <;> cases cmx <;> (try exact h3.elim) <;> simp only [optNat, Option.some.injEq] at hl hh' hm
  case none.none.none.none.none.none => subst hl hh' hm; simp [Instr.sliceBounds]
  case none.none.none.none.some.some => exact absurd rfl (hn (by simp))
  case some.some.none.none.some.some => exact absurd rfl (hn (by simp))
  case none.none.some.some.none.none => subst hl hm; simp [Instr.sliceBounds, B hh' h2 b]
  case none.none.some.some.some.some => subst hl; simp [Instr.sliceBounds, B hh' h2 b, B hm h3 c]
  case some.some.none.none.none.none => subst hh' hm; simp [Instr.sliceBounds, B hl h1 a]
  case some.some.some.some.none.none => subst hm; simp [Instr.sliceBounds, B hh' h2 b, B hl h1 a]
  case some.some.some.some.some.some => simp [Instr.sliceBounds, B hh' h2 b, B hl h1 a, B hm h3 c]

theorem sliceAt_slice {t e : TypeId} (hu : P.underlying t = some (.slice e)) (x : Value) (lo hi mx : Option Value) : (Instr.sliceAt t x lo hi mx).run P w = (Instr.slice t x lo hi mx).run P w := by
  simp [Instr.sliceAt, run_underlying hu]
theorem sliceAt_str {t : TypeId} (hu : P.underlying t = some .string) (x : Value) (lo hi mx : Option Value) : (Instr.sliceAt t x lo hi mx).run P w = (Instr.slice t x lo hi mx).run P w := by
  simp [Instr.sliceAt, run_underlying hu]

include hT in
theorem slice_ok {t : TypeId} {x : V} {lo hi mx : Option V} {cv : Value} {clo chi cmx : Option Value} (h : (sliceR T t x lo hi mx).run H l = some ((v, u), l')) (hx : Rel F (cl w) β x cv)
    (h1 : OptRel F (cl w) β lo clo) (h2 : OptRel F (cl w) β hi chi) (h3 : OptRel F (cl w) β mx cmx) (hn : mx ≠ none → hi ≠ none) :
    ∃ cw, (Instr.sliceAt t cv clo chi cmx).run P w = .ok cw w ∧ Rel F (cl w) β v cw ∧ u = [] := by
  unfold sliceR at h
  split at h
  · rename_i ti' ht'
    split at h
    · rename_i el hk
      have hu := (hT.told ht').slice hk
      rw [sliceAt_slice hu]
      split at h
      · rename_i ti ht
        split at h
        · simp [Rd.run] at h
        · obtain ⟨hc, rfl, rfl⟩ := ok_run h
          have hsize := (hT.told ht).sizeOf w
          unfold cutS at hc
          split at hc
          · rename_i s hno
            exact absurd rfl (hno s)
          · -- a frozen one
            rename_i rows _
            split at hc
            · rename_i ll hh hll hhh
              split at hc
              · rename_i hcond
                obtain ⟨c1, c2, c3⟩ := hcond
                cases hc
                have hrl : ∀ r ∈ rows, r.length = ti.size := by simpa using c3
                cases cmx with
                | some _ => exact h3.elim
                | none =>
                  cases hx with
                  | fz0 _ a cap =>
                    simp only [List.length_nil] at hhh c2
                    obtain rfl : hh = 0 := by omega
                    obtain rfl : ll = 0 := by omega
                    have hb := bounds_ok (P := P) (w := w) (cap := cap) (mm := cap) true h1 h2 (mx := none) (cmx := none) trivial hll hhh rfl (by simp) (by omega) (by omega) (by omega)
                    refine ⟨.slice (if cap = 0 then a else a.map (·.add (0 * ti.size))) 0 (cap - 0), by simp [Instr.slice, run_underlying hu, hb, hsize], ?_, rfl⟩
                    exact .fz0 _ _ _
                  | fz _ _ b o st cap g hl hst hcell hF hr =>
                    have hb := bounds_ok (P := P) (w := w) (cap := cap) (mm := cap) true h1 h2 (mx := none) (cmx := none) trivial hll hhh rfl (by simp) c1 (by omega) (by omega)
                    refine ⟨.slice (if cap = ll then some ⟨b, o, none⟩ else some ⟨b, o + ll * ti.size, none⟩) (hh - ll) (cap - ll), ?_, ?_, rfl⟩
                    · simp only [Instr.slice, Sem.run_bind, run_underlying hu, Result.andThen_ok, hb, hsize, Sem.run_pure, Option.map_some, Addr.add_mid]
                    · by_cases he : hh = ll
                      · subst he
                        simp only [Nat.sub_self, List.take_zero]
                        exact .fz0 _ _ _
                      · have hlt : ll < hh := by omega
                        have hcl : cap ≠ ll := by omega
                        have hst' : st = ti.size := by
                          have hm : rows[ll]'(by omega) ∈ rows := List.getElem_mem _
                          rw [← hst _ hm, hrl _ hm]
                        subst hst'
                        rw [if_neg hcl]
                        have hlen : ((rows.drop ll).take (hh - ll)).length = hh - ll := by simp; omega
                        have hget : ∀ r, r < hh - ll → ((rows.drop ll).take (hh - ll))[r]? = rows[ll + r]? := fun r hr => by
                          rw [List.getElem?_take, if_pos hr, List.getElem?_drop]
                        have := Rel.fz (F := F) (c := cl w) β ((rows.drop ll).take (hh - ll)) b (o + ll * ti.size) ti.size (cap - ll) (fun r j => g (ll + r) j) (by omega)
                          (fun row hm => hst row (List.mem_of_mem_drop (List.mem_of_mem_take hm))) (fun row hm => hcell row (List.mem_of_mem_drop (List.mem_of_mem_take hm)))
                          (fun r j hr hj => by
                            have := hF (ll + r) j (by omega) hj
                            rwa [show o + ll * ti.size + r * ti.size + j = o + (ll + r) * ti.size + j by rw [Nat.add_mul]; omega])
                          (fun r j row v hrow hv => by
                            have hr' : r < hh - ll := by have := (List.getElem?_eq_some_iff.1 hrow).1; omega
                            rw [hget r hr'] at hrow
                            exact hr (ll + r) j row v hrow hv)
                        rwa [hlen] at this
              · cases hc
            · cases hc
          · -- one of an object
            rename_i i st o n c _
            split at hc
            · rename_i hst
              subst hst
              split at hc
              · rename_i ll hh hll hhh
                split at hc
                · rename_i hcond
                  obtain ⟨c1, c2⟩ := hcond
                  cases hx with
                  | ms0 _ _ _ _ hb hc0 =>
                    obtain rfl : hh = 0 := by omega
                    obtain rfl : ll = 0 := by omega
                    split at hc
                    · cases hc
                      cases cmx with
                      | some _ => exact h3.elim
                      | none =>
                        have hb' := bounds_ok (P := P) (w := w) (cap := 0) (mm := 0) true h1 h2 (mx := none) (cmx := none) trivial hll hhh rfl (by simp) (by omega) (by omega) (by omega)
                        refine ⟨.slice none 0 0, by simp [Instr.slice, run_underlying hu, hb', hsize], ?_, rfl⟩
                        refine .ms0 _ _ _ _ hb fun k hk => ?_
                        simp only [Option.map_eq_some_iff] at hk
                        obtain ⟨k', hk', rfl⟩ := hk
                        have := hc0 k' hk'
                        omega
                    · rename_i m
                      split at hc
                      · rename_i mm hmm
                        split at hc
                        · rename_i hm
                          cases hc
                          obtain rfl : mm = 0 := by omega
                          cases cmx with
                          | none => exact h3.elim
                          | some cm =>
                            have hb' := bounds_ok (P := P) (w := w) (cap := 0) (mm := 0) true h1 h2 (mx := some m) (cmx := some cm) h3 hll hhh hmm hn (by omega) (by omega) (by omega)
                            refine ⟨.slice none 0 0, by simp [Instr.slice, run_underlying hu, hb', hsize], ?_, rfl⟩
                            exact .ms0 _ _ _ _ hb fun k hk => by cases hk; rfl
                        · cases hc
                      · cases hc
                  | ms _ _ _ _ _ _ b C cc o' hb hcC hlen hcap hnone ho =>
                    have addr : ∀ mm, ll ≤ mm → mm ≤ cc → (mm - ll = 0 ∨ (if mm = ll then o' else o' + ll * ti.size) = (o + ll) * ti.size) := by
                      intro mm hmm hmc
                      by_cases he : mm = ll
                      · left; omega
                      · right
                        rw [if_neg he, Nat.add_mul]
                        rcases ho with h | h <;> omega
                    have mk : ∀ (cm : Option Value) mm, (Instr.sliceBounds true n cc clo chi cm).run P w = .ok (ll, hh, mm) w → ll ≤ mm → mm ≤ cc →
                        (Instr.slice t (.slice (some ⟨b, o', none⟩) n cc) clo chi cm).run P w = .ok (.slice (some ⟨b, if mm = ll then o' else o' + ll * ti.size, none⟩) (hh - ll) (mm - ll)) w := by
                      intro cm mm hb' _ _
                      simp only [Instr.slice, Sem.run_bind, run_underlying hu, Result.andThen_ok, hb', hsize, Sem.run_pure, Option.map_some, Addr.add_mid]
                      split <;> rfl
                    split at hc
                    · cases hc
                      cases cmx with
                      | some _ => exact h3.elim
                      | none =>
                        have hb' := bounds_ok (P := P) (w := w) (cap := cc) (mm := cc) true h1 h2 (mx := none) (cmx := none) trivial hll hhh rfl (by simp) c1 (by omega) (by omega)
                        refine ⟨_, mk none cc hb' (by omega) (by omega), ?_, rfl⟩
                        refine .ms _ _ _ _ _ _ b C (cc - ll) _ hb (by omega) (by omega) (fun k hk => ?_) (fun hk => ?_) (addr cc (by omega) (by omega))
                        · simp only [Option.map_eq_some_iff] at hk
                          obtain ⟨k', hk', rfl⟩ := hk
                          rw [hcap k' hk']
                        · simp only [Option.map_eq_none_iff] at hk
                          have := hnone hk
                          omega
                    · rename_i m
                      split at hc
                      · rename_i mm hmm
                        split at hc
                        · rename_i hm
                          cases hc
                          cases cmx with
                          | none => exact h3.elim
                          | some cm =>
                            have hb' := bounds_ok (P := P) (w := w) (cap := cc) (mm := mm) true h1 h2 (mx := some m) (cmx := some cm) h3 hll hhh hmm hn c1 (by omega) (by omega)
                            refine ⟨_, mk (some cm) mm hb' (by omega) (by omega), ?_, rfl⟩
                            exact .ms _ _ _ _ _ _ b C (mm - ll) _ hb (by omega) (by omega) (fun k hk => by cases hk; rfl) (fun hk => by cases hk) (addr mm (by omega) (by omega))
                        · cases hc
                      · cases hc
                · cases hc
              · cases hc
            · cases hc
          · -- nil
            split at hc
            · rename_i hll hhh
              cases hc
              cases cmx with
              | some _ => exact h3.elim
              | none =>
                cases hx
                have hb' := bounds_ok (P := P) (w := w) (cap := 0) (mm := 0) true h1 h2 (mx := none) (cmx := none) trivial hll hhh rfl (by simp) (by omega) (by omega) (by omega)
                exact ⟨.slice none 0 0, by simp [Instr.slice, run_underlying hu, hb', hsize], .nils _, rfl⟩
            · cases hc
          · cases hc
      · simp [Rd.run] at h
    · rename_i hk
      have hu := (hT.told ht').str hk
      rw [sliceAt_str hu]
      split at h
      · rename_i s
        obtain ⟨hc, rfl, rfl⟩ := ok_run h
        cases hx
        unfold cutS at hc
        simp only at hc
        split at hc
        · rename_i ll hh hll hhh
          split at hc
          · rename_i hcond
            cases hc
            cases cmx with
            | some _ => exact h3.elim
            | none =>
              have hb' := bounds_ok (P := P) (w := w) (cap := s.size) (mm := s.size) false h1 h2 (mx := none) (cmx := none) trivial hll hhh rfl (by simp) hcond.1 (by omega) (by omega)
              exact ⟨.string (s.extract ll hh), by simp [Instr.slice, run_underlying hu, hb'], .str _ _, rfl⟩
          · cases hc
        · cases hc
      · simp [Rd.run] at h
    · simp [Rd.run] at h
  · simp [Rd.run] at h

theorem over_len {row cs : List V} {o : Nat} (h : o + cs.length ≤ row.length) : (overwrite row o cs).length = row.length := by
  simp [overwrite]; omega

theorem over_get {row cs : List V} {o : Nat} (h : o + cs.length ≤ row.length) (k : Nat) : (overwrite row o cs)[k]? = if o ≤ k ∧ k < o + cs.length then cs[k - o]? else row[k]? := by
  unfold overwrite
  by_cases h1 : k < o
  · rw [if_neg (by omega), List.append_assoc, List.getElem?_append_left (by simp; omega), List.getElem?_take, if_pos h1]
  · by_cases h2 : k < o + cs.length
    · rw [if_pos (by omega), List.getElem?_append_left (by simp; omega), List.getElem?_append_right (by simp; omega)]
      simp [Nat.min_eq_left (show o ≤ row.length by omega)]
    · rw [if_neg (by omega), List.getElem?_append_right (by simp; omega), List.getElem?_drop]
      congr 1
      simp
      omega

theorem over_mem {row cs : List V} {o : Nat} {v : V} (h : v ∈ overwrite row o cs) : v ∈ row ∨ v ∈ cs := by
  unfold overwrite at h
  simp only [List.mem_append] at h
  rcases h with (h | h) | h
  · exact .inl (List.mem_of_mem_take h)
  · exact .inr h
  · exact .inl (List.mem_of_mem_drop h)

/-- One part's cells, laid over others. -/
theorem set_rel {cs : List V} {cvs : Array Value} (h : RelAll F (cl w) β cs cvs) {x : V} {cx : Value} (hx : RelAll F (cl w) β x.cells cx.cells) {o : Nat} (hl : o + x.cells.length ≤ cs.length) :
    RelAll F (cl w) β (overwrite cs o x.cells) (cx.cells.zipIdx.foldl (fun cs (c, j) => cs.setIfInBounds (o + j) c) cvs) := by
  have e : (cx.cells.zipIdx.foldl (fun cs (c, j) => cs.setIfInBounds (o + j) c) cvs) = (cx.cells.toList.zipIdx 0).foldl (fun cs (x : Value × Nat) => cs.setIfInBounds (o + x.2) x.1) cvs := by
    rw [← Array.foldl_toList, Array.toList_zipIdx]
  rw [e]
  obtain ⟨g1, g2⟩ := Great.foldl_set o cx.cells.toList 0 cvs
  refine ⟨by rw [g1, over_len hl, h.size], fun j v hv => ?_⟩
  rw [Array.getD_eq_getD_getElem?, g2 j]
  rw [over_get hl] at hv
  simp only [Nat.add_zero, Array.length_toList, hx.size, h.size]
  by_cases hj : o ≤ j ∧ j < o + x.cells.length
  · rw [if_pos hj] at hv
    rw [if_pos ⟨hj.1, hj.2, by omega⟩]
    have := hx.at_ _ _ hv
    rwa [Array.getD_eq_getD_getElem?, ← Array.getElem?_toList] at this
  · rw [if_neg hj] at hv
    rw [if_neg (by omega)]
    have := h.at_ _ _ hv
    rwa [Array.getD_eq_getD_getElem?] at this

/-- Parts of a literal, beside Go's. -/
def PartsRel (F : Froz) (c : Nat → Nat → Option Value) (β : Place) : List (Nat × V) → List (Nat × Value) → Prop
  | [], [] => True
  | (i, v) :: r, (j, cv) :: s => i = j ∧ Rel F c β v cv ∧ PartsRel F c β r s
  | _, _ => False

theorem fillS_ok {fs : List (Nat × TypeId)} {place : Nat → Option (Nat × Nat)} (hp : ∀ i o t ti, fs[i]? = some (o, t) → T t = some ti → place i = some (o, ti.size)) :
    ∀ (ps : List (Nat × V)) (cps : List (Nat × Value)) (cs cs' : List V) (cvs : Array Value), PartsRel F (cl w) β ps cps → RelAll F (cl w) β cs cvs → cs.all V.isCell = true → fillS T fs cs ps = some cs' →
      ∃ cvs', Instr.fill place cvs cps = some cvs' ∧ RelAll F (cl w) β cs' cvs' ∧ cs'.length = cs.length ∧ cs'.all V.isCell = true
  | [], [], cs, cs', cvs, _, hr, hc, h => by
    simp only [fillS, Option.some.injEq] at h
    subst h
    exact ⟨cvs, rfl, hr, rfl, hc⟩
  | [], _ :: _, _, _, _, hp, _, _, _ => hp.elim
  | _ :: _, [], _, _, _, hp, _, _, _ => by cases hp
  | (i, v) :: ps, (j, cv) :: cps, cs, cs', cvs, hpr, hr, hc, h => by
    obtain ⟨rfl, hv, hrest⟩ := hpr
    simp only [fillS] at h
    split at h
    · rename_i o t hf
      split at h
      · rename_i ti hti
        split at h
        · rename_i hcond
          obtain ⟨c1, c2, c3⟩ := hcond
          have hx := hv.cells c3
          have hset := set_rel hr hx (o := o) (by omega)
          obtain ⟨cvs', h1, h2, h3, h4⟩ := fillS_ok hp ps cps _ cs' _ hrest hset (by
            simp only [List.all_eq_true] at hc c3 ⊢
            intro u hu
            rcases over_mem hu with h | h
            · exact hc u h
            · exact c3 u h) h
          refine ⟨cvs', ?_, h2, by rw [h3, over_len (by omega)], h4⟩
          unfold Instr.fill
          rw [hp i o t ti hf hti]
          simp only
          rw [if_neg]
          · exact h1
          · have := hx.size
            have := hr.size
            simp
            omega
        · cases h
      · cases h
    · cases h

include hT in
theorem places_ok : ∀ (Fs : List Field), ((Fs.map fun f => (f.offset, f.type)).all fun p => (T p.2).isSome) = true →
    ∃ places : List (Nat × Nat), Fs.mapM (fun f => (P.info? f.type).map fun i => (f.offset, i.size)) = some places ∧ ∀ (i o : Nat) (t : TypeId) (ti : TI), (Fs.map fun f => (f.offset, f.type))[i]? = some (o, t) → T t = some ti → places[i]? = some (o, ti.size)
  | [], _ => ⟨[], rfl, by simp⟩
  | f :: Fs, h => by
    simp only [List.map_cons, List.all_cons, Bool.and_eq_true] at h
    obtain ⟨places, h1, h2⟩ := places_ok Fs h.2
    obtain ⟨ti, hti⟩ := Option.isSome_iff_exists.1 h.1
    obtain ⟨i, z, hi, hs, _⟩ := (hT.told hti).info
    refine ⟨(f.offset, ti.size) :: places, by simp [List.mapM_cons, hi, h1, hs], fun j o t ti' hj htj => ?_⟩
    cases j with
    | zero =>
      simp only [List.map_cons, List.getElem?_cons_zero, Option.some.injEq, Prod.mk.injEq] at hj
      obtain ⟨rfl, rfl⟩ := hj
      rw [hti] at htj
      cases htj
      rfl
    | succ j => exact h2 j o t ti' (by simpa using hj) htj

include hT in
theorem build_ok {t : TypeId} {ps : List (Nat × V)} {cps : Array (Nat × Value)} (h : (buildR T t ps).run H l = some ((v, u), l')) (hp : PartsRel F (cl w) β ps cps.toList) :
    ∃ cw, (Instr.build t cps).run P w = .ok cw w ∧ Rel F (cl w) β v cw ∧ u = [] := by
  unfold buildR at h
  split at h
  · rename_i ti ht
    split at h
    · rename_i fs hk
      split at h
      · rename_i hall
        split at h
        · rename_i cs hcs
          simp only [Rd.run, Option.some.injEq, Prod.mk.injEq] at h
          obtain ⟨⟨rfl, rfl⟩, _⟩ := h
          obtain ⟨Fs, hu, rfl, _⟩ := (hT.told ht).struct hk
          obtain ⟨i, z, hi, hs, _, hz, hzok⟩ := (hT.told ht).info
          obtain ⟨places, hpl, hpl2⟩ := places_ok hT Fs.toList hall
          obtain ⟨hzr, hzc, _⟩ := zOK_rel hzok F (cl w) β
          obtain ⟨cvs', h1, h2, h3, h4⟩ := fillS_ok (T := T) (place := (places.toArray[·]?)) (fun i o t ti hf hti => by simpa using hpl2 i o t ti hf hti) ps cps.toList _ cs _ hp (hzr.cells hzc) hzc hcs
          refine ⟨.agg cvs', run_build w t cps cvs' ?_, .agg _ _ _ h2.size h2.at_, rfl⟩
          unfold Program.built
          rw [hi, hu]
          simp only [hz, hpl]
          exact h1
        · simp [Rd.run] at h
      · simp [Rd.run] at h
    · simp [Rd.run] at h
  · simp [Rd.run] at h

/-! Maps. -/
theorem isKey_ok {t : TypeId} {x : V} {cx : Value} (hT : TOK P T) (h : isKey T t x = true) (hx : Rel F (cl w) β x cx) : ∃ d, P.underlying t = some d ∧ MapKept.IsKey d cx := by
  unfold isKey at h
  split at h
  · rename_i ti hti
    split at h
    · rename_i k k' n hk
      cases hx
      have hkk : k = k' := by simpa using h
      subst hkk
      exact ⟨_, (hT.told hti).int hk, by simp [MapKept.IsKey]⟩
    · rename_i s hk
      cases hx
      exact ⟨_, (hT.told hti).str hk, by simp [MapKept.IsKey]⟩
    · cases h
  · cases h

theorem find_ok {d : TypeDesc} {k : V} {ck : Value} (hk : Rel F (cl w) β k ck) (hd : MapKept.IsKey d ck) : ∀ (es : List (V × V)) (ces : List MapEntry) (i : Nat) (r : Option V), es.length = ces.length →
    (∀ (j : Nat) (e : V × V), es[j]? = some e → ∃ ce, ces[j]? = some ce ∧ Rel F (cl w) β e.1 ce.key ∧ Rel F (cl w) β e.2 ce.val) → findKey k es = some r →
      match r with
      | none => Instr.findNow d ck ces i = some none
      | some v => ∃ j cv, Instr.findNow d ck ces i = some (some (i + j, cv)) ∧ Rel F (cl w) β v cv
  | [], [], i, r, _, _, h => by
    simp only [findKey, Option.some.injEq] at h
    subst h
    rfl
  | [], _ :: _, _, _, hl, _, _ => by simp at hl
  | _ :: _, [], _, _, hl, _, _ => by simp at hl
  | (k', v') :: es, ce :: ces, i, r, hl, hr, h => by
    obtain ⟨ce', hce, r1, r2⟩ := hr 0 (k', v') rfl
    simp only [List.getElem?_cons_zero, Option.some.injEq] at hce
    subst hce
    have same : ∀ b, eqCell k k' = some b → Instr.sameNow d ck ce.key = some b := by
      intro b hb
      unfold eqCell at hb
      split at hb
      · cases hk; cases d <;> simp [MapKept.IsKey] at hd; simp at r1; cases hb; generalize ce.key = q at *; cases r1; rfl
      · split at hb
        · rename_i hkk
          subst hkk
          cases hk; cases d <;> simp [MapKept.IsKey] at hd
          cases hb; generalize ce.key = q at *; cases r1; simp [Instr.sameNow]
        · cases hb
      · cases hk; cases d <;> simp [MapKept.IsKey] at hd; cases hb; generalize ce.key = q at *; cases r1; rfl
      · cases hb
    simp only [findKey] at h
    split at h
    · rename_i hb
      cases h
      exact ⟨0, ce.val, by simp [Instr.findNow, same _ hb], r2⟩
    · rename_i hb
      have ih := find_ok hk hd es ces (i + 1) r (by simpa using hl) (fun j e he => hr (j + 1) e he) h
      cases r with
      | none => simp only at ih ⊢; simp [Instr.findNow, same _ hb, ih]
      | some v =>
        obtain ⟨j, cv, h1, h2⟩ := ih
        exact ⟨j + 1, cv, by simp [Instr.findNow, same _ hb, h1]; omega, h2⟩
    · cases h

include hT in
theorem lookup_ok {B : Base} (hI : Inv B β F H w) {t : TypeId} {m k : V} {cok : Bool} {cm ck : Value} (h : (lookupR T t m k cok).run H l = some ((v, u), l')) (hm : Rel F (cl w) β m cm) (hk : Rel F (cl w) β k ck) :
    ∃ cw, (Instr.lookup t cm ck cok).run P w = .ok cw w ∧ Rel F (cl w) β v cw ∧ u = [] := by
  unfold lookupR at h
  split at h
  · rename_i ti' ht
    split at h
    · rename_i kt et hkd
      have hu := (hT.told ht).map hkd
      split at h
      · rename_i ti hti
        obtain ⟨z, hz, hzok⟩ := (hT.told hti).zero (P := P) w
        have hzr := (zOK_rel hzok F (cl w) β).1
        split at h
        · rename_i hkey
          obtain ⟨d, hd, hisk⟩ := isKey_ok hT hkey hk
          have give : ∀ (r : Option V) (cr : Value), (match r with | none => cr = z | some v => Rel F (cl w) β v cr) →
              Rel F (cl w) β (giveR ti cok r) (if cok then .tuple #[cr, .bool r.isSome] else cr) := by
            intro r cr hr
            have two : ∀ (x : V) (b : Bool), Rel F (cl w) β x cr → Rel F (cl w) β (if cok then .tup [x, .bool b] else x) (if cok then .tuple #[cr, .bool b] else cr) := by
              intro x b hx
              cases cok
              · simpa using hx
              · simp only [if_true]
                refine .tup _ _ _ rfl fun j v hj => ?_
                match j, hj with
                | 0, hj => simp at hj; subst hj; exact hx
                | 1, hj => simp at hj; subst hj; exact .bool _ _
                | j + 2, hj => simp at hj
            cases r with
            | none => exact two _ _ (by simp only at hr; rw [hr]; exact hzr)
            | some v => exact two _ _ hr
          split at h
          · simp only [Rd.run, Option.some.injEq, Prod.mk.injEq] at h
            obtain ⟨⟨rfl, rfl⟩, _⟩ := h
            cases hm
            refine ⟨_, ?_, give none z rfl, rfl⟩
            simp [Instr.lookup, run_underlying hu, MapKept.run_checkKey hd hisk, MapKept.run_findKey hd (l := []) (a := none) rfl, hz]
          · rename_i i
            simp only [Rd.run] at h
            split at h
            · rename_i ob hob
              split at h
              · rename_i es p
                split at h
                · rename_i r hr
                  simp only [Rd.run, Option.some.injEq, Prod.mk.injEq] at h
                  obtain ⟨⟨rfl, rfl⟩, _⟩ := h
                  cases hm with
                  | map _ _ b hb =>
                    obtain ⟨lc, hl, ho⟩ := hI.obs _ _ hob
                    rw [hb] at hl
                    cases hl
                    cases ho with
                    | mp _ _ _ ces clock hw hs hpure hre =>
                      have hf := find_ok (d := d) hk hisk es ces.toList 0 r (by simp [hs]) (fun j e he => by
                        have hj := (List.getElem?_eq_some_iff.1 he).1
                        obtain ⟨q1, q2⟩ := hre j e he
                        have hc : ces[j]? = some (ces[j]'(by omega)) := by simp
                        rw [Array.getD_eq_getD_getElem?, hc] at q1 q2
                        exact ⟨_, by simp, q1, q2⟩) hr
                      cases r with
                      | none =>
                        refine ⟨_, ?_, give none z rfl, rfl⟩
                        simp [Instr.lookup, run_underlying hu, MapKept.run_getObj_map hw, MapKept.run_checkKey hd hisk, MapKept.run_findKey hd hf, hz]
                      | some v =>
                        obtain ⟨j, cv, h1, h2⟩ := hf
                        refine ⟨_, ?_, give (some v) cv h2, rfl⟩
                        simp [Instr.lookup, run_underlying hu, MapKept.run_getObj_map hw, MapKept.run_checkKey hd hisk, MapKept.run_findKey hd h1]
                · simp [Rd.run] at h
              · simp [Rd.run] at h
            · simp at h
          · simp [Rd.run] at h
        · simp [Rd.run] at h
      · simp [Rd.run] at h
    · simp [Rd.run] at h
  · simp [Rd.run] at h
end

end Go.Proofs.Ytfdemnefkfkghaa.R
