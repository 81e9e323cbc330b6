/- Operations that turn nothing in memory. -/
import Derived.Test.YtfdemnefkfkghaaRB
import Derived.ChangeKeysEq
namespace Go.Proofs.Ytfdemnefkfkghaa.R
open Go Go.RowKit

/-! What the table of types tells is so. -/
def zeroOK : V → Value → Bool
  | .bool b, .bool b' => b == b'
  | .int k n, .int k' n' => decide (k = k') && decide (n = n')
  | .str s, .string s' => decide (s = s')
  | .nils, .slice none 0 0 => true
  | .nilp, .pointer none => true
  | .nilm, .map none => true
  | .nilf, .nilFunc => true
  | .nili, .nilIface => true
  | _, _ => false
def zerosOK : List V → List Value → Bool
  | [], [] => true
  | v :: r, z :: s => zeroOK v z && zerosOK r s
  | _, _ => false
def zOK (v : V) (z : Value) : Bool := match v, z with
  | .agg cs, .agg cvs => zerosOK cs cvs.toList
  | v, z => zeroOK v z
def kdOK : TK → TypeDesc → Bool
  | .bool, .bool => true
  | .str, .string => true
  | .int k, .int k' => decide (k = k')
  | .ptr, .pointer _ => true
  | .slice e, .slice e' => decide (e = e')
  | .map k e, .map k' e' => decide (k = k') && decide (e = e')
  | .struct fs, .struct Fs => decide (fs = Fs.toList.map fun f => (f.offset, f.type)) && Fs.toList.all fun f => f.name != "_"
  | .func, .func .. => true
  | .iface, .interface .. => true
  | _, _ => false
def tiOK (P : Program) (t : TypeId) (ti : TI) : Bool := match P.info? t, P.underlying t with
  | some i, some d => decide (i.size = ti.size) && decide (i.bytes = ti.bytes) && (match i.zero with | some z => zOK ti.zero z | none => false) && kdOK ti.kd d && decide (ti.zero.cells.length = ti.size) &&
      (!ti.agg || (!P.stoodInHeld t && !P.eqGuardType P.depth t)) && (ti.agg == (match ti.zero with | .agg _ => true | _ => false))
  | _, _ => false
def TOK (P : Program) (T : TT) : Prop := ∀ t ti, T t = some ti → tiOK P t ti = true

theorem zeroOK_rel {v : V} {z : Value} (h : zeroOK v z = true) (F : Froz) (c : Nat → Nat → Option Value) (β : Place) : Rel F c β v z ∧ v.isCell = true ∧ v.hasIds = false := by
  unfold zeroOK at h
  split at h <;> simp_all [V.isCell, V.hasIds] <;> constructor

theorem zerosOK_rel : ∀ {l : List V} {m : List Value}, zerosOK l m = true → l.length = m.length ∧ ∀ (j : Nat) (v : V), l[j]? = some v → ∃ z, m[j]? = some z ∧ zeroOK v z = true
  | [], [], _ => ⟨rfl, by simp⟩
  | v :: r, z :: s, h => by
    simp only [zerosOK, Bool.and_eq_true] at h
    obtain ⟨hl, hg⟩ := zerosOK_rel h.2
    refine ⟨by simp [hl], fun j u hu => ?_⟩
    cases j with
    | zero =>
      simp only [List.getElem?_cons_zero, Option.some.injEq] at hu
      exact ⟨z, rfl, hu ▸ h.1⟩
    | succ j => exact hg j u (by simpa using hu)
  | [], z :: s, h => by simp [zerosOK] at h
  | v :: r, [], h => by simp [zerosOK] at h

theorem zOK_rel {v : V} {z : Value} (h : zOK v z = true) (F : Froz) (c : Nat → Nat → Option Value) (β : Place) : Rel F c β v z ∧ v.cells.all V.isCell = true ∧ V.anyIds v.cells = false := by
  have anyF : ∀ l : List V, (∀ v ∈ l, v.hasIds = false) → V.anyIds l = false := by
    intro l
    induction l with
    | nil => intro _; rfl
    | cons x r ih => intro hl; simp only [V.anyIds, Bool.or_eq_false_iff]; exact ⟨hl x (.head _), ih fun v hv => hl v (.tail _ hv)⟩
  unfold zOK at h
  split at h
  · rename_i cs cvs
    obtain ⟨hl, hg⟩ := zerosOK_rel h
    refine ⟨.agg _ _ _ (by simpa using hl.symm) fun j v hv => ?_, ?_, ?_⟩
    · obtain ⟨z, hz, hk⟩ := hg j v hv
      have hz' : cvs[j]? = some z := by simpa using hz
      rw [Array.getD_eq_getD_getElem?, hz']
      exact (zeroOK_rel hk F c β).1
    · simp only [V.cells, List.all_eq_true]
      intro v hv
      obtain ⟨j, hj⟩ := List.mem_iff_getElem?.1 hv
      obtain ⟨z, hz, hk⟩ := hg j v hj
      exact (zeroOK_rel hk F c β).2.1
    · refine anyF _ fun v hv => ?_
      obtain ⟨j, hj⟩ := List.mem_iff_getElem?.1 hv
      obtain ⟨z, hz, hk⟩ := hg j v hj
      exact (zeroOK_rel hk F c β).2.2
  · have := zeroOK_rel h F c β
    refine ⟨this.1, ?_⟩
    have hc : v.cells = [v] := by
      cases v <;> first | rfl | (simp [V.isCell] at this)
    rw [hc]
    simp [this.2.1, V.anyIds, this.2.2]

structure Told (P : Program) (t : TypeId) (ti : TI) : Prop where
  info : ∃ i z, P.info? t = some i ∧ i.size = ti.size ∧ i.bytes = ti.bytes ∧ i.zero = some z ∧ zOK ti.zero z = true
  und : ∃ d, P.underlying t = some d ∧ kdOK ti.kd d = true
  zlen : ti.zero.cells.length = ti.size
  held : ti.agg = true → P.stoodInHeld t = false ∧ P.eqGuardType P.depth t = false
  zagg : ti.agg = true ↔ ∃ cs, ti.zero = .agg cs

theorem TOK.told {P : Program} {T : TT} (hT : TOK P T) {t : TypeId} {ti : TI} (h : T t = some ti) : Told P t ti := by
  have hk := hT t ti h
  unfold tiOK at hk
  split at hk
  · rename_i i d hi hd
    simp only [Bool.and_eq_true, decide_eq_true_eq] at hk
    obtain ⟨⟨⟨⟨⟨⟨h1, h2⟩, h3⟩, h4⟩, h5⟩, h6⟩, h7⟩ := hk
    split at h3
    · rename_i z hz
      refine ⟨⟨i, z, hi, h1, h2, hz, h3⟩, ⟨d, hd, h4⟩, h5, fun ha => ?_, ?_⟩
      · simp [ha] at h6
        exact h6
      · simp only [beq_iff_eq] at h7
        constructor
        · intro ha
          rw [ha] at h7
          split at h7
          · rename_i cs hcs
            exact ⟨cs, hcs⟩
          · cases h7
        · rintro ⟨cs, hcs⟩
          rw [h7, hcs]
    · cases h3
  · cases hk

section
variable {P : Program} {t : TypeId} {ti : TI} (h : Told P t ti)
include h
theorem Told.sizeOf (w : World) : (sizeOf t).run P w = .ok ti.size w := by
  obtain ⟨i, z, hi, hs, _⟩ := h.info
  simp [Go.sizeOf, typeInfo, hi, hs]
theorem Told.zero (w : World) : ∃ z, (zeroValue t).run P w = .ok z w ∧ zOK ti.zero z = true := by
  obtain ⟨i, z, hi, hs, _, hz, hk⟩ := h.info
  exact ⟨z, by simp [Go.zeroValue, typeInfo, hi, hz], hk⟩
theorem Told.isAgg (w : World) : (isAgg t).run P w = .ok ti.agg w := by
  obtain ⟨d, hd, hk⟩ := h.und
  unfold Go.isAgg TI.agg
  rw [Sem.run_bind, run_underlying hd w]
  unfold kdOK at hk
  split at hk <;> simp_all
theorem Told.row (ha : ti.agg = true) : ∃ d, P.underlying t = some d ∧ d.isRow = true := by
  obtain ⟨d, hd, hk⟩ := h.und
  refine ⟨d, hd, ?_⟩
  unfold TI.agg at ha
  split at ha
  · rename_i fs hfs
    rw [hfs] at hk
    unfold kdOK at hk
    split at hk <;> simp_all
  · cases ha
theorem Told.slice {e : TypeId} (hk : ti.kd = .slice e) : P.underlying t = some (.slice e) := by
  obtain ⟨d, hd, ho⟩ := h.und
  rw [hk] at ho
  unfold kdOK at ho
  split at ho <;> simp_all
theorem Told.map {k e : TypeId} (hk : ti.kd = .map k e) : P.underlying t = some (.map k e) := by
  obtain ⟨d, hd, ho⟩ := h.und
  rw [hk] at ho
  unfold kdOK at ho
  split at ho <;> simp_all
theorem Told.int {k : IntKind} (hk : ti.kd = .int k) : P.underlying t = some (.int k) := by
  obtain ⟨d, hd, ho⟩ := h.und
  rw [hk] at ho
  unfold kdOK at ho
  split at ho <;> simp_all
theorem Told.str (hk : ti.kd = .str) : P.underlying t = some .string := by
  obtain ⟨d, hd, ho⟩ := h.und
  rw [hk] at ho
  unfold kdOK at ho
  split at ho <;> simp_all
theorem Told.bool (hk : ti.kd = .bool) : P.underlying t = some .bool := by
  obtain ⟨d, hd, ho⟩ := h.und
  rw [hk] at ho
  unfold kdOK at ho
  split at ho <;> simp_all
theorem Told.ptr (hk : ti.kd = .ptr) : ∃ e, P.underlying t = some (.pointer e) := by
  obtain ⟨d, hd, ho⟩ := h.und
  rw [hk] at ho
  unfold kdOK at ho
  split at ho <;> simp_all
theorem Told.func (hk : ti.kd = .func) : ∃ a b c, P.underlying t = some (.func a b c) := by
  obtain ⟨d, hd, ho⟩ := h.und
  rw [hk] at ho
  unfold kdOK at ho
  split at ho <;> simp_all
theorem Told.iface (hk : ti.kd = .iface) : ∃ a, P.underlying t = some (.interface a) := by
  obtain ⟨d, hd, ho⟩ := h.und
  rw [hk] at ho
  unfold kdOK at ho
  split at ho <;> simp_all
theorem Told.struct {fs : List (Nat × TypeId)} (hk : ti.kd = .struct fs) : ∃ Fs : Array Field, P.underlying t = some (.struct Fs) ∧ fs = Fs.toList.map (fun f => (f.offset, f.type)) ∧ ∀ f ∈ Fs.toList, f.name ≠ "_" := by
  obtain ⟨d, hd, ho⟩ := h.und
  rw [hk] at ho
  unfold kdOK at ho
  split at ho <;> simp_all
  intro f hf
  obtain ⟨i, hi, rfl⟩ := Array.mem_iff_getElem.1 hf
  exact ho.2 i hi
end

/-! Operands. -/
theorem ofCell_rel (F : Froz) (c : Nat → Nat → Option Value) (β : Place) (v : Value) : Rel F c β (ofCell v) v := by
  unfold ofCell
  split <;> constructor

theorem ofConst_rel (F : Froz) (c : Nat → Nat → Option Value) (β : Place) (v : Value) : Rel F c β (ofConst v) v := by
  unfold ofConst
  split
  · rename_i cs
    refine .agg _ _ _ (by simp) fun j v hv => ?_
    simp only [List.getElem?_map, Option.map_eq_some_iff] at hv
    obtain ⟨u, hu, rfl⟩ := hv
    have hu' : cs[j]? = some u := by simpa using hu
    rw [Array.getD_eq_getD_getElem?, hu']
    exact ofCell_rel F c β u
  · exact ofCell_rel F c β v

theorem ev_rel {F : Froz} {w : World} {β : Place} {e : Env} {a : Act} (he : EnvRel F w β e a.tmps) (x : Operand) : Rel F (cl w) β (ev e x) (a.eval x) := by
  cases x with
  | tmp t => exact he t
  | const v => exact ofConst_rel _ _ _ v
  | global g => exact .undef _ _
  | func f => exact .clo _ _ _ _ rfl (by simp)

theorem evs_rel {F : Froz} {w : World} {β : Place} {e : Env} {a : Act} (he : EnvRel F w β e a.tmps) (xs : Array Operand) : RelAll F (cl w) β (evs e xs.toList) (xs.map a.eval) := by
  have key : ∀ l : List Operand, (evs e l).length = l.length ∧ ∀ (j : Nat) (v : V), (evs e l)[j]? = some v → ∃ x, l[j]? = some x ∧ v = ev e x := by
    intro l
    induction l with
    | nil => exact ⟨rfl, by simp [evs]⟩
    | cons x r ih =>
      refine ⟨by simp [evs, ih.1], fun j v hv => ?_⟩
      cases j with
      | zero => simp [evs] at hv; exact ⟨x, rfl, hv.symm⟩
      | succ j => exact ih.2 j v (by simpa [evs] using hv)
  obtain ⟨hl, hg⟩ := key xs.toList
  refine ⟨by simp [hl], fun j v hv => ?_⟩
  obtain ⟨x, hx, rfl⟩ := hg j v hv
  have hx' : xs[j]? = some x := by simpa using hx
  rw [Array.getD_eq_getD_getElem?, Array.getElem?_map, hx']
  exact ev_rel he x

theorem parts_rel {e : Env} : ∀ (l : List (Nat × Operand)), (parts e l).length = l.length ∧ ∀ (j : Nat) (p : Nat × V), (parts e l)[j]? = some p → ∃ q, l[j]? = some q ∧ p = (q.1, ev e q.2)
  | [] => ⟨rfl, by simp [parts]⟩
  | (i, x) :: r => by
    obtain ⟨hl, hg⟩ := parts_rel (e := e) r
    refine ⟨by simp [parts, hl], fun j p hp => ?_⟩
    cases j with
    | zero => simp [parts] at hp; exact ⟨(i, x), rfl, hp.symm⟩
    | succ j => exact hg j p (by simpa [parts] using hp)

/-- An operation's answer. -/
theorem wp_value {P : Program} {o : Oper} {a : Act} {w w' : World} {next : Act → World → Prop} {Q : Exit → Act → World → Prop} {cv : Value} (h : (execOp a.eval o).run P w = .ok (.value cv) w') (hn : next (a.put o.dst cv) w') : o.wp P a w next Q := by
  unfold Oper.wp
  rw [h]
  exact hn
theorem wp_skips {P : Program} {o : Oper} {a : Act} {w w' : World} {next : Act → World → Prop} {Q : Exit → Act → World → Prop} (h : (execOp a.eval o).run P w = .ok .skip w') (hn : next (a.put o.dst undef) w') : o.wp P a w next Q := by
  unfold Oper.wp
  rw [h]
  exact hn

/-! One by one. -/
section
variable {P : Program} {T : TT} (hT : TOK P T) {F : Froz} {w : World} {β : Place} {H : Heap} {l l' : List Nat} {v : V} {u : Upd}

theorem ok_run {x : Option V} (h : (ok x).run H l = some ((v, u), l')) : x = some v ∧ u = [] ∧ l' = l := by
  unfold ok at h
  split at h <;> simp_all [Rd.run]

theorem getD_agg {cvs : Array Value} {j : Nat} (h : j < cvs.size) : cvs.getD j undef = cvs[j] := by
  simp [Array.getD, h]

/-- A part of cells, as a value of its type. -/
theorem partOf_rel {t : TypeId} {ti : TI} (ht : Told P t ti) {cs : List V} {cvs : Array Value} {o : Nat} (hs : cvs.size = cs.length) (hr : ∀ (j : Nat) (v : V), cs[j]? = some v → Rel F (cl w) β v (cvs.getD j undef))
    (hp : partOf ti cs o = some v) : ∃ cv, (part t cvs o).run P w = .ok cv w ∧ Rel F (cl w) β v cv := by
  unfold partOf at hp
  unfold part
  rw [Sem.run_bind, ht.isAgg w]
  simp only [Result.andThen_ok]
  split at hp
  · rename_i ha
    split at hp
    · rename_i hlen
      cases hp
      refine ⟨.agg (cvs.extract o (o + ti.size)), by simp [ha, ht.sizeOf w], .agg _ _ _ (by simp; omega) fun j v hv => ?_⟩
      rw [List.getElem?_take] at hv
      split at hv
      · rename_i hj
        rw [List.getElem?_drop] at hv
        have := hr _ _ hv
        rwa [show (cvs.extract o (o + ti.size)).getD j undef = cvs.getD (o + j) undef by
          rw [Array.getD_eq_getD_getElem?, Array.getD_eq_getD_getElem?, Array.getElem?_extract]
          rw [if_pos (by omega)]]
      · cases hv
    · cases hp
  · rename_i ha
    have hlt : o < cs.length := (List.getElem?_eq_some_iff.1 hp).1
    have hcv : cvs[o]? = some (cvs[o]'(by omega)) := by simp
    refine ⟨cvs[o]'(by omega), by simp [ha, hcv], ?_⟩
    have := hr _ _ hp
    rwa [getD_agg (by omega)] at this

include hT in
theorem field_ok {t : TypeId} {x : V} {f : Nat} {cv : Value} (h : (fieldR T t x f).run H l = some ((v, u), l')) (hx : Rel F (cl w) β x cv) :
    ∃ cw, (Instr.field t cv f).run P w = .ok cw w ∧ Rel F (cl w) β v cw ∧ u = [] := by
  unfold fieldR at h
  split at h
  · rename_i ti' ht
    split at h
    · rename_i fs hk
      split at h
      · rename_i o ft hf
        split at h
        · rename_i ti cs htf
          obtain ⟨hp, rfl, rfl⟩ := ok_run h
          obtain ⟨Fs, hu, rfl, _⟩ := (hT.told ht).struct hk
          cases hx with
          | agg _ _ cvs hs hr =>
            simp only [List.getElem?_map, Option.map_eq_some_iff] at hf
            obtain ⟨f', hf', he⟩ := hf
            cases he
            obtain ⟨cw, hrun, hrel⟩ := partOf_rel (hT.told htf) hs hr hp
            refine ⟨cw, ?_, hrel, rfl⟩
            have hf'' : Fs[f]? = some f' := by simpa using hf'
            simp [Instr.field, run_underlying hu, hf'', asAgg, hrun]
        · simp [Rd.run] at h
      · simp [Rd.run] at h
    · simp [Rd.run] at h
  · simp [Rd.run] at h

theorem pick_ok {c a b : V} {cc ca cb : Value} (h : (pickR c a b).run H l = some ((v, u), l')) (hc : Rel F (cl w) β c cc) (ha : Rel F (cl w) β a ca) (hb : Rel F (cl w) β b cb) :
    ∃ d : Bool, cc = .bool d ∧ Rel F (cl w) β v (if d then ca else cb) ∧ u = [] := by
  unfold pickR at h
  split at h
  · rename_i d
    simp only [Rd.run, Option.some.injEq, Prod.mk.injEq] at h
    obtain ⟨⟨rfl, rfl⟩, _⟩ := h
    cases hc
    exact ⟨d, rfl, by cases d <;> simp [ha, hb], rfl⟩
  · simp [Rd.run] at h

theorem nilCheck_ok {x : V} {cv : Value} (h : (nilCheckR x).run H l = some ((v, u), l')) (hx : Rel F (cl w) β x cv) :
    v = x ∧ u = [] ∧ ((∃ a, cv = .pointer (some a)) ∨ ∃ f cs, cv = .func (.func f) #[] cs) := by
  unfold nilCheckR at h
  split at h <;> simp only [Rd.run, Option.some.injEq, Prod.mk.injEq, reduceCtorEq] at h
  · obtain ⟨⟨rfl, rfl⟩, _⟩ := h
    cases hx; exact ⟨rfl, rfl, .inl ⟨_, rfl⟩⟩
  · obtain ⟨⟨rfl, rfl⟩, _⟩ := h
    cases hx; exact ⟨rfl, rfl, .inl ⟨_, rfl⟩⟩
  · obtain ⟨⟨rfl, rfl⟩, _⟩ := h
    cases hx; exact ⟨rfl, rfl, .inr ⟨_, _, rfl⟩⟩

theorem extract_ok {x : V} {i : Nat} {cv : Value} (h : (extractR x i).run H l = some ((v, u), l')) (hx : Rel F (cl w) β x cv) : ∃ cw, (Instr.extract cv i).run P w = .ok cw w ∧ Rel F (cl w) β v cw ∧ u = [] := by
  unfold extractR at h
  split at h
  · obtain ⟨hp, rfl, rfl⟩ := ok_run h
    cases hx with
    | tup _ _ cvs hs hr =>
      have hlt := (List.getElem?_eq_some_iff.1 hp).1
      have hcv : cvs[i]? = some (cvs[i]'(by omega)) := by simp
      refine ⟨cvs[i]'(by omega), by simp [Instr.extract, hcv], ?_, rfl⟩
      have := hr _ _ hp
      rwa [getD_agg (by omega)] at this
  · simp [Rd.run] at h

include hT in
theorem fieldAddr_ok {t : TypeId} {x : V} {f : Nat} {cv : Value} (h : (fieldAddrR T t x f).run H l = some ((v, u), l')) (hx : Rel F (cl w) β x cv) :
    ∃ cw, (Instr.fieldAt t cv f).run P w = .ok cw w ∧ Rel F (cl w) β v cw ∧ u = [] := by
  unfold fieldAddrR at h
  split at h
  · rename_i ti ht
    split at h
    · rename_i fs hk
      split at h
      · rename_i o ft hf
        obtain ⟨Fs, hu, rfl, _⟩ := (hT.told ht).struct hk
        simp only [List.getElem?_map, Option.map_eq_some_iff] at hf
        obtain ⟨f', hf', he⟩ := hf
        cases he
        have hf'' : Fs[f]? = some f' := by simpa using hf'
        split at h
        · rename_i fti hft
          split at h
          · simp [Rd.run] at h
          · rename_i h0
            have hplace : ∀ b o, (fieldPlace ⟨b, o, none⟩ f').run P w = .ok ⟨b, o + f'.offset, none⟩ w := fun b o => by
              simp [fieldPlace, (hT.told hft).sizeOf w, h0, Addr.add_mid]
            split at h <;> simp only [Rd.run, Option.some.injEq, Prod.mk.injEq, reduceCtorEq] at h
            · rename_i i r off
              obtain ⟨⟨rfl, rfl⟩, _⟩ := h
              cases hx with
              | ptr _ _ _ _ b st C hb =>
                refine ⟨.pointer (some ⟨b, r * st + (off + f'.offset), none⟩), ?_, .ptr _ _ _ _ _ _ C hb, rfl⟩
                simp [Instr.fieldAt, run_underlying hu, hf'', Instr.sureAddr, hplace, Nat.add_assoc]
            · rename_i r off
              obtain ⟨⟨rfl, rfl⟩, _⟩ := h
              cases hx with
              | el _ _ _ b base g hcell hF hr =>
                refine ⟨.pointer (some ⟨b, base + (off + f'.offset), none⟩), ?_, .el _ _ _ _ base g hcell hF hr, rfl⟩
                simp [Instr.fieldAt, run_underlying hu, hf'', Instr.sureAddr, hplace, Nat.add_assoc]
        · simp [Rd.run] at h
      · simp [Rd.run] at h
    · simp [Rd.run] at h
  · simp [Rd.run] at h

/-- The cells of a row in memory, as a value of a type. -/
theorem load_at {t : TypeId} {ti : TI} (ht : Told P t ti) {row : List V} {off b base : Nat} (hr : ∀ (j : Nat) (v : V), row[j]? = some v → ∃ cv, cl w b (base + j) = some cv ∧ Rel F (cl w) β v cv) (hp : partOf ti row off = some v) :
    ∃ cw, (Instr.loadAt t (.pointer (some ⟨b, base + off, none⟩))).run P w = .ok cw w ∧ Rel F (cl w) β v cw := by
  unfold partOf at hp
  split at hp
  · rename_i ha
    split at hp
    · rename_i hlen
      cases hp
      obtain ⟨d, hd, hrow⟩ := ht.row ha
      obtain ⟨i, z, hi, hs, _⟩ := ht.info
      let g : Nat → Value := fun j => (cl w b (base + off + j)).getD undef
      have hg : ∀ j, j < ti.size → ∃ v, row[off + j]? = some v ∧ cl w b (base + off + j) = some (g j) ∧ Rel F (cl w) β v (g j) := by
        intro j hj
        have hlt : off + j < row.length := by omega
        obtain ⟨cv, h1, h2⟩ := hr (off + j) row[off + j] (by simp [hlt])
        rw [← Nat.add_assoc] at h1
        have : g j = cv := by simp [g, h1]
        exact ⟨row[off + j], by simp [hlt], by rw [h1, this], by rw [this]; exact h2⟩
      refine ⟨_, run_loadAt_mid w b (base + off) t ((List.range ti.size).map g) d (fun j v hv => ?_) hd hrow (by simp [hi, hs]), .agg _ _ _ (by simp; omega) fun j v hv => ?_⟩
      · simp only [List.getElem?_map, Option.map_eq_some_iff] at hv
        obtain ⟨k, hk, rfl⟩ := hv
        have hj : j < ti.size := by simpa using (List.getElem?_eq_some_iff.1 hk).1
        have : k = j := by
          rw [List.getElem?_range hj] at hk
          exact (Option.some.inj hk).symm
        subst this
        obtain ⟨_, _, h2, _⟩ := hg k hj
        exact h2
      · rw [List.getElem?_take] at hv
        split at hv
        · rename_i hj
          rw [List.getElem?_drop] at hv
          obtain ⟨u, h1, h2, h3⟩ := hg j hj
          rw [hv] at h1
          cases h1
          rwa [show ((List.range ti.size).map g).toArray.getD j undef = g j by simp [Array.getD, hj]]
        · cases hv
    · cases hp
  · rename_i ha
    obtain ⟨cv, h1, h2⟩ := hr _ _ hp
    have h1' : w.cell? ⟨b, base + off, none⟩ = some cv := h1
    refine ⟨cv, ?_, h2⟩
    simp [Instr.loadAt, Instr.sureAddr, loadVar, ht.isAgg w, ha, h1']

include hT in
theorem load_ok {B : Base} {t : TypeId} {x : V} {cv : Value} (hI : Inv B β F H w) (h : (loadR T t x).run H l = some ((v, u), l')) (hx : Rel F (cl w) β x cv) :
    ∃ cw, (Instr.loadAt t cv).run P w = .ok cw w ∧ Rel F (cl w) β v cw ∧ u = [] := by
  unfold loadR at h
  split at h
  · simp [Rd.run] at h
  · rename_i ti ht
    split at h
    · rename_i i r off
      simp only [Rd.run] at h
      split at h
      · rename_i ob hob
        split at h
        · rename_i st rows frz pure
          split at h
          · rename_i row hrow
            obtain ⟨hp, rfl, rfl⟩ := ok_run h
            cases hx with
            | ptr _ _ _ _ b st' C hb =>
              obtain ⟨lc, hl, ho⟩ := hI.obs _ _ hob
              rw [hb] at hl
              cases hl
              cases ho with
              | buf _ _ _ _ _ _ hst hthere hC hlen hcell hpure hr =>
                obtain ⟨cw, h1, h2⟩ := load_at (hT.told ht) (base := r * st) (fun j v hv => hr r j row v hrow hv) hp
                exact ⟨cw, h1, h2, rfl⟩
          · simp [Rd.run] at h
        · simp [Rd.run] at h
      · simp at h
    · rename_i row off
      obtain ⟨hp, rfl, rfl⟩ := ok_run h
      cases hx with
      | el _ _ _ b base g hcell hF hr =>
        obtain ⟨cw, h1, h2⟩ := load_at (β := β) (F := F) (w := w) (hT.told ht) (b := b) (base := base) (fun j v hv => by
          have hj := (List.getElem?_eq_some_iff.1 hv).1
          exact ⟨g j, (hF j hj).2, (hr j v hv).mono (fun b o h => ⟨h, rfl⟩) (by simp [none0])⟩) hp
        exact ⟨cw, h1, h2, rfl⟩
    · simp [Rd.run] at h

theorem natOf_rel {x : V} {n : Nat} {cv : Value} (h : natOf x = some n) (hx : Rel F (cl w) β x cv) : ∃ k, cv = .int k (n : Int) := by
  unfold natOf at h
  split at h
  · rename_i k m
    split at h
    · rename_i hm
      cases h
      cases hx
      exact ⟨k, by rw [Int.toNat_of_nonneg hm]⟩
    · cases h
  · cases h

include hT in
theorem indexAddr_ok {t : TypeId} {x i : V} {cv ci : Value} (h : (indexAddrR T t x i).run H l = some ((v, u), l')) (hx : Rel F (cl w) β x cv) (hi : Rel F (cl w) β i ci) :
    ∃ cw, (Instr.indexAt t cv ci).run P w = .ok cw w ∧ Rel F (cl w) β v cw ∧ u = [] := by
  unfold indexAddrR at h
  split at h
  · rename_i ti' ht
    split at h
    · rename_i el hk
      have hu := (hT.told ht).slice hk
      split at h
      · rename_i ti n htel hn
        obtain ⟨k, rfl⟩ := natOf_rel hn hi
        obtain ⟨z, zz, hinfo, hsz, _⟩ := (hT.told htel).info
        have hsize := (hT.told htel).sizeOf w
        split at h
        · rename_i rows
          split at h
          · rename_i row hrow
            split at h
            · rename_i hall
              simp only [Rd.run, Option.some.injEq, Prod.mk.injEq] at h
              obtain ⟨⟨rfl, rfl⟩, _⟩ := h
              have hlt := (List.getElem?_eq_some_iff.1 hrow).1
              have hrl : ∀ r ∈ rows, r.length = ti.size := by simpa using hall
              cases hx with
              | fz0 => simp at hlt
              | fz _ _ b o st cap g hl hst hcell hF hr =>
                have hmem : row ∈ rows := List.mem_of_getElem? hrow
                have hst' : st = ti.size := by rw [← hst row hmem, hrl row hmem]
                subst hst'
                refine ⟨.pointer (some ⟨b, o + n * ti.size + 0, none⟩), ?_, .el _ row 0 b (o + n * ti.size) (g n) (hcell row hmem) (fun j hj => ?_) (fun j v hv => hr n j row v hrow hv), rfl⟩
                · simp [Instr.indexAt, asIntOf, run_underlying hu, hlt, hsize, Addr.add_mid]
                · exact hF n j hlt (by rw [← hst row hmem]; exact hj)
            · simp [Rd.run] at h
          · simp [Rd.run] at h
        · rename_i id st o len cap
          split at h
          · rename_i hc
            obtain ⟨hlt, rfl⟩ := hc
            simp only [Rd.run, Option.some.injEq, Prod.mk.injEq] at h
            obtain ⟨⟨rfl, rfl⟩, _⟩ := h
            cases hx with
            | ms0 => simp at hlt
            | ms _ _ _ _ _ _ b C cc o' hb hc hlen hcap hnone ho =>
              have ho' : o' = o * ti.size := by rcases ho with h | h <;> omega
              subst ho'
              refine ⟨.pointer (some ⟨b, (o + n) * ti.size + 0, none⟩), ?_, .ptr _ _ _ _ _ _ C hb, rfl⟩
              simp [Instr.indexAt, asIntOf, run_underlying hu, hlt, hsize, Addr.add_mid, Nat.add_mul]
          · simp [Rd.run] at h
        · simp [Rd.run] at h
      · simp [Rd.run] at h
    · simp [Rd.run] at h
  · simp [Rd.run] at h

include hT in
theorem index_ok {t : TypeId} {x i : V} {cv ci : Value} (h : (indexR T t x i).run H l = some ((v, u), l')) (hx : Rel F (cl w) β x cv) (hi : Rel F (cl w) β i ci) :
    ∃ cw, (Instr.index t cv ci).run P w = .ok cw w ∧ Rel F (cl w) β v cw ∧ u = [] := by
  unfold indexR at h
  split at h
  · rename_i ti' ht
    split at h
    · rename_i hk
      have hu := (hT.told ht).str hk
      split at h
      · rename_i s n hn
        obtain ⟨k, rfl⟩ := natOf_rel hn hi
        split at h
        · rename_i b hb
          simp only [Rd.run, Option.some.injEq, Prod.mk.injEq] at h
          obtain ⟨⟨rfl, rfl⟩, _⟩ := h
          cases hx
          exact ⟨_, by simp [Instr.index, asIntOf, run_underlying hu, hb], .int _ _ _, rfl⟩
        · simp [Rd.run] at h
      · simp [Rd.run] at h
    · simp [Rd.run] at h
  · simp [Rd.run] at h

include hT in
theorem conv_ok {src dst : TypeId} {x : V} {cv : Value} (h : conv T src dst x = some v) (hx : Rel F (cl w) β x cv) : ∃ cw, (convert src dst cv).run P w = .ok cw w ∧ Rel F (cl w) β v cw := by
  unfold conv at h
  split at h
  · rename_i a b ha hb
    split at h
    · rename_i k hk k' hk'
      cases h
      cases hx
      exact ⟨_, by simp [convert, run_underlying ((hT.told ha).int ‹_›), run_underlying ((hT.told hb).int ‹_›), Conv.intToInt], .int _ _ _⟩
    · cases h
      cases hx
      exact ⟨_, by simp [convert, run_underlying ((hT.told ha).str ‹_›), run_underlying ((hT.told hb).str ‹_›)], .str _ _⟩
    · cases h
  · cases h

theorem un_ok {op : UnOp} {x : V} {cv : Value} (h : un op x = some v) (hx : Rel F (cl w) β x cv) : ∃ cw, (Op.unary op cv).run P w = .ok cw w ∧ Rel F (cl w) β v cw := by
  unfold un at h
  split at h
  · split at h
    · cases h; cases hx; exact ⟨_, rfl, .bool _ _⟩
    · cases h
  · split at h
    · cases h; cases hx; exact ⟨_, rfl, .int _ _ _⟩
    · cases h
  · cases h

theorem max2_ok {x y : V} {cx cy : Value} (h : max2 x y = some v) (hx : Rel F (cl w) β x cx) (hy : Rel F (cl w) β y cy) : ∃ cw, (Builtin.max_ #[] 0 #[cx, cy]).run P w = .ok cw w ∧ Rel F (cl w) β v cw := by
  unfold max2 at h
  split at h
  · split at h
    · cases h; cases hx; cases hy
      exact ⟨_, by simp [Builtin.max_, Builtin.max2], .int _ _ _⟩
    · cases h
  · cases h

theorem min2_ok {x y : V} {cx cy : Value} (h : min2 x y = some v) (hx : Rel F (cl w) β x cx) (hy : Rel F (cl w) β y cy) : ∃ cw, (Builtin.min_ #[] 0 #[cx, cy]).run P w = .ok cw w ∧ Rel F (cl w) β v cw := by
  unfold min2 at h
  split at h
  · split at h
    · cases h; cases hx; cases hy
      exact ⟨_, by simp [Builtin.min_, Builtin.min2], .int _ _ _⟩
    · cases h
  · cases h
end

end Go.Proofs.Ytfdemnefkfkghaa.R
