/- Objects numbered anew; frozen. -/
import Derived.Test.YtfdemnefkfkghaaRH
namespace Go.Proofs.Ytfdemnefkfkghaa.R
set_option linter.unusedVariables false
set_option linter.unusedSimpArgs false
open Go Go.RowKit

/-! Lists of numbers. -/
theorem idx_get : ∀ {l : List Nat} {i j : Nat}, idx l i = some j → l[j]? = some i
  | [], i, j, h => by simp [idx] at h
  | x :: r, i, j, h => by
    unfold idx at h
    cases hb : Nat.beq x i
    · simp only [hb, cond_false, Option.map_eq_some_iff] at h
      obtain ⟨k, hk, rfl⟩ := h
      simpa using idx_get hk
    · simp only [hb, cond_true, Option.some.injEq] at h
      subst h
      have := Nat.eq_of_beq_eq_true hb
      simp [this]

theorem nth_eq : ∀ (l : List Nat) (j : Nat), nth l j = l[j]?
  | [], j => by simp [nth]
  | x :: r, 0 => rfl
  | x :: r, j + 1 => by simp [nth, nth_eq r j]

theorem begins_get : ∀ {n i : Nat} {l : List Nat}, begins n i l = true → ∀ k, k < n → l[k]? = some (i + k)
  | 0, i, l, _, k, hk => by omega
  | n + 1, i, [], h, k, hk => by simp [begins] at h
  | n + 1, i, x :: r, h, k, hk => by
    simp only [begins, Bool.and_eq_true] at h
    have hx := Nat.eq_of_beq_eq_true h.1
    cases k with
    | zero => simp [hx]
    | succ k =>
      have := begins_get h.2 k (by omega)
      simp only [List.getElem?_cons_succ, this]
      congr 1
      omega

theorem nodup_at {l : List Nat} (h : l.Nodup) {i j x : Nat} (hi : l[i]? = some x) (hj : l[j]? = some x) : i = j := by
  have h1 := (List.getElem?_eq_some_iff.1 hi).1
  have h2 := (List.getElem?_eq_some_iff.1 hj).1
  rw [List.getElem?_eq_getElem h1] at hi
  rw [List.getElem?_eq_getElem h2] at hj
  exact (List.getElem_inj h).1 ((Option.some.inj hi).trans (Option.some.inj hj).symm)

theorem nodup_snoc {l : List Nat} {i : Nat} (h : l.Nodup) (hi : ¬ l.contains i = true) : (l ++ [i]).Nodup := by
  rw [List.nodup_append]
  refine ⟨h, by simp, fun a ha b hb => ?_⟩
  simp only [List.mem_singleton] at hb
  subst hb
  rintro rfl
  exact hi (by simpa using ha)

theorem reach_nodup (keep : Nat) (h : Heap) : ∀ (n : Nat) (todo acc : List Nat), acc.Nodup → (reach keep h n todo acc).Nodup
  | 0, _, acc, ha => ha
  | n + 1, [], acc, ha => ha
  | n + 1, i :: todo, acc, ha => by
    unfold reach
    split
    · exact reach_nodup keep h n todo acc ha
    · rename_i hi
      split
      · exact reach_nodup keep h n _ _ (nodup_snoc ha hi)
      · split
        · exact reach_nodup keep h n _ _ (nodup_snoc ha hi)
        · exact reach_nodup keep h n _ _ ha

/-! An object with its cells' objects numbered anew. -/
theorem re_pure {f : Nat → Option Nat} {v v' : V} (h : V.re f v = some v') (hv : v.isCell = true) : v'.isCell = true := by
  cases v <;> simp [V.isCell] at hv <;> simp only [V.re, Option.map_eq_some_iff, Option.some.injEq] at h <;> first | (subst h; rfl) | (obtain ⟨_, _, rfl⟩ := h; rfl)

theorem reRows_get {f : Nat → Option Nat} : ∀ {l l' : List (List V)}, reRows f l = some l' → l'.length = l.length ∧ ∀ (j : Nat) (r' : List V), l'[j]? = some r' → ∃ r, l[j]? = some r ∧ V.reAll f r = some r'
  | [], l', h => by
    simp only [reRows, Option.some.injEq] at h
    subst h
    exact ⟨rfl, by simp⟩
  | v :: r, l', h => by
    simp only [reRows, Option.bind_eq_some_iff, Option.map_eq_some_iff] at h
    obtain ⟨v', hv, r', hr, rfl⟩ := h
    obtain ⟨hl, hg⟩ := reRows_get hr
    refine ⟨by simp [hl], fun j u hu => ?_⟩
    cases j with
    | zero => exact ⟨v, rfl, by simpa using hu ▸ hv⟩
    | succ j => exact hg j u (by simpa using hu)

theorem rePairs_get {f : Nat → Option Nat} : ∀ {l l' : List (V × V)}, rePairs f l = some l' → l'.length = l.length ∧ ∀ (j : Nat) (p' : V × V), l'[j]? = some p' → ∃ p, l[j]? = some p ∧ V.re f p.1 = some p'.1 ∧ V.re f p.2 = some p'.2
  | [], l', h => by
    simp only [rePairs, Option.some.injEq] at h
    subst h
    exact ⟨rfl, by simp⟩
  | (k, v) :: r, l', h => by
    simp only [rePairs, Option.bind_eq_some_iff, Option.map_eq_some_iff] at h
    obtain ⟨k', hk, v', hv, r', hr, rfl⟩ := h
    obtain ⟨hl, hg⟩ := rePairs_get hr
    refine ⟨by simp [hl], fun j u hu => ?_⟩
    cases j with
    | zero =>
      simp only [List.getElem?_cons_zero, Option.some.injEq] at hu
      subst hu
      exact ⟨(k, v), rfl, hk, hv⟩
    | succ j => exact hg j u (by simpa using hu)

theorem ObRel.re {F : Froz} {w : World} {β β' : Place} {lc : Loc} {f : Nat → Option Nat} {o o' : Ob} (h : ObRel F w β lc o) (hf : ∀ i j, f i = some j → β' j = β i) (ho : o.re f = some o') : ObRel F w β' lc o' := by
  cases h with
  | nil st frz pure =>
    cases pure
    · simp only [Ob.re, reRows, Option.map_some, Option.some.injEq] at ho
      subst ho
      exact .nil _ _ _
    · simp only [Ob.re, Option.some.injEq] at ho
      subst ho
      exact .nil _ _ _
  | buf b st C rows frz pure hst ht hC hlen hcell hpure h =>
    cases pure
    · simp only [Ob.re, Option.map_eq_some_iff] at ho
      obtain ⟨rows', hr, rfl⟩ := ho
      obtain ⟨hl, hg⟩ := reRows_get hr
      have row : ∀ r' ∈ rows', ∃ r ∈ rows, V.reAll f r = some r' := fun r' hm => by
        obtain ⟨j, hj⟩ := List.mem_iff_getElem?.1 hm
        obtain ⟨r, h1, h2⟩ := hg j r' hj
        exact ⟨r, List.mem_of_getElem? h1, h2⟩
      refine .buf b st C rows' frz false hst ht (by omega) (fun r' hm => ?_) (fun r' hm v' hv => ?_) (by simp) fun r j r' v' hr' hv' => ?_
      · obtain ⟨r, h1, h2⟩ := row r' hm
        rw [(reAll_get h2).1, hlen r h1]
      · obtain ⟨r, h1, h2⟩ := row r' hm
        obtain ⟨j, hj⟩ := List.mem_iff_getElem?.1 hv
        obtain ⟨v, h3, h4⟩ := (reAll_get h2).2 j v' hj
        exact re_pure h4 (hcell r h1 v (List.mem_of_getElem? h3))
      · obtain ⟨r0, h1, h2⟩ := hg r r' hr'
        obtain ⟨v, h3, h4⟩ := (reAll_get h2).2 j v' hv'
        obtain ⟨cv, h5, h6⟩ := h r j r0 v h1 h3
        exact ⟨cv, h5, h6.re hf h4⟩
    · simp only [Ob.re, Option.some.injEq] at ho
      subst ho
      exact .buf b st C rows frz true hst ht hC hlen hcell hpure fun r j row v hr hv => by
        obtain ⟨cv, h1, h2⟩ := h r j row v hr hv
        exact ⟨cv, h1, h2.pure (hpure rfl row (List.mem_of_getElem? hr) v (List.mem_of_getElem? hv)) _⟩
  | mp b es pure ces clock hw hs hpure h =>
    cases pure
    · simp only [Ob.re, Option.map_eq_some_iff] at ho
      obtain ⟨es', he, rfl⟩ := ho
      obtain ⟨hl, hg⟩ := rePairs_get he
      exact .mp b es' false ces clock hw (by omega) (by simp) fun j e' he' => by
        obtain ⟨e, h1, h2, h3⟩ := hg j e' he'
        exact ⟨(h j e h1).1.re hf h2, (h j e h1).2.re hf h3⟩
    · simp only [Ob.re, Option.some.injEq] at ho
      subst ho
      exact .mp b es true ces clock hw hs hpure fun j e he => ⟨(h j e he).1.pure (hpure rfl e (List.mem_of_getElem? he)).1 _, (h j e he).2.pure (hpure rfl e (List.mem_of_getElem? he)).2 _⟩

/-- What of an object stays. -/
theorem re_buf {f : Nat → Option Nat} {o : Ob} {st : Nat} {rows : List (List V)} {frz pure : Bool} (h : o.re f = some (.buf st rows frz pure)) : ∃ rows0, o = .buf st rows0 frz pure ∧ rows0.length = rows.length := by
  cases o with
  | buf st0 rows0 frz0 pure0 =>
    cases pure0
    · simp only [Ob.re, Option.map_eq_some_iff, Ob.buf.injEq] at h
      obtain ⟨rows', hr, rfl, rfl, rfl, rfl⟩ := h
      exact ⟨rows0, rfl, (reRows_get hr).1.symm⟩
    · simp only [Ob.re, Option.some.injEq, Ob.buf.injEq] at h
      obtain ⟨rfl, rfl, rfl, rfl⟩ := h
      exact ⟨_, rfl, rfl⟩
  | mp es p => cases p <;> simp [Ob.re] at h

/-- Objects numbered anew: 'H'' has at 'j' what 'H' has at 'L j'. -/
theorem Inv.renum {B : Base} {β : Place} {F : Froz} {H H' : Heap} {w : World} (hI : Inv B β F H w) (L : Nat → Option Nat) (f : Nat → Option Nat) (hf : ∀ i j, f i = some j → L j = some i) (hL : ∀ j k i, L j = some i → L k = some i → j = k)
    (hH : ∀ j o', H'.at? j = some o' → ∃ i o, L j = some i ∧ H.at? i = some o ∧ o.re f = some o') : Inv B (fun j => (L j).bind β) F H' w := by
  have hβ : ∀ i j, f i = some j → (fun j => (L j).bind β) j = β i := fun i j h => by simp [hf i j h]
  refine ⟨hI.os, hI.tape, hI.output, hI.size, hI.keep, hI.kin, ?_, ?_, ?_, hI.froz, ?_⟩
  · intro j k oj ok l l' b hj hk hl hl' hb hb'
    obtain ⟨i, o, h1, h2, h3⟩ := hH j oj hj
    obtain ⟨i', o', h4, h5, h6⟩ := hH k ok hk
    simp only [h1, h4, Option.bind_some] at hl hl'
    have := hI.inj i i' o o' l l' b h2 h5 hl hl' hb hb'
    subst this
    exact hL j k i h1 h4
  · intro j l b hl hb
    simp only [Option.bind_eq_some_iff] at hl
    obtain ⟨i, _, h2⟩ := hl
    exact hI.fresh i l b h2 hb
  · intro j o' ho
    obtain ⟨i, o, h1, h2, h3⟩ := hH j o' ho
    obtain ⟨lc, h4, h5⟩ := hI.obs i o h2
    exact ⟨lc, by simp [h1, h4], h5.re hβ h3⟩
  · intro j b st C st' rows frz pure hl ho o hF
    obtain ⟨i, o0, h1, h2, h3⟩ := hH j _ ho
    simp only [h1, Option.bind_some] at hl
    obtain ⟨rows0, rfl, hlen⟩ := re_buf h3
    have := hI.prot i b st C st' rows0 frz pure hl h2 o hF
    rw [hlen] at this
    exact this

theorem pull_get {h : Heap} {f : Nat → Option Nat} : ∀ {l : List Nat} {h' : Heap}, pull h f l = some h' → h'.length = l.length ∧ ∀ (j : Nat) (o' : Ob), h'.at? j = some o' → ∃ i o, l[j]? = some i ∧ h.at? i = some o ∧ o.re f = some o'
  | [], h', hp => by
    simp only [pull, Option.some.injEq] at hp
    subst hp
    exact ⟨rfl, fun j o' h => by simp [Heap.at?] at h⟩
  | i :: r, h', hp => by
    unfold pull at hp
    split at hp
    · rename_i o ho
      simp only [Option.bind_eq_some_iff, Option.map_eq_some_iff] at hp
      obtain ⟨o', h1, h2, h3, rfl⟩ := hp
      obtain ⟨hl, hg⟩ := pull_get h3
      refine ⟨by simp [hl], fun j oj hj => ?_⟩
      cases j with
      | zero =>
        simp only [Heap.at?, Option.some.injEq] at hj
        subst hj
        exact ⟨i, o, rfl, ho, h1⟩
      | succ j => simpa using hg j oj (by simpa [Heap.at?] using hj)
    · simp only [Option.map_eq_some_iff] at hp
      obtain ⟨h2, h3, rfl⟩ := hp
      obtain ⟨hl, hg⟩ := pull_get h3
      refine ⟨by simp [hl], fun j oj hj => ?_⟩
      cases j with
      | zero => simp [Heap.at?] at hj
      | succ j => simpa using hg j oj (by simpa [Heap.at?] using hj)

/-! Frozen. -/
/-- What is frozen besides. -/
def Also (F : Froz) (β : Place) (u : Upd) : Froz := fun b o => F b o ∨ ∃ i st rows C, (i, some (.buf st rows true true)) ∈ u ∧ β i = some (.at b st C) ∧ o < rows.length * st

theorem also_mono {F : Froz} {β : Place} {u u' : Upd} (h : ∀ p ∈ u, p ∈ u') : ∀ b o, Also F β u b o → Also F β u' b o := fun b o hh => by
  rcases hh with hh | ⟨i, st, rows, C, h1, h2, h3⟩
  · exact .inl hh
  · exact .inr ⟨i, st, rows, C, h _ h1, h2, h3⟩

/-- 'u' tells which objects are frozen, and what their rows are then. -/
def FrzUpd (F : Froz) (w : World) (β : Place) (H : Heap) (u : Upd) : Prop := ∀ p ∈ u, ∃ st rows0 rows fz p0, H.at? p.1 = some (.buf st rows0 fz p0) ∧ p.2 = some (.buf st rows true true) ∧ rows.length = rows0.length ∧
  ∀ lc, β p.1 = some lc → ObRel (Also F β u) w β lc (.buf st rows true true)

theorem Rel.froz {F F' : Froz} {c : Nat → Nat → Option Value} {β : Place} {v : V} {cv : Value} (hF : ∀ b o, F b o → F' b o) (h : Rel F c β v cv) : Rel F' c β v cv := h.mono (fun b o hf => ⟨hF b o hf, rfl⟩) fun _ _ h => h
theorem RelAll.froz {F F' : Froz} {c : Nat → Nat → Option Value} {β : Place} {v : List V} {cv : Array Value} (hF : ∀ b o, F b o → F' b o) (h : RelAll F c β v cv) : RelAll F' c β v cv := ⟨h.size, fun j v hv => (h.at_ j v hv).froz hF⟩
theorem ObRel.froz {F F' : Froz} {w : World} {β : Place} {lc : Loc} {ob : Ob} (hF : ∀ b o, F b o → F' b o) (h : ObRel F w β lc ob) : ObRel F' w β lc ob := h.keep ⟨fun _ _ h => h, fun b o hf => ⟨hF b o hf, rfl⟩⟩ fun _ _ => rfl

section
variable {B : Base} {F : Froz} {w : World} {β : Place} {H : Heap} {α : Type}

theorem frzUpd_append {u u' : Upd} (h : FrzUpd F w β H u) (h' : FrzUpd F w β H u') : FrzUpd F w β H (u ++ u') := fun p hp => by
  rcases List.mem_append.1 hp with hp | hp
  · obtain ⟨st, rows0, rows, fz, p0, h1, h2, h3, h4⟩ := h p hp
    exact ⟨st, rows0, rows, fz, p0, h1, h2, h3, fun lc hl => (h4 lc hl).froz (also_mono fun p hp => List.mem_append_left _ hp)⟩
  · obtain ⟨st, rows0, rows, fz, p0, h1, h2, h3, h4⟩ := h' p hp
    exact ⟨st, rows0, rows, fz, p0, h1, h2, h3, fun lc hl => (h4 lc hl).froz (also_mono fun p hp => List.mem_append_right _ hp)⟩

/-- What becomes of a slice of an object is right. -/
def MsOK (F : Froz) (w : World) (β : Place) (H : Heap) (ms : Nat → Nat → Nat → Nat → (V → Upd → Rd α) → Rd α) : Prop :=
  ∀ (i st o n : Nat) (c : Option Nat) (k : V → Upd → Rd α) (l : List Nat) (res : α × List Nat) (cx : Value), (ms i st o n k).run H l = some res → Rel F (cl w) β (.ms i st o n c) cx →
    ∃ x' u l1, (k x' u).run H l1 = some res ∧ Rel (Also F β u) (cl w) β x' cx ∧ FrzUpd F w β H u

variable {ms : Nat → Nat → Nat → Nat → (V → Upd → Rd α) → Rd α}

mutual
theorem frzG_ok (hms : MsOK F w β H ms) : ∀ (x : V) (k : V → Upd → Rd α) (l : List Nat) (res : α × List Nat) (cx : Value), (frzG ms x k).run H l = some res → Rel F (cl w) β x cx →
    ∃ x' u l1, (k x' u).run H l1 = some res ∧ Rel (Also F β u) (cl w) β x' cx ∧ FrzUpd F w β H u
  | .ms i st o n c, k, l, res, cx, h, hx => by
    simp only [frzG] at h
    exact hms i st o n c k l res cx h hx
  | .nils, k, l, res, cx, h, hx => by
    simp only [frzG] at h
    cases hx
    exact ⟨_, _, _, h, .fz0 _ _ _, by simp [FrzUpd]⟩
  | .agg cs, k, l, res, cx, h, hx => by
    simp only [frzG] at h
    cases hx with
    | agg _ _ cvs hs hr =>
      obtain ⟨cs', u, l1, h1, h2, h3⟩ := frzGAll_ok hms cs _ l res cvs h ⟨hs, hr⟩
      exact ⟨_, _, _, h1, .agg _ _ _ h2.size h2.at_, h3⟩
  | .tup cs, k, l, res, cx, h, hx => by
    simp only [frzG] at h
    cases hx with
    | tup _ _ cvs hs hr =>
      obtain ⟨cs', u, l1, h1, h2, h3⟩ := frzGAll_ok hms cs _ l res cvs h ⟨hs, hr⟩
      exact ⟨_, _, _, h1, .tup _ _ _ h2.size h2.at_, h3⟩
  | .undef, k, l, res, cx, h, hx | .bool _, k, l, res, cx, h, hx | .int _ _, k, l, res, cx, h, hx | .str _, k, l, res, cx, h, hx | .fz _, k, l, res, cx, h, hx | .nilp, k, l, res, cx, h, hx | .ptr _ _ _, k, l, res, cx, h, hx | .el _ _, k, l, res, cx, h, hx
  | .nilm, k, l, res, cx, h, hx | .map _, k, l, res, cx, h, hx | .nilf, k, l, res, cx, h, hx | .clo _ _, k, l, res, cx, h, hx | .nili, k, l, res, cx, h, hx | .ifc _ _, k, l, res, cx, h, hx => by
    simp only [frzG] at h
    exact ⟨_, _, _, h, hx.froz fun b o h => .inl h, by simp [FrzUpd]⟩
theorem frzGAll_ok (hms : MsOK F w β H ms) : ∀ (xs : List V) (k : List V → Upd → Rd α) (l : List Nat) (res : α × List Nat) (cxs : Array Value), (frzGAll ms xs k).run H l = some res → RelAll F (cl w) β xs cxs →
    ∃ xs' u l1, (k xs' u).run H l1 = some res ∧ RelAll (Also F β u) (cl w) β xs' cxs ∧ FrzUpd F w β H u
  | [], k, l, res, cxs, h, hx => by
    simp only [frzGAll] at h
    exact ⟨_, _, _, h, ⟨hx.size, by simp⟩, by simp [FrzUpd]⟩
  | x :: r, k, l, res, cxs, h, hx => by
    simp only [frzGAll] at h
    obtain ⟨x', u, l1, h1, h2, h3⟩ := frzG_ok hms x _ l res _ h (hx.at_ 0 x rfl)
    have hsz := hx.size
    obtain ⟨r', u', l2, h4, h5, h6⟩ := frzGAll_ok hms r _ l1 res (cxs.extract 1 cxs.size) h1 ⟨by simp at hsz ⊢; omega, fun j v hj => by
      have := hx.at_ (j + 1) v hj
      have hlt := (List.getElem?_eq_some_iff.1 hj).1
      rw [Array.getD_eq_getD_getElem?] at this ⊢
      rw [Array.getElem?_extract, if_pos (by simp at hsz; omega), Nat.add_comm 1 j]
      exact this⟩
    refine ⟨_, _, _, h4, ⟨?_, fun j v hj => ?_⟩, frzUpd_append h3 h6⟩
    · have := h5.size
      simp at hsz this ⊢
      omega
    · cases j with
      | zero =>
        simp only [List.getElem?_cons_zero, Option.some.injEq] at hj
        subst hj
        exact h2.froz (also_mono fun p hp => List.mem_append_left _ hp)
      | succ j =>
        have := h5.at_ j v (by simpa using hj)
        have hlt := (List.getElem?_eq_some_iff.1 (show r'[j]? = some v by simpa using hj)).1
        have hs5 := h5.size
        simp at hs5 hsz
        rw [Array.getD_eq_getD_getElem?] at this ⊢
        rw [Array.getElem?_extract, if_pos (by omega), Nat.add_comm 1 j] at this
        exact this.froz (also_mono fun p hp => List.mem_append_right _ hp)
end

theorem frzGRows_ok (hms : MsOK F w β H ms) : ∀ (rows : List (List V)) (k : List (List V) → Upd → Rd α) (l : List Nat) (res : α × List Nat) (cvs : Nat → Array Value), (frzGRows ms rows k).run H l = some res → (∀ r row, rows[r]? = some row → RelAll F (cl w) β row (cvs r)) →
    ∃ rows' u l1, (k rows' u).run H l1 = some res ∧ rows'.length = rows.length ∧ (∀ r row, rows'[r]? = some row → RelAll (Also F β u) (cl w) β row (cvs r)) ∧ FrzUpd F w β H u
  | [], k, l, res, cvs, h, hx => by
    simp only [frzGRows] at h
    exact ⟨_, _, _, h, rfl, by simp, by simp [FrzUpd]⟩
  | x :: rs, k, l, res, cvs, h, hx => by
    simp only [frzGRows] at h
    obtain ⟨x', u, l1, h1, h2, h3⟩ := frzGAll_ok hms x _ l res (cvs 0) h (hx 0 x rfl)
    obtain ⟨rs', u', l2, h4, h5, h6, h7⟩ := frzGRows_ok hms rs _ l1 res (fun r => cvs (r + 1)) h1 fun r row hr => hx (r + 1) row (by simpa using hr)
    refine ⟨_, _, _, h4, by simp [h5], fun r row hr => ?_, frzUpd_append h3 h7⟩
    cases r with
    | zero =>
      simp only [List.getElem?_cons_zero, Option.some.injEq] at hr
      subst hr
      exact h2.froz (also_mono fun p hp => List.mem_append_left _ hp)
    | succ r => exact (h6 r row (by simpa using hr)).froz (also_mono fun p hp => List.mem_append_right _ hp)

/-- A slice of an object whose rows stand as data. -/
theorem fz_of_ob {F : Froz} {β : Place} {i st o n C : Nat} {c : Option Nat} {b : Nat} {rows : List (List V)} {cx : Value} (hF : ∀ q, q < rows.length * st → F b q) (hb : β i = some (.at b st C)) (hon : o + n ≤ rows.length) (ho : ObRel F w β (.at b st C) (.buf st rows true true))
    (hx : Rel F (cl w) β (.ms i st o n c) cx) : Rel F (cl w) β (.fz ((rows.drop o).take n)) cx := by
  cases hx with
  | ms0 =>
    simp only [List.take_zero]
    exact .fz0 _ _ _
  | ms _ _ _ _ _ _ b2 C2 cc o' hb2 hcC hlen hcap hnone hadr =>
    rw [hb] at hb2
    cases hb2
    by_cases hn : n = 0
    · subst hn
      simp only [List.take_zero]
      exact .fz0 _ _ _
    · cases ho with
      | buf _ _ _ _ _ _ hst hthere hC hrl hcell hpure hr =>
        have ho2 : o' = o * st := by rcases hadr with h | h <;> omega
        have hlen' : ((rows.drop o).take n).length = n := by simp; omega
        have hget : ∀ r, r < n → ((rows.drop o).take n)[r]? = rows[o + r]? := fun r hr => by
          rw [List.getElem?_take, if_pos hr, List.getElem?_drop]
        have hmem : ∀ row ∈ (rows.drop o).take n, row ∈ rows := fun row hm => List.mem_of_mem_drop (List.mem_of_mem_take hm)
        have := Rel.fz (F := F) (c := cl w) β ((rows.drop o).take n) b o' st cc (fun r j => (cl w b (o' + r * st + j)).getD undef) (by omega) (fun row hm => hrl row (hmem row hm)) (fun row hm v hv => ⟨hcell row (hmem row hm) v hv, hpure rfl row (hmem row hm) v hv⟩)
          (fun r j hr' hj => by
            rw [hlen'] at hr'
            have hrow : rows[o + r]? = some (rows[o + r]'(by omega)) := by simp
            have hl2 := hrl _ (List.mem_of_getElem? hrow)
            obtain ⟨cv, h1, _⟩ := hr _ j _ ((rows[o + r]'(by omega))[j]'(by omega)) hrow (List.getElem?_eq_getElem (by omega))
            have e1 : (o + r) * st + j = o' + r * st + j := by rw [ho2, Nat.add_mul]
            rw [e1] at h1
            refine ⟨hF _ ?_, by rw [h1]; rfl⟩
            rw [← e1]
            exact idx_lt (by omega) hj)
          (fun r j row v hrow hv => by
            have hr' : r < n := by have := (List.getElem?_eq_some_iff.1 hrow).1; omega
            rw [hget r hr'] at hrow
            obtain ⟨cv, h1, h2⟩ := hr _ j row v hrow hv
            have e1 : (o + r) * st + j = o' + r * st + j := by rw [ho2, Nat.add_mul]
            rw [e1] at h1
            simp only [h1, Option.getD_some]
            exact h2.pure (hpure rfl row (List.mem_of_getElem? hrow) v (List.mem_of_getElem? hv)) _)
        rwa [hlen'] at this

theorem msUp_ok (hI : Inv B β F H w) (hms : MsOK F w β H ms) : MsOK F w β H (msUp ms) := by
  intro i st o n c k l res cx h hx
  unfold msUp at h
  simp only [Rd.run] at h
  split at h
  · rename_i ob hob
    split at h
    · rename_i st2 rows fz
      split at h
      · rename_i hc
        obtain ⟨rfl, hon⟩ := hc
        have hup : FrzUpd F w β H [(i, some (.buf st2 rows true true))] := by
          intro p hp
          simp only [List.mem_singleton] at hp
          subst hp
          refine ⟨st2, rows, rows, fz, true, hob, rfl, rfl, fun lc hl => ?_⟩
          obtain ⟨lc', hl', ho⟩ := hI.obs _ _ hob
          rw [hl] at hl'
          cases hl'
          have ho := ho.froz (F' := Also F β [(i, some (.buf st2 rows true true))]) fun b o h => .inl h
          cases ho with
          | nil => exact .nil _ _ _
          | buf b _ C _ _ _ a1 a2 a3 a4 a5 a6 a7 => exact .buf b _ C _ _ _ a1 a2 a3 a4 a5 a6 a7
        refine ⟨_, _, _, h, ?_, hup⟩
        obtain ⟨lc, hl, ho⟩ := hI.obs _ _ hob
        obtain ⟨_, _, _, _, _, _, e2, _, ho2⟩ := hup _ (.head _)
        cases e2
        cases ho with
        | nil =>
          obtain rfl : n = 0 := by simp at hon; omega
          simp only [List.take_zero]
          cases hx with
          | ms0 => exact .fz0 _ _ _
          | ms => exact .fz0 _ _ _
        | buf b _ C _ _ _ a1 a2 a3 a4 a5 a6 a7 =>
          exact fz_of_ob (fun q hq => .inr ⟨i, st2, rows, C, .head _, hl, hq⟩) hl hon (ho2 _ hl) (hx.froz fun b o h => .inl h)
      · simp [Rd.run] at h
    · rename_i st2 rows fz
      split at h
      · rename_i hc
        obtain ⟨rfl, hon⟩ := hc
        obtain ⟨lc, hl, ho⟩ := hI.obs _ _ hob
        cases ho with
        | nil =>
          obtain rfl : n = 0 := by simp at hon; omega
          simp only [frzGRows] at h
          simp only [List.all_nil, if_true, List.drop_nil, List.take_nil, List.nil_append] at h
          refine ⟨_, _, _, h, ?_, fun p hp => ?_⟩
          · cases hx with
            | ms0 => exact .fz0 _ _ _
            | ms => exact .fz0 _ _ _
          · simp only [List.mem_singleton] at hp
            subst hp
            refine ⟨st2, [], [], fz, false, hob, rfl, rfl, fun lc' hl' => ?_⟩
            rw [hl] at hl'
            cases hl'
            exact .nil _ _ _
        | buf b _ C _ _ _ a1 a2 a3 a4 a5 a6 a7 =>
          obtain ⟨rows', u, l1, h1, h2, h3, h4⟩ := frzGRows_ok hms rows _ _ res (fun r => ((List.range st2).map fun j => (cl w b (r * st2 + j)).getD undef).toArray) h fun r row hr => by
            have hrl := a4 row (List.mem_of_getElem? hr)
            refine ⟨by simp [hrl], fun j v hj => ?_⟩
            have hjl := (List.getElem?_eq_some_iff.1 hj).1
            obtain ⟨cv, g1, g2⟩ := a7 r j row v hr hj
            have : (((List.range st2).map fun j => (cl w b (r * st2 + j)).getD undef).toArray).getD j undef = cv := by
              rw [Array.getD_eq_getD_getElem?]
              simp [show j < st2 by omega, g1]
            rw [this]
            exact g2
          split at h1
          · rename_i hall
            rw [List.all_eq_true] at hall
            have hall' : ∀ row ∈ rows', ∀ v ∈ row, v.isCell = true ∧ v.hasIds = false := fun row hr v hv => by
              have := List.all_eq_true.1 (hall row hr) v hv
              simpa using this
            have hob2 : ObRel (Also F β (u ++ [(i, some (.buf st2 rows' true true))])) w β (.at b st2 C) (.buf st2 rows' true true) := by
              refine .buf b _ C _ _ _ a1 a2 (by omega) (fun row hr => ?_) (fun row hr v hv => (hall' row hr v hv).1) (fun _ row hr v hv => (hall' row hr v hv).2) fun r j row v hr hv => ?_
              · obtain ⟨r, hr⟩ := List.mem_iff_getElem?.1 hr
                have := (h3 r row hr).size
                simpa using this.symm
              · have hs := (h3 r row hr).size
                have hjl := (List.getElem?_eq_some_iff.1 hv).1
                simp at hs
                have hrow0 : r < rows.length := by
                  have := (List.getElem?_eq_some_iff.1 hr).1
                  omega
                have hl0 := a4 _ (List.getElem_mem hrow0)
                obtain ⟨cv, g1, _⟩ := a7 r j _ ((rows[r])[j]'(by omega)) (List.getElem?_eq_getElem hrow0) (List.getElem?_eq_getElem _)
                refine ⟨cv, g1, ?_⟩
                have := (h3 r row hr).at_ j v hv
                have e : (((List.range st2).map fun j => (cl w b (r * st2 + j)).getD undef).toArray).getD j undef = cv := by
                  rw [Array.getD_eq_getD_getElem?]
                  simp [show j < st2 by omega, g1]
                rw [e] at this
                exact this.froz (also_mono fun p hp => List.mem_append_left _ hp)
            refine ⟨_, _, _, h1, ?_, fun p hp => ?_⟩
            · exact fz_of_ob (fun q hq => .inr ⟨i, st2, rows', C, List.mem_append_right _ (.head _), hl, hq⟩) hl (by omega) hob2 (hx.froz fun b o h => .inl h)
            · rcases List.mem_append.1 hp with hp | hp
              · obtain ⟨st3, rows0, rows3, fz3, p3, g1, g2, g3, g4⟩ := h4 p hp
                exact ⟨st3, rows0, rows3, fz3, p3, g1, g2, g3, fun lc hl => (g4 lc hl).froz (also_mono fun p hp => List.mem_append_left _ hp)⟩
              · simp only [List.mem_singleton] at hp
                subst hp
                refine ⟨st2, rows, rows', fz, false, hob, rfl, h2, fun lc' hl' => ?_⟩
                rw [hl] at hl'
                cases hl'
                exact hob2
          · simp [Rd.run] at h1
      · simp [Rd.run] at h
    · simp [Rd.run] at h
  · cases h
theorem msFail_ok : MsOK F w β H (fun _ _ _ _ (_ : V → Upd → Rd α) => Rd.fail) := fun i st o n c k l res cx h => by simp [Rd.run] at h
theorem ms2_ok (hI : Inv B β F H w) : MsOK (α := α) F w β H ms2 := msUp_ok hI (msUp_ok hI (msUp_ok hI msFail_ok))
theorem frz_ok (hI : Inv B β F H w) (x : V) (k : V → Upd → Rd α) (l : List Nat) (res : α × List Nat) (cx : Value) (h : (frz x k).run H l = some res) (hx : Rel F (cl w) β x cx) :
    ∃ x' u l1, (k x' u).run H l1 = some res ∧ Rel (Also F β u) (cl w) β x' cx ∧ FrzUpd F w β H u := frzG_ok (ms2_ok hI) x k l res cx h hx

theorem frzArgs_ok (hI : Inv B β F H w) : ∀ (xs : List V) (m : List Bool) (k : List V → Upd → Rd α) (l : List Nat) (res : α × List Nat) (cxs : Array Value), (frzArgs xs m k).run H l = some res → RelAll F (cl w) β xs cxs →
    ∃ xs' u l1, (k xs' u).run H l1 = some res ∧ RelAll (Also F β u) (cl w) β xs' cxs ∧ FrzUpd F w β H u
  | [], m, k, l, res, cxs, h, hx => by
    simp only [frzArgs] at h
    exact ⟨_, _, _, h, ⟨hx.size, by simp⟩, by simp [FrzUpd]⟩
  | x :: r, m, k, l, res, cxs, h, hx => by
    have hsz := hx.size
    have htail : RelAll F (cl w) β r (cxs.extract 1 cxs.size) := ⟨by simp at hsz ⊢; omega, fun j v hj => by
      have := hx.at_ (j + 1) v hj
      have hlt := (List.getElem?_eq_some_iff.1 hj).1
      rw [Array.getD_eq_getD_getElem?] at this ⊢
      rw [Array.getElem?_extract, if_pos (by simp at hsz; omega), Nat.add_comm 1 j]
      exact this⟩
    have glue : ∀ {x' : V} {r' : List V} {u u' : Upd}, Rel (Also F β u) (cl w) β x' (cxs.getD 0 undef) → RelAll (Also F β u') (cl w) β r' (cxs.extract 1 cxs.size) → RelAll (Also F β (u ++ u')) (cl w) β (x' :: r') cxs := by
      intro x' r' u u' h2 h5
      refine ⟨?_, fun j v hj => ?_⟩
      · have := h5.size
        simp at hsz this ⊢
        omega
      · cases j with
        | zero =>
          simp only [List.getElem?_cons_zero, Option.some.injEq] at hj
          subst hj
          exact h2.froz (also_mono fun p hp => List.mem_append_left _ hp)
        | succ j =>
          have := h5.at_ j v (by simpa using hj)
          have hlt := (List.getElem?_eq_some_iff.1 (show r'[j]? = some v by simpa using hj)).1
          have hs5 := h5.size
          simp at hs5 hsz
          rw [Array.getD_eq_getD_getElem?] at this ⊢
          rw [Array.getElem?_extract, if_pos (by omega), Nat.add_comm 1 j] at this
          exact this.froz (also_mono fun p hp => List.mem_append_right _ hp)
    have keep : ∀ (m' : List Bool), (frzArgs r m' fun r u => k (x :: r) u).run H l = some res → ∃ xs' u l1, (k xs' u).run H l1 = some res ∧ RelAll (Also F β u) (cl w) β xs' cxs ∧ FrzUpd F w β H u := by
      intro m' h
      obtain ⟨r', u', l2, h4, h5, h6⟩ := frzArgs_ok hI r m' _ l res _ h htail
      exact ⟨_, _, _, h4, glue (u := []) ((hx.at_ 0 x rfl).froz fun b o h => .inl h) h5, h6⟩
    cases m with
    | nil => exact keep _ (by simpa only [frzArgs] using h)
    | cons b m =>
      cases b with
      | false => exact keep _ (by simpa only [frzArgs] using h)
      | true =>
        simp only [frzArgs] at h
        obtain ⟨x', u, l1, h1, h2, h3⟩ := frz_ok hI x _ l res _ h (hx.at_ 0 x rfl)
        obtain ⟨r', u', l2, h4, h5, h6⟩ := frzArgs_ok hI r m _ l1 res _ h1 htail
        exact ⟨_, _, _, h4, glue h2 h5, frzUpd_append h3 h6⟩
end

end Go.Proofs.Ytfdemnefkfkghaa.R
