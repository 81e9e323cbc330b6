/- Chapter 33's law, in plain Lean: what is fixed is right and stays so; what is right stays as it is. -/
import Derived.Test.YtfdemnefkfkghaaR33u
namespace Go.Proofs.Ytfdemnefkfkghaa.R
open Go Go.Proofs
set_option linter.unusedSimpArgs false
set_option linter.unusedVariables false

theorem withE_withE {f g : Int → Int} (e : S100) : withE f (withE g e) = withE f e := rfl
theorem withM_f0 {f : Int → Int} (m : S121) : (withM f m).f0 = m.f0 := by unfold withM; split <;> rfl
theorem withM_f3 {f : Int → Int} (m : S121) : (withM f m).f3 = m.f3 := by unfold withM; split <;> rfl
theorem withM_withM {f g : Int → Int} (m : S121) : withM f (withM g m) = withM f m := by
  by_cases h : m.f0 = 3
  · simp [withM, h]
  · simp [withM, h]
theorem withN_withN {f g : Int → Int} (n : S93) : withN f (withN g n) = withN f n := by
  unfold withN
  simp only [List.map_map, S93.mk.injEq, true_and]
  exact ⟨List.map_congr_left fun e _ => withE_withE e, List.map_congr_left fun m _ => withM_withM m⟩
theorem gotos_with {f : Int → Int} : ∀ {l : List S121}, gotos (l.map (withM f)) = gotos l
  | [] => rfl
  | m :: r => by
    have ih := gotos_with (f := f) (l := r)
    unfold gotos at ih ⊢
    simp only [List.map_cons, List.filter_cons, withM_f0]
    split
    · simp only [List.map_cons, withM_f3, ih]
    · exact ih
theorem targets_with {f : Int → Int} {n : S93} : targets (withN f n) = targets n := by
  unfold targets
  show (n.f3.map (withE f)).map (·.f0) ++ gotos (n.f4.map (withM f)) = _
  rw [gotos_with, List.map_map]
  rfl

/-! The same items, with other depths. -/
def reD (f : Int → Int) (l : List S95) : List S95 := l.map fun x => ⟨x.f0, withN f x.f1⟩
theorem fixed_reD (l : List S95) : fixed l = reD (dp l) l := rfl
theorem find_reD {f : Int → Int} {b : Int} : ∀ {l : List S95}, find b (reD f l) = (find b l).map (withN f)
  | [] => rfl
  | x :: r => by
    have ih := find_reD (f := f) (b := b) (l := r)
    unfold reD at ih ⊢
    simp only [List.map_cons, find]
    split
    · rfl
    · exact ih
theorem succs_reD {f : Int → Int} {b : Int} {l : List S95} : succs (reD f l) b = succs l b := by
  unfold succs
  rw [find_reD]
  cases find b l with
  | none => rfl
  | some n => exact targets_with
theorem dk_reD {f : Int → Int} {l : List S95} : ∀ {k : Nat} {b : Int}, dk (reD f l) k b = dk l k b
  | 0, b => rfl
  | k + 1, b => by
    show top (fun t => dk (reD f l) k t + 1) 1 (succs (reD f l) b) = top (fun t => dk l k t + 1) 1 (succs l b)
    rw [succs_reD]
    exact top_congr fun t _ => by rw [dk_reD]
theorem len_reD {f : Int → Int} {l : List S95} : (reD f l).length = l.length := by simp [reD]
theorem dp_reD {f : Int → Int} {l : List S95} : dp (reD f l) = dp l := by
  funext b
  unfold dp
  rw [dk_reD, len_reD]
theorem stable_reD {f : Int → Int} {l : List S95} {k : Nat} : Stable (reD f l) k ↔ Stable l k := by
  unfold Stable
  constructor
  · intro h x hx
    have := h ⟨x.f0, withN f x.f1⟩ (List.mem_map.2 ⟨x, hx, rfl⟩)
    simpa only [dk_reD] using this
  · intro h y hy
    obtain ⟨x, hx, rfl⟩ := List.mem_map.1 hy
    simp only [dk_reD]
    exact h x hx
theorem formed_reD {f : Int → Int} : ∀ {l : List S95} {p : Option Int}, formedB p (reD f l) = formedB p l
  | [], p => by cases p <;> rfl
  | x :: r, p => by
    have ih := fun p => formed_reD (f := f) (l := r) (p := p)
    unfold reD at ih ⊢
    have hw : flat (withN f x.f1) = flat x.f1 := withN_withN _
    cases p <;> simp only [List.map_cons, formedB, hw, ih]
theorem inL_reD {f : Int → Int} {b : Int} {l : List S95} : inL b (reD f l) = inL b l := by
  rw [← find_some_iff, ← find_some_iff, find_reD]
  cases find b l <;> rfl
theorem whole_reD {f : Int → Int} {l : List S95} : wholeB (reD f l) = wholeB l := by
  unfold wholeB
  have : (fun b => !inL b (reD f l)) = fun b => !inL b l := by funext b; rw [inL_reD]
  rw [this]
  unfold reD
  rw [List.all_map]
  congr 1
  funext x
  show (!(targets (withN f x.f1)).any fun b => !inL b l) = _
  rw [targets_with]

/-- What Fix gives, where it gives something. -/
theorem fixP_ok {l : List S95} (h : (fixP l).2 = 0) : formedB none l = true ∧ wholeB l = true ∧ Stable l l.length ∧ fixP l = (fixed l, 0) := by
  unfold fixP at h ⊢
  by_cases h1 : formedB none l = false
  · rw [if_pos h1] at h; cases h
  rw [if_neg h1] at h ⊢
  by_cases h2 : wholeB l = false
  · rw [if_pos h2] at h; cases h
  rw [if_neg h2] at h ⊢
  by_cases h3 : Stable l l.length
  · rw [if_pos h3]
    exact ⟨by simpa using h1, by simpa using h2, h3, rfl⟩
  · rw [if_neg h3] at h; cases h
theorem fixed_same {l : List S95} : fixed (fixed l) = fixed l := by
  rw [fixed_reD (fixed l)]
  show reD (dp (reD (dp l) l)) (reD (dp l) l) = reD (dp l) l
  rw [dp_reD]
  unfold reD
  rw [List.map_map]
  refine List.map_congr_left fun x _ => ?_
  show (⟨x.f0, withN (dp l) (withN (dp l) x.f1)⟩ : S95) = ⟨x.f0, withN (dp l) x.f1⟩
  rw [withN_withN]
theorem fix_again {l : List S95} (h : (fixP l).2 = 0) : fixP (fixed l) = (fixed l, 0) := by
  obtain ⟨h1, h2, h3, _⟩ := fixP_ok h
  unfold fixP
  have e1 : formedB none (fixed l) = true := by rw [fixed_reD, formed_reD]; exact h1
  have e2 : wholeB (fixed l) = true := by rw [fixed_reD, whole_reD]; exact h2
  have e3 : Stable (fixed l) (fixed l).length := by
    rw [fixed_reD, len_reD]
    exact stable_reD.2 h3
  rw [e1, e2, if_neg (by simp), if_neg (by simp), if_pos e3, fixed_same]

/-! Depths of a node. -/
theorem deepK_with {f : Int → Int} : ∀ {l : List S100} {d : Int}, deepK d (l.map (withE f)) = top f d (l.map (·.f0))
  | [], d => rfl
  | e :: r, d => by
    show deepK (if f e.f0 > d then f e.f0 else d) (r.map (withE f)) = top f (max d (f e.f0)) (r.map (·.f0))
    rw [deepK_with]
    congr 1
    split <;> omega
theorem deepM_with {f : Int → Int} : ∀ {l : List S121} {d : Int}, deepM d (l.map (withM f)) = top f d (gotos l)
  | [], d => rfl
  | m :: r, d => by
    show deepM (if (withM f m).f0 = 3 then (if (withM f m).f4 > d then (withM f m).f4 else d) else d) (r.map (withM f)) = top f d (gotos (m :: r))
    rw [withM_f0]
    by_cases h : m.f0 = 3
    · have e4 : (withM f m).f4 = f m.f3 := by unfold withM; rw [if_pos h]
      have e5 : gotos (m :: r) = m.f3 :: gotos r := by
        unfold gotos
        rw [List.filter_cons, if_pos (by simpa using h)]
        rfl
      rw [if_pos h, e4, deepM_with, e5]
      show _ = top f (max d (f m.f3)) (gotos r)
      congr 1
      split <;> omega
    · have e5 : gotos (m :: r) = gotos r := by
        unfold gotos
        rw [List.filter_cons, if_neg (by simpa using h)]
      rw [if_neg h, deepM_with, e5]
theorem top_append {α : Type} {f : α → Int} {a b : List α} {d : Int} : top f d (a ++ b) = top f (top f d a) b := by
  unfold top
  rw [List.foldl_append]
theorem deepN_with {f : Int → Int} {n : S93} (h0 : n.f0 = false) (h : top f 0 (targets n) < 65535) : deepN (withN f n) = top f 0 (targets n) + 1 := by
  have e : deepM (deepK 0 (withN f n).f3) (withN f n).f4 = top f 0 (targets n) := by
    show deepM (deepK 0 (n.f3.map (withE f))) (n.f4.map (withM f)) = _
    rw [deepK_with, deepM_with]
    unfold targets
    rw [top_append]
  unfold deepN
  rw [e]
  have : ¬ (withN f n).f0 = true := by
    show ¬ n.f0 = true
    rw [h0]
    simp
  rw [if_neg this, if_neg (by omega)]

/-! Right nodes. -/
theorem may_leaf {n : S93} (h : mayN n = 0) (h0 : n.f0 = true) : n.f3 = [] ∧ n.f4 = [] := by
  unfold mayN at h
  split at h
  · cases h
  split at h
  · cases h
  rename_i h2
  simp only [Bool.or_eq_true, decide_eq_true_eq, not_or] at h2
  exact ⟨List.eq_nil_of_length_eq_zero (by omega), List.eq_nil_of_length_eq_zero (by omega)⟩
theorem mayMsg_with {f : Int → Int} {m : S121} (hf : m.f0 = 3 → 1 ≤ f m.f3) : mayMsg (withM f m) = mayMsg (withM (fun _ => 1) m) := by
  by_cases h : m.f0 = 3
  · have h1 := hf h
    have e1 : (f m.f3 > 0) = True := eq_true (by omega)
    simp only [withM, h, if_true, mayMsg]
    simp [e1]
  · simp [withM, h]
theorem any_map' {α β : Type} {f : α → β} {g : β → Bool} {l : List α} : (l.map f).any g = l.any fun x => g (f x) := by rw [List.any_map]; rfl
theorem may_with {f : Int → Int} {n : S93} (hf : ∀ b ∈ targets n, 1 ≤ f b) : mayN (withN f n) = mayN (flat n) := by
  have e1 : (withN f n).f3.any badKid = (flat n).f3.any badKid := by
    show (n.f3.map (withE f)).any badKid = (n.f3.map (withE fun _ => 1)).any badKid
    rw [any_map', any_map']
    refine any_congr' fun e he => ?_
    have := hf e.f0 (List.mem_append_left _ (List.mem_map.2 ⟨e, he, rfl⟩))
    have e2 : decide (f e.f0 < 1) = false := decide_eq_false (by omega)
    unfold badKid withE
    simp only [e2]
    rfl
  have e2 : ((withN f n).f4.any fun m => !mayMsg m) = (flat n).f4.any fun m => !mayMsg m := by
    show ((n.f4.map (withM f)).any fun m => !mayMsg m) = (n.f4.map (withM fun _ => 1)).any fun m => !mayMsg m
    rw [any_map', any_map']
    refine any_congr' fun m hm => ?_
    rw [mayMsg_with fun h3 => hf m.f3 (List.mem_append_right _ (mem_gotos hm h3))]
  have l3 : ∀ g : Int → Int, (withN g n).f3.length = n.f3.length := fun g => by simp [withN]
  have l4 : ∀ g : Int → Int, (withN g n).f4.length = n.f4.length := fun g => by simp [withN]
  unfold mayN
  rw [e1, e2]
  simp only [l3, l4]
  rfl
/-- A node that may be may be with whatever depths. -/
theorem may_flat {n : S93} (h : mayN n = 0) : mayN (flat n) = 0 := by
  have l3 : (flat n).f3.length = n.f3.length := by simp [withN]
  have l4 : (flat n).f4.length = n.f4.length := by simp [withN]
  have k3 : n.f3.any badKid = false → (flat n).f3.any badKid = false := by
    intro hb
    show (n.f3.map (withE fun _ => 1)).any badKid = false
    rw [any_map', List.any_eq_false]
    intro e he
    have := (List.any_eq_false.1 hb) e he
    unfold badKid withE at *
    simp only [Bool.or_eq_true, not_or] at this ⊢
    exact ⟨by simp, this.2⟩
  have k4 : (n.f4.any fun m => !mayMsg m) = false → ((flat n).f4.any fun m => !mayMsg m) = false := by
    intro hb
    show ((n.f4.map (withM fun _ => 1)).any fun m => !mayMsg m) = false
    rw [any_map', List.any_eq_false]
    intro m hm
    have := (List.any_eq_false.1 hb) m hm
    by_cases h3 : m.f0 = 3
    · simp only [Bool.not_eq_true', Bool.not_eq_false] at this ⊢
      simp only [withM, h3, if_true]
      unfold mayMsg at this ⊢
      simp only [h3, if_true, Bool.and_eq_true, decide_eq_true_eq] at this ⊢
      simp only [show ((3 : Int) = 1) = False from by simp, show ((3 : Int) = 2) = False from by simp, if_false] at this ⊢
      simp only [Bool.and_eq_true, decide_eq_true_eq] at this ⊢
      exact ⟨this.1, by omega, this.2.2⟩
    · simpa [withM, h3] using this
  unfold mayN at h ⊢
  rw [l3, l4]
  simp only [show (flat n).f0 = n.f0 from rfl, show (flat n).f1 = n.f1 from rfl, show (flat n).f2 = n.f2 from rfl]
  split at h
  · cases h
  rename_i h1
  rw [if_neg h1]
  split at h
  · rename_i h2
    rw [if_pos h2]
    exact h
  · rename_i h2
    rw [if_neg h2]
    split at h
    · cases h
    rename_i h5
    rw [if_neg h5]
    split at h
    · cases h
    rename_i h6
    rw [k3 (by simpa using h6), if_neg (by simp)]
    split at h
    · cases h
    rename_i h7
    rw [if_neg h7]
    split at h
    · cases h
    rename_i h8
    rw [k4 (by simpa using h8), if_neg (by simp)]

theorem right_all {L : List S95} : ∀ {l : List S95} {p : Option Int}, risesB l = true → (∀ q x r, p = some q → l = x :: r → q < x.f0) → (∀ x ∈ l, mayN x.f1 = 0 ∧ nodeR L x.f1 = true) → rightB L p l = true
  | [], p, _, _, _ => by cases p <;> rfl
  | x :: r, p, hr, hp, ha => by
    have h1 := ha x (.head _)
    have h2 : rightB L (some x.f0) r = true := right_all (rises_tail hr) (fun q y r' hq hl => by
      cases hq
      subst hl
      exact rises_lt hr y (.head _)) fun y hy => ha y (.tail _ hy)
    cases p with
    | none =>
      simp only [rightB, h1.1, h1.2, h2]
      rfl
    | some q =>
      have h3 : decide (x.f0 ≤ q) = false := decide_eq_false (by have := hp q x r rfl rfl; omega)
      simp only [rightB, h1.1, h1.2, h2, h3]
      rfl
theorem right_iff {L : List S95} : ∀ {l : List S95} {p : Option Int}, rightB L p l = true → risesB l = true ∧ (∀ q x r, p = some q → l = x :: r → q < x.f0) ∧ ∀ x ∈ l, mayN x.f1 = 0 ∧ nodeR L x.f1 = true
  | [], p, _ => ⟨rfl, fun _ _ _ _ h => (by cases h), fun x hx => (by simp at hx)⟩
  | x :: r, p, h => by
    have hx : (mayN x.f1 == 0) = true ∧ nodeR L x.f1 = true ∧ rightB L (some x.f0) r = true := by
      cases p <;> simp only [rightB, Bool.and_eq_true] at h
      · exact ⟨h.1, h.2.1, h.2.2⟩
      · exact ⟨h.2.1, h.2.2.1, h.2.2.2⟩
    obtain ⟨i1, i2, i3⟩ := right_iff hx.2.2
    refine ⟨?_, fun q y r' hq hl => ?_, fun y hy => ?_⟩
    · cases r with
      | nil => rfl
      | cons y r =>
        simp only [risesB, Bool.and_eq_true, decide_eq_true_eq]
        exact ⟨i2 _ y r rfl rfl, i1⟩
    · cases hl
      subst hq
      simp only [rightB, Bool.and_eq_true, Bool.not_eq_true', decide_eq_false_iff_not] at h
      have := h.1
      omega
    · rcases List.mem_cons.1 hy with rfl | hy
      · exact ⟨by simpa using hx.1, hx.2.1⟩
      · exact i3 y hy

theorem formed_all : ∀ {l : List S95} {p : Option Int}, risesB l = true → (∀ q x r, p = some q → l = x :: r → q < x.f0) → (∀ x ∈ l, mayN (flat x.f1) = 0) → formedB p l = true
  | [], p, _, _, _ => by cases p <;> rfl
  | x :: r, p, hr, hp, ha => by
    have h1 := ha x (.head _)
    have h2 : formedB (some x.f0) r = true := formed_all (rises_tail hr) (fun q y r' hq hl => by
      cases hq
      subst hl
      exact rises_lt hr y (.head _)) fun y hy => ha y (.tail _ hy)
    cases p with
    | none =>
      simp only [formedB, h1, h2]
      rfl
    | some q =>
      have h3 : decide (x.f0 ≤ q) = false := decide_eq_false (by have := hp q x r rfl rfl; omega)
      simp only [formedB, h1, h2, h3]
      rfl
theorem formed_may {l : List S95} {p : Option Int} (h : formedB p l = true) : ∀ x ∈ l, mayN (flat x.f1) = 0 := fun x hx => by
  obtain ⟨i, hi, rfl⟩ := List.mem_iff_getElem.1 hx
  simpa using (formed_at h hi).1

theorem top_eq {α : Type} {f g : α → Int} {ts : List α} {d : Int} (h : ∀ t ∈ ts, f t = g t) : top f d ts = top g d ts := top_congr h
/-- In a stable graph a node is as deep as is told. -/
theorem fixed_right {l : List S95} (h30 : l.length ≤ 30) (h : (fixP l).2 = 0) : rightB (fixed l) none (fixed l) = true := by
  obtain ⟨hf, hwb, hst, _⟩ := fixP_ok h
  have hr := rises_of_formed hf
  have hwl := whole_iff.1 hwb
  -- depths, as numbers of sixteen bits
  have hdp : ∀ y ∈ l, dp l y.f0 = dk l l.length y.f0 ∧ 1 ≤ dp l y.f0 ∧ dp l y.f0 ≤ 31 := fun y hy => by
    have h1 := dk_pos (l := l) (k := l.length) (b := y.f0)
    have h2 := dk_le (l := l) (k := l.length) (b := y.f0)
    have e : dp l y.f0 = dk l l.length y.f0 := by
      unfold dp
      simp [IntKind.wrap, IntKind.signed, IntKind.bits]
      omega
    exact ⟨e, by omega, by omega⟩
  have hdt : ∀ x ∈ l, ∀ t ∈ targets x.f1, dp l t = dk l l.length t ∧ 1 ≤ dp l t ∧ dp l t ≤ 31 := fun x hx t ht => by
    obtain ⟨y, hy, rfl⟩ := hwl x hx t ht
    exact hdp y hy
  have hmay : ∀ x ∈ l, mayN (withN (dp l) x.f1) = 0 := fun x hx => by
    rw [may_with fun t ht => (hdt x hx t ht).2.1]
    exact formed_may hf x hx
  -- how deep
  have hdeep : ∀ x ∈ l, deepN (withN (dp l) x.f1) = dp l x.f0 := fun x hx => by
    have hs : dk l l.length x.f0 = top (fun t => dk l l.length t + 1) 1 (targets x.f1) := by
      rw [← hst x hx]
      show top _ 1 (succs l x.f0) = _
      rw [succs_self hr hx]
    rw [(hdp x hx).1, hs]
    have e : top (fun t => dk l l.length t + 1) 1 (targets x.f1) = top (dp l) 0 (targets x.f1) + 1 := by
      have e2 : top (fun t => dk l l.length t + 1) 1 (targets x.f1) = top (dk l l.length) 0 (targets x.f1) + 1 := top_succ (f := dk l l.length) (d := 0)
      rw [e2]
      rw [top_congr (f := dk l l.length) (g := dp l) fun t ht => (hdt x hx t ht).1.symm]
    cases h0 : x.f1.f0 with
    | true =>
      obtain ⟨h3, h4⟩ := may_leaf (formed_may hf x hx) h0
      have h3' : x.f1.f3 = [] := by simpa [withN] using h3
      have h4' : x.f1.f4 = [] := by simpa [withN] using h4
      have ht : targets x.f1 = [] := by unfold targets; rw [h3', h4']; rfl
      rw [ht]
      unfold deepN
      have : (withN (dp l) x.f1).f0 = true := h0
      rw [if_pos this]
      rfl
    | false =>
      rw [e]
      have hub : top (dp l) 0 (targets x.f1) ≤ 31 := top_ub (by omega) fun t ht => (hdt x hx t ht).2.2
      exact deepN_with h0 (by omega)
  have hlead : ∀ x ∈ l, ∀ t ∈ targets x.f1, leads (fixed l) t (dp l t) = true := fun x hx t ht => by
    obtain ⟨y, hy, rfl⟩ := hwl x hx t ht
    unfold leads
    rw [fixed_reD, find_reD, find_self hr y hy]
    have := hdp y hy
    simp only [Option.map_some, hdeep y hy, decide_true, Bool.and_true, decide_eq_true_eq]
    omega
  refine right_all ?_ (fun q x r hq => by cases hq) fun y hy => ?_
  · have : formedB none (fixed l) = true := by rw [fixed_reD, formed_reD]; exact hf
    exact rises_of_formed this
  · obtain ⟨x, hx, rfl⟩ := List.mem_map.1 hy
    refine ⟨hmay x hx, ?_⟩
    unfold nodeR
    rw [Bool.and_eq_true, List.all_eq_true, List.all_eq_true]
    refine ⟨fun e he => ?_, fun m hm => ?_⟩
    · obtain ⟨e', he', rfl⟩ := List.mem_map.1 he
      exact hlead x hx e'.f0 (List.mem_append_left _ (List.mem_map.2 ⟨e', he', rfl⟩))
    · obtain ⟨m', hm', rfl⟩ := List.mem_map.1 hm
      unfold msgR
      rw [withM_f0, withM_f3]
      by_cases h3 : m'.f0 = 3
      · have e4 : (withM (dp l) m').f4 = dp l m'.f3 := by unfold withM; rw [if_pos h3]
        rw [e4, hlead x hx m'.f3 (List.mem_append_right _ (mem_gotos hm' h3))]
        simp
      · have : (m'.f0 == 3) = false := by simpa using h3
        rw [this]
        rfl

/-- A right graph stays as it is. -/
theorem right_fix {l : List S95} (h30 : l.length ≤ 30) (h : rightB l none l = true) : fixP l = (l, 0) := by
  obtain ⟨hr, _, hall⟩ := right_iff h
  let g : Int → Int := fun b => match find b l with
    | some n => deepN n
    | none => 0
  have hg : ∀ y ∈ l, g y.f0 = deepN y.f1 := fun y hy => by
    show (match find y.f0 l with | some n => deepN n | none => 0) = _
    rw [find_self hr y hy]
  have hld : ∀ {b d : Int}, leads l b d = true → d < 65535 ∧ g b = d ∧ ∃ y ∈ l, y.f0 = b := fun {b d} hb => by
    unfold leads at hb
    split at hb
    · rename_i n hf
      obtain ⟨y, hy, rfl, rfl⟩ := find_mem hf
      simp only [Bool.and_eq_true, decide_eq_true_eq] at hb
      exact ⟨hb.1, by rw [hg y hy]; exact hb.2, y, hy, rfl⟩
    · cases hb
  have hkid : ∀ x ∈ l, ∀ e ∈ x.f1.f3, e.f1 < 65535 ∧ g e.f0 = e.f1 ∧ ∃ y ∈ l, y.f0 = e.f0 := fun x hx e he => by
    have := (hall x hx).2
    unfold nodeR at this
    rw [Bool.and_eq_true, List.all_eq_true] at this
    exact hld (this.1 e he)
  have hmsg : ∀ x ∈ l, ∀ m ∈ x.f1.f4, m.f0 = 3 → m.f4 < 65535 ∧ g m.f3 = m.f4 ∧ ∃ y ∈ l, y.f0 = m.f3 := fun x hx m hm h3 => by
    have := (hall x hx).2
    unfold nodeR at this
    rw [Bool.and_eq_true, List.all_eq_true, List.all_eq_true] at this
    have := this.2 m hm
    unfold msgR at this
    rw [h3] at this
    simp only [BEq.rfl, Bool.true_and, Bool.not_not] at this
    exact hld this
  have htg : ∀ x ∈ l, ∀ t ∈ targets x.f1, g t < 65535 ∧ ∃ y ∈ l, y.f0 = t := fun x hx t ht => by
    unfold targets at ht
    rcases List.mem_append.1 ht with ht | ht
    · obtain ⟨e, he, rfl⟩ := List.mem_map.1 ht
      have := hkid x hx e he
      exact ⟨by rw [this.2.1]; exact this.1, this.2.2⟩
    · obtain ⟨m, hm, rfl⟩ := List.mem_map.1 ht
      obtain ⟨hm, h3⟩ := List.mem_filter.1 hm
      have := hmsg x hx m hm (by simpa using h3)
      exact ⟨by rw [this.2.1]; exact this.1, this.2.2⟩
  have hwl : Whole l := fun x hx t ht => (htg x hx t ht).2
  have hself : ∀ x ∈ l, withN g x.f1 = x.f1 := fun x hx => by
    have e1 : x.f1.f3.map (withE g) = x.f1.f3 := by
      conv => rhs; rw [← List.map_id x.f1.f3]
      refine List.map_congr_left fun e he => ?_
      have := (hkid x hx e he).2.1
      unfold withE
      rw [this]
      rfl
    have e2 : x.f1.f4.map (withM g) = x.f1.f4 := by
      conv => rhs; rw [← List.map_id x.f1.f4]
      refine List.map_congr_left fun m hm => ?_
      unfold withM
      split
      · rename_i h3
        rw [(hmsg x hx m hm h3).2.1]
        rfl
      · rfl
    unfold withN
    rw [e1, e2]
  have hdeep : ∀ x ∈ l, deepN x.f1 = top (fun t => g t + 1) 1 (targets x.f1) := fun x hx => by
    have e : top (fun t => g t + 1) 1 (targets x.f1) = top g 0 (targets x.f1) + 1 := top_succ (f := g) (d := 0)
    cases h0 : x.f1.f0 with
    | true =>
      obtain ⟨h3, h4⟩ := may_leaf (hall x hx).1 h0
      have ht : targets x.f1 = [] := by unfold targets; rw [h3, h4]; rfl
      rw [ht]
      unfold deepN
      rw [if_pos h0]
      rfl
    | false =>
      have hub : top g 0 (targets x.f1) ≤ 65534 := top_ub (by omega) fun t ht => by have := (htg x hx t ht).1; omega
      rw [e, ← deepN_with h0 (by omega), hself x hx]
  have hlim : ∀ (k : Nat) (x : S95), x ∈ l → deepN x.f1 ≤ k → Lim l x.f0 (deepN x.f1) := by
    intro k
    induction k with
    | zero =>
      intro x hx hk
      have := hdeep x hx
      have h1 := top_le (f := fun t => g t + 1) (d := 1) (ts := targets x.f1)
      omega
    | succ k ih =>
      intro x hx hk
      rw [hdeep x hx, ← succs_self hr hx]
      refine lim_step fun t ht => ?_
      rw [succs_self hr hx] at ht
      obtain ⟨y, hy, rfl⟩ := (htg x hx t ht).2
      rw [hg y hy]
      refine ih y hy ?_
      have h1 := top_mem (f := fun t => g t + 1) (d := 1) ht
      rw [← hdeep x hx, hg y hy] at h1
      omega
  have hl : ∀ x ∈ l, Lim l x.f0 (deepN x.f1) := fun x hx => hlim (deepN x.f1).toNat x hx (by omega)
  have hst : Stable l l.length := stable_of_lim hr hwl fun x hx => ⟨_, hl x hx⟩
  have hform : formedB none l = true := formed_all hr (fun q x r hq => by cases hq) fun x hx => may_flat (hall x hx).1
  have hwb : wholeB l = true := whole_iff.2 hwl
  have hfix : fixed l = l := by
    unfold fixed
    conv => rhs; rw [← List.map_id l]
    refine List.map_congr_left fun x hx => ?_
    have e : withN (dp l) x.f1 = withN g x.f1 := withN_congr fun t ht => by
      obtain ⟨hlt, y, hy, rfl⟩ := htg x hx t ht
      have h1 := lim_uniq (hl y hy) (lim_of_stable hwl hst hy)
      have h2 := lim_pos (hl y hy)
      unfold dp
      rw [hg y hy] at hlt ⊢
      rw [← h1]
      simp [IntKind.wrap, IntKind.signed, IntKind.bits]
      omega
    unfold fixI
    rw [e, hself x hx]
    rfl
  unfold fixP
  rw [hform, hwb, if_neg (by simp), if_neg (by simp), if_pos hst, hfix]
end Go.Proofs.Ytfdemnefkfkghaa.R
