/- Chapter 33's law: depths, in plain Lean. -/
import Derived.Test.YtfdemnefkfkghaaR33k
namespace Go.Proofs.Ytfdemnefkfkghaa.R
open Go Go.Proofs
set_option linter.unusedSimpArgs false
set_option linter.unusedVariables false

/-- The greatest. -/
def top {α : Type} (f : α → Int) (d : Int) (ts : List α) : Int := ts.foldl (fun d t => max d (f t)) d
theorem top_le {α : Type} {f : α → Int} : ∀ {ts : List α} {d : Int}, d ≤ top f d ts
  | [], d => Int.le_refl _
  | t :: ts, d => by
    have := top_le (f := f) (ts := ts) (d := max d (f t))
    show d ≤ top f (max d (f t)) ts
    omega
theorem top_mem {α : Type} {f : α → Int} : ∀ {ts : List α} {d : Int} {t : α}, t ∈ ts → f t ≤ top f d ts
  | x :: ts, d, t, h => by
    show f t ≤ top f (max d (f x)) ts
    rcases List.mem_cons.1 h with rfl | h
    · have := top_le (f := f) (ts := ts) (d := max d (f t))
      omega
    · exact top_mem h
theorem top_ub {α : Type} {f : α → Int} {m : Int} : ∀ {ts : List α} {d : Int}, d ≤ m → (∀ t ∈ ts, f t ≤ m) → top f d ts ≤ m
  | [], d, h, _ => h
  | x :: ts, d, h, h' => by
    show top f (max d (f x)) ts ≤ m
    have := h' x (.head _)
    exact top_ub (by omega) fun t ht => h' t (.tail _ ht)
theorem top_at {α : Type} {f : α → Int} : ∀ {ts : List α} {d : Int}, top f d ts = d ∨ ∃ t ∈ ts, top f d ts = f t
  | [], d => .inl rfl
  | x :: ts, d => by
    show top f (max d (f x)) ts = d ∨ ∃ t ∈ x :: ts, top f (max d (f x)) ts = f t
    rcases top_at (f := f) (ts := ts) (d := max d (f x)) with h | ⟨t, ht, h⟩
    · by_cases hd : f x ≤ d
      · left; omega
      · right; exact ⟨x, .head _, by omega⟩
    · exact .inr ⟨t, .tail _ ht, h⟩
theorem top_congr {α : Type} {f g : α → Int} : ∀ {ts : List α} {d : Int}, (∀ t ∈ ts, f t = g t) → top f d ts = top g d ts
  | [], d, _ => rfl
  | x :: ts, d, h => by
    show top f (max d (f x)) ts = top g (max d (g x)) ts
    rw [h x (.head _)]
    exact top_congr fun t ht => h t (.tail _ ht)

def succs (l : List S95) (b : Int) : List Int := match find b l with
  | some n => targets n
  | none => []
/-- One more than the steps of the longest way of at most so many. -/
def dk (l : List S95) : Nat → Int → Int
  | 0, _ => 1
  | k + 1, b => top (fun t => dk l k t + 1) 1 (succs l b)

theorem dk_pos {l : List S95} : ∀ {k : Nat} {b : Int}, 1 ≤ dk l k b
  | 0, _ => Int.le_refl _
  | _ + 1, _ => top_le
theorem dk_mono {l : List S95} : ∀ {k : Nat} {b : Int}, dk l k b ≤ dk l (k + 1) b
  | 0, _ => top_le
  | k + 1, b => by
    refine top_ub top_le fun t ht => ?_
    have h1 : dk l k t ≤ dk l (k + 1) t := dk_mono
    have h2 : dk l (k + 1) t + 1 ≤ top (fun t => dk l (k + 1) t + 1) 1 (succs l b) := top_mem (f := fun t => dk l (k + 1) t + 1) ht
    show dk l k t + 1 ≤ _
    exact Int.le_trans (by omega) h2
theorem dk_mono_le {l : List S95} {b : Int} {j : Nat} : ∀ {k : Nat}, j ≤ k → dk l j b ≤ dk l k b
  | 0, h => by obtain rfl : j = 0 := (by omega); exact Int.le_refl _
  | k + 1, h => by
    by_cases e : j = k + 1
    · subst e; exact Int.le_refl _
    · exact Int.le_trans (dk_mono_le (k := k) (by omega)) dk_mono
theorem dk_le {l : List S95} : ∀ {k : Nat} {b : Int}, dk l k b ≤ k + 1
  | 0, _ => by simp [dk]
  | k + 1, b => by
    refine top_ub (by omega) fun t ht => ?_
    have : dk l k t ≤ k + 1 := dk_le
    show dk l k t + 1 ≤ _
    omega

/-- Blocks rise. -/
def risesB : List S95 → Bool
  | x :: y :: r => decide (x.f0 < y.f0) && risesB (y :: r)
  | _ => true
theorem rises_lt : ∀ {x : S95} {r : List S95}, risesB (x :: r) = true → ∀ y ∈ r, x.f0 < y.f0
  | x, [], _, y, h => by simp at h
  | x, z :: r, h, y, hy => by
    simp only [risesB, Bool.and_eq_true, decide_eq_true_eq] at h
    rcases List.mem_cons.1 hy with rfl | hy
    · exact h.1
    · have := rises_lt h.2 y hy
      omega
theorem rises_tail {x : S95} {r : List S95} (h : risesB (x :: r) = true) : risesB r = true := by
  cases r with
  | nil => rfl
  | cons y r => simp only [risesB, Bool.and_eq_true] at h; exact h.2
theorem find_self : ∀ {l : List S95}, risesB l = true → ∀ x ∈ l, find x.f0 l = some x.f1
  | y :: r, h, x, hx => by
    unfold find
    rcases List.mem_cons.1 hx with rfl | hx
    · simp
    · have := rises_lt h x hx
      rw [if_neg (by omega)]
      exact find_self (rises_tail h) x hx

/-- All that is led to is there. -/
def Whole (l : List S95) : Prop := ∀ x ∈ l, ∀ t ∈ targets x.f1, ∃ y ∈ l, y.f0 = t
theorem succs_self {l : List S95} (h : risesB l = true) {x : S95} (hx : x ∈ l) : succs l x.f0 = targets x.f1 := by
  unfold succs
  rw [find_self h x hx]
theorem succs_in {l : List S95} (hw : Whole l) {b t : Int} (ht : t ∈ succs l b) : ∃ y ∈ l, y.f0 = t := by
  unfold succs at ht
  split at ht
  · rename_i n hf
    obtain ⟨x, hx, _, rfl⟩ := find_mem hf
    exact hw x hx t ht
  · simp at ht

def Stable (l : List S95) (k : Nat) : Prop := ∀ x ∈ l, dk l (k + 1) x.f0 = dk l k x.f0
instance (l : List S95) (k : Nat) : Decidable (Stable l k) := by unfold Stable; infer_instance
theorem stable_succ {l : List S95} (hw : Whole l) {k : Nat} (h : Stable l k) : Stable l (k + 1) := fun x hx =>
  top_congr fun t ht => by
    obtain ⟨y, hy, rfl⟩ := succs_in hw ht
    show dk l (k + 1) y.f0 + 1 = dk l k y.f0 + 1
    rw [h y hy]
theorem stable_le {l : List S95} (hw : Whole l) {j : Nat} (h : Stable l j) : ∀ {k : Nat}, j ≤ k → Stable l k
  | 0, hk => by obtain rfl : j = 0 := (by omega); exact h
  | k + 1, hk => by
    by_cases e : j = k + 1
    · subst e; exact h
    · exact stable_succ hw (stable_le hw h (k := k) (by omega))
theorem stable_eq {l : List S95} (hw : Whole l) {j : Nat} (h : Stable l j) {x : S95} (hx : x ∈ l) : ∀ {k : Nat}, j ≤ k → dk l k x.f0 = dk l j x.f0
  | 0, hk => by obtain rfl : j = 0 := (by omega); rfl
  | k + 1, hk => by
    by_cases e : j = k + 1
    · subst e; rfl
    · rw [stable_le hw h (k := k) (by omega) x hx]
      exact stable_eq hw h hx (by omega)

/-- How deep a block is, in the end. -/
def Lim (l : List S95) (b d : Int) : Prop := ∃ K, ∀ k, K ≤ k → dk l k b = d
theorem lim_uniq {l : List S95} {b d e : Int} : Lim l b d → Lim l b e → d = e := fun ⟨K, h⟩ ⟨K', h'⟩ => by
  rw [← h (max K K') (by omega), ← h' (max K K') (by omega)]
theorem lim_pos {l : List S95} {b d : Int} : Lim l b d → 1 ≤ d := fun ⟨K, h⟩ => by
  rw [← h K (by omega)]
  exact dk_pos
theorem lim_all {l : List S95} {g : Int → Int} : ∀ {ts : List Int}, (∀ t ∈ ts, Lim l t (g t)) → ∃ K, ∀ t ∈ ts, ∀ k, K ≤ k → dk l k t = g t
  | [], _ => ⟨0, fun t ht => by simp at ht⟩
  | x :: ts, h => by
    obtain ⟨K, hK⟩ := lim_all (ts := ts) fun t ht => h t (.tail _ ht)
    obtain ⟨K', hK'⟩ := h x (.head _)
    refine ⟨max K K', fun t ht k hk => ?_⟩
    rcases List.mem_cons.1 ht with rfl | ht
    · exact hK' k (by omega)
    · exact hK t ht k (by omega)
theorem lim_step {l : List S95} {b : Int} {g : Int → Int} (h : ∀ t ∈ succs l b, Lim l t (g t)) : Lim l b (top (fun t => g t + 1) 1 (succs l b)) := by
  obtain ⟨K, hK⟩ := lim_all h
  refine ⟨K + 1, fun k hk => ?_⟩
  obtain ⟨k, rfl⟩ : ∃ k', k = k' + 1 := ⟨k - 1, by omega⟩
  exact top_congr fun t ht => by
    show dk l k t + 1 = g t + 1
    rw [hK t ht k (by omega)]
theorem lim_succ {l : List S95} {b d t e : Int} (h : Lim l b d) (ht : t ∈ succs l b) (h' : Lim l t e) : e + 1 ≤ d := by
  obtain ⟨K, h⟩ := h
  obtain ⟨K', h'⟩ := h'
  rw [← h (max K K' + 1) (by omega), ← h' (max K K') (by omega)]
  exact top_mem (f := fun t => dk l (max K K') t + 1) ht
theorem lim_at {l : List S95} {b d : Int} (h : Lim l b d) : d = 1 ∨ ∃ t ∈ succs l b, Lim l t (d - 1) ∨ ∀ e, ¬ Lim l t e := by
  by_cases hd : d = 1
  · exact .inl hd
  right
  obtain ⟨K, hK⟩ := h
  have h1 := hK (K + 1) (by omega)
  rcases top_at (f := fun t => dk l K t + 1) (ts := succs l b) (d := 1) with h2 | ⟨t, ht, h2⟩
  · exact absurd (h1.symm.trans h2) (by omega)
  · refine ⟨t, ht, ?_⟩
    by_cases hl : ∃ e, Lim l t e
    · obtain ⟨e, K', he⟩ := hl
      left
      have hup : dk l K t ≤ e := by
        have := dk_mono_le (l := l) (b := t) (show K ≤ max K K' by omega)
        rw [he (max K K') (by omega)] at this
        exact this
      have h3 : d = dk l K t + 1 := h1.symm.trans h2
      have h4 : e + 1 ≤ d := lim_succ ⟨K, hK⟩ ht ⟨K', he⟩
      obtain rfl : e = d - 1 := by omega
      exact ⟨K', he⟩
    · right
      exact fun e he => hl ⟨e, he⟩

theorem pigeon {α : Type} {f : α → Int → Prop} (hf : ∀ x i j, f x i → f x j → i = j) : ∀ (n : Nat) (l : List α), (∀ j : Int, 1 ≤ j → j ≤ n → ∃ y ∈ l, f y j) → n ≤ l.length
  | 0, l, _ => Nat.zero_le _
  | n + 1, l, h => by
    obtain ⟨y, hy, hfy⟩ := h (n + 1 : Nat) (by omega) (by omega)
    obtain ⟨a, b, rfl⟩ := List.append_of_mem hy
    have := pigeon hf n (a ++ b) fun j h1 h2 => by
      obtain ⟨z, hz, hfz⟩ := h j h1 (by omega)
      simp only [List.mem_append, List.mem_cons] at hz
      rcases hz with hz | rfl | hz
      · exact ⟨z, List.mem_append_left _ hz, hfz⟩
      · have := hf _ _ _ hfy hfz
        omega
      · exact ⟨z, List.mem_append_right _ hz, hfz⟩
    simp only [List.length_append, List.length_cons] at this ⊢
    omega

/-- Where all are so deep, none is deeper than there are items. -/
theorem lim_le {l : List S95} (hr : risesB l = true) (hw : Whole l) (hl : ∀ x ∈ l, ∃ d, Lim l x.f0 d) {x : S95} (hx : x ∈ l) {d : Int} (h : Lim l x.f0 d) : d ≤ l.length := by
  have hp := lim_pos h
  obtain ⟨n, rfl⟩ : ∃ n : Nat, d = n := ⟨d.toNat, by omega⟩
  have key : ∀ (m : Nat) (j : Int), 1 ≤ j → j + m = n → ∃ y ∈ l, Lim l y.f0 j := by
    intro m
    induction m with
    | zero => intro j h1 h2; obtain rfl : j = n := (by omega); exact ⟨x, hx, h⟩
    | succ m ih =>
      intro j h1 h2
      obtain ⟨y, hy, hly⟩ := ih (j + 1) (by omega) (by omega)
      rcases lim_at hly with h3 | ⟨t, ht, h3⟩
      · omega
      · obtain ⟨z, hz, rfl⟩ := succs_in hw ht
        rcases h3 with h3 | h3
        · exact ⟨z, hz, by rwa [show j + 1 - 1 = j by omega] at h3⟩
        · obtain ⟨e, he⟩ := hl z hz
          exact absurd he (h3 e)
  have := pigeon (f := fun (y : S95) j => Lim l y.f0 j) (fun _ _ _ a b => lim_uniq a b) n l fun j h1 h2 => key (n - j).toNat j h1 (by omega)
  omega
theorem lim_early {l : List S95} (hw : Whole l) (hl : ∀ x ∈ l, ∃ d, Lim l x.f0 d) : ∀ (k : Nat) {x : S95}, x ∈ l → ∀ {d : Int}, Lim l x.f0 d → d ≤ k + 1 → dk l k x.f0 = d
  | 0, x, hx, d, h, hd => by
    have := lim_pos h
    show (1 : Int) = d
    omega
  | k + 1, x, hx, d, h, hd => by
    obtain ⟨K, hK⟩ := h
    have h1 := hK (max (k + 1) K + 1) (by omega)
    rw [← h1]
    refine top_congr fun t ht => ?_
    obtain ⟨z, hz, rfl⟩ := succs_in hw ht
    obtain ⟨e, he⟩ := hl z hz
    have h2 := lim_succ ⟨K, hK⟩ ht he
    have h3 := lim_early hw hl k hz he (by omega)
    have h4 := lim_early hw hl k hz he (by omega)
    obtain ⟨K', hK'⟩ := he
    show dk l k z.f0 + 1 = dk l (max (k + 1) K) z.f0 + 1
    have h5 : dk l k z.f0 ≤ dk l (max (k + 1) K) z.f0 := dk_mono_le (by omega)
    have h6 : dk l (max (k + 1) K) z.f0 ≤ dk l (max (max (k + 1) K) K') z.f0 := dk_mono_le (by omega)
    rw [hK' (max (max (k + 1) K) K') (by omega)] at h6
    omega
/-- Blocks that are as deep as can be told: behind as many rounds as there are items nothing changes. -/
theorem stable_of_lim {l : List S95} (hr : risesB l = true) (hw : Whole l) (hl : ∀ x ∈ l, ∃ d, Lim l x.f0 d) : Stable l l.length := fun x hx => by
  obtain ⟨d, hd⟩ := hl x hx
  have := lim_le hr hw hl hx hd
  rw [lim_early hw hl _ hx hd (by omega), lim_early hw hl _ hx hd (by omega)]
theorem lim_of_stable {l : List S95} (hw : Whole l) {j : Nat} (h : Stable l j) {x : S95} (hx : x ∈ l) : Lim l x.f0 (dk l j x.f0) := ⟨j, fun _ hk => stable_eq hw h hx hk⟩

/-- A way of some steps. -/
inductive Rch (l : List S95) : Int → Int → Prop where
  | one {a b : Int} : b ∈ succs l a → Rch l a b
  | more {a t b : Int} : Rch l a t → b ∈ succs l t → Rch l a b
theorem rch_grow {l : List S95} {a b : Int} (h : Rch l a b) : ∃ n : Nat, 1 ≤ n ∧ ∀ k, dk l k b + n ≤ dk l (k + n) a := by
  induction h with
  | one h => exact ⟨1, by omega, fun k => top_mem (f := fun t => dk l k t + 1) h⟩
  | more h1 h2 ih =>
    rename_i t b
    obtain ⟨n, hn, hk⟩ := ih
    refine ⟨n + 1, by omega, fun k => ?_⟩
    have h3 := hk (k + 1)
    have h4 : dk l k b + 1 ≤ dk l (k + 1) t := top_mem (f := fun t => dk l k t + 1) h2
    rw [show k + (n + 1) = k + 1 + n by omega]
    omega
theorem rch_lim {l : List S95} {b d : Int} (h : Rch l b b) : ¬ Lim l b d := fun ⟨K, hK⟩ => by
  obtain ⟨n, hn, hk⟩ := rch_grow h
  have := hk K
  rw [hK K (by omega), hK (K + n) (by omega)] at this
  omega
theorem rch_in {l : List S95} (hw : Whole l) {a b : Int} (h : Rch l a b) : ∃ y ∈ l, y.f0 = b := by
  cases h with
  | one h => exact succs_in hw h
  | more _ h => exact succs_in hw h
theorem rch_unstable {l : List S95} (hw : Whole l) {b : Int} (h : Rch l b b) (k : Nat) : ¬ Stable l k := fun hs => by
  obtain ⟨y, hy, rfl⟩ := rch_in hw h
  exact rch_lim h (lim_of_stable hw hs hy)

/-! The document's rounds. -/
theorem deepen_map {b : Int} {g : Int → Int} : ∀ {l : List S95} {d : Int}, deepen b d l (l.map fun x => g x.f0) = if (∃ x ∈ l, x.f0 = b) then max d (g b + 1) else d
  | [], d => by simp [deepen]
  | x :: l, d => by
    simp only [List.map_cons, deepen]
    rw [deepen_map]
    by_cases hx : x.f0 = b
    · subst hx
      have h1 : ∃ y ∈ x :: l, y.f0 = x.f0 := ⟨x, .head _, rfl⟩
      rw [if_pos h1, if_pos rfl]
      split <;> split <;> omega
    · rw [if_neg hx]
      have h1 : (∃ y ∈ x :: l, y.f0 = b) ↔ ∃ y ∈ l, y.f0 = b := by simp [hx]
      simp only [h1]
theorem deepens_map {l : List S95} {g : Int → Int} : ∀ {ts : List Int} {d : Int}, (∀ t ∈ ts, ∃ x ∈ l, x.f0 = t) → deepens l (l.map fun x => g x.f0) d ts = top (fun t => g t + 1) d ts
  | [], d, _ => rfl
  | t :: ts, d, h => by
    show deepens l _ (deepen t d l _) ts = top _ (max d (g t + 1)) ts
    rw [deepen_map, if_pos (h t (.head _))]
    exact deepens_map fun t ht => h t (.tail _ ht)
theorem round_map {l : List S95} (hr : risesB l = true) (hw : Whole l) (k : Nat) : round l (l.map fun x => dk l k x.f0) = l.map fun x => dk l (k + 1) x.f0 := by
  unfold round
  refine List.map_congr_left fun x hx => ?_
  rw [deepens_map (hw x hx)]
  show _ = top _ 1 (succs l x.f0)
  rw [succs_self hr hx]
theorem stable_iff {l : List S95} (k : Nat) : (l.map fun x => dk l (k + 1) x.f0) = (l.map fun x => dk l k x.f0) ↔ Stable l k := by
  rw [List.map_inj_left]
  rfl
end Go.Proofs.Ytfdemnefkfkghaa.R
