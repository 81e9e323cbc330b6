/- Parts of the proof of YtfdemnefkfkghaaRDiffAll, one behind the other: R31y, R31z, Q31e, R31A, Q31f, R31B, RDiffAppliesLaw, Q31g, R31C, RDiffJoinsLaw, R31D, Q31h, R31E, RDiffMergesLaw, RDiffAll. -/
import Derived.Test.YtfdemnefkfkghaaDM0
import Derived.Test.YtfdemnefkfkghaaDM1
import Derived.Test.YtfdemnefkfkghaaDM2
import Derived.Test.YtfdemnefkfkghaaDM3
/- Chapter 31's laws: the document's Join; the same texts? too great? -/
namespace Go.Proofs.Ytfdemnefkfkghaa.R
open Go Go.Proofs
set_option linter.unusedSimpArgs false
set_option linter.unusedVariables false
set_option maxRecDepth 10000
set_option maxHeartbeats 4000000

theorem lim49 (a b : List ByteArray) (ha : a.length < 1000000000000000000) : lim T fns 49 [.fz (a.map Cd.str.enc), .fz (b.map Cd.str.enc)] [] = some (.bool (decide (a = b)), []) := by
  refine fn_rule (fn := fn49) rfl rfl (by simp [fn49]) ?_
  unfold fn49
  simp only [Try.f49, Option.getD_some, argEnv, List.map_nil, List.length_nil]
  simp only [go_sem, T_3, T_9, T_69]
  split
  · rename_i h0
    have : a ≠ b := by rintro rfl; simp at h0
    simp [this]
  · rename_i h0
    have hlen : a.length = b.length := by simp at h0; omega
    refine loop_rule (ι := Nat) (S := fun i => ⟨[(0, .fz (a.map Cd.str.enc)), (1, .fz (b.map Cd.str.enc)), (12, .int .i64 a.length), (13, .int .i64 i)], []⟩) (m := fun i => a.length + 1 - i)
      (I := fun i => i ≤ a.length ∧ a.take i = b.take i) ?_ 0 _ ⟨by omega, by simp⟩ rfl
    rintro i ⟨hi, hg⟩
    by_cases hlt : i < a.length
    · have hx : a[i]? = some a[i] := List.getElem?_eq_getElem hlt
      have hd : b[i]? = some (b[i]'(by omega)) := List.getElem?_eq_getElem (by omega)
      simp only [go_sem, T_3, T_9, T_69, all_str, hlt, hx, hd, ba_toList, wrap_i64s (show i < 1000000000000000000 by omega)]
      split
      · rename_i he
        have : a ≠ b := by
          rintro rfl
          simp at he
        simp [this]
      · rename_i he
        exact ⟨i + 1, ⟨by omega, take_eq_step hg hlt (by omega) (by simpa using he)⟩, by simp only; omega, rfl⟩
    · have : a = b := take_eq_len hlen hg (by omega)
      simp only [go_sem, T_3, T_9, T_69, hlt]
      simp [this]
theorem call49 (a b : List ByteArray) (ha : a.length < 1000000000000000000) (n : Nat) : callV (LX T fns) n (.clo 49 []) [.fz (a.map Cd.str.enc), .fz (b.map Cd.str.enc)] = .pure (.bool (decide (a = b)), []) := callV_plain (fn := fn49) rfl rfl rfl (lim49 a b ha) n

/-- Both keys' changes, joined; none: they don't fit. -/
def joinK : Option S151 → Option S151 → ByteArray → Option (List S151)
  | some c, some d, k => if c.f2 = d.f1 ∧ c.f4 = d.f3 then some (if difB ⟨k, c.f1, d.f2, c.f3, d.f4⟩ = true then [⟨k, c.f1, d.f2, c.f3, d.f4⟩] else []) else none
  | some c, none, _ => some [c]
  | none, some d, _ => some [d]
  | none, none, _ => some []
def joinRL (x y : List S151) : List ByteArray → List S151 → Option (List S151)
  | [], acc => some acc
  | k :: r, acc => match joinK (lookC k x) (lookC k y) k with
    | some l => joinRL x y r (acc ++ l)
    | none => none
def key145 (c : S151) : S145 := ⟨c.f0, ⟨#[]⟩⟩
def joinKeys (x y : List S151) : List ByteArray := keysL (x.map key145) (y.map key145)
theorem addK_mem {k : ByteArray} : ∀ {l all : List S145}, risesK (all.map S145.f0) = true → ((look S145.f0 k (addK l all)).isSome = true ↔ (look S145.f0 k l).isSome = true ∨ (look S145.f0 k all).isSome = true)
  | [], all, _ => by simp [addK, look]
  | x :: r, all, h => by
    show (look S145.f0 k (addK r (putK' S145.f0 ⟨x.f0, ⟨#[]⟩⟩ all))).isSome = true ↔ _
    rw [addK_mem (putK'_rises h), putK'_look h]
    simp only [look]
    by_cases e : x.f0 = k
    · simp [e]
    · simp [e]
theorem addK_rises : ∀ {l all : List S145}, risesK (all.map S145.f0) = true → risesK ((addK l all).map S145.f0) = true
  | [], all, h => h
  | x :: r, all, h => addK_rises (l := r) (putK'_rises h)
theorem keysP_rises {a b : List S145} : risesK ((keysP a b).map S145.f0) = true := addK_rises (addK_rises rfl)
theorem keysP_mem {a b : List S145} {k : ByteArray} : (lookP k (keysP a b)).isSome = true ↔ (lookP k a).isSome = true ∨ (lookP k b).isSome = true := by
  unfold lookP keysP
  rw [addK_mem (addK_rises rfl), addK_mem rfl]
  simp only [look, Option.isSome_none, Bool.false_eq_true, or_false]
  exact or_comm
theorem keysL_mem {a b : List S145} {k : ByteArray} : k ∈ keysL a b ↔ (lookP k a).isSome = true ∨ (lookP k b).isSome = true := by
  rw [← keysP_mem]
  exact look_isSome.symm
theorem key145_look {k : ByteArray} {l : List S151} : (lookP k (l.map key145)).isSome = (lookC k l).isSome := by
  unfold lookP lookC
  rw [look_map (key := S151.f0) (key' := S145.f0) (f := key145) (fun _ => rfl)]
  cases look S151.f0 k l <;> rfl
theorem joinKeys_mem {x y : List S151} {k : ByteArray} : k ∈ joinKeys x y ↔ (lookC k x).isSome = true ∨ (lookC k y).isSome = true := by
  unfold joinKeys
  rw [keysL_mem, key145_look, key145_look]
def joinRR (o : Option (List S151)) : V := match o with
  | none => .tup [.fz [], .int .i64 3]
  | some m => .tup [.fz (m.map k151.enc), .int .i64 0]
theorem joinRL_drop {x y : List S151} {ks : List ByteArray} {i : Nat} (h : i < ks.length) {acc : List S151} : joinRL x y (ks.drop i) acc = match joinK (lookC ks[i] x) (lookC ks[i] y) ks[i] with
    | some l => joinRL x y (ks.drop (i + 1)) (acc ++ l)
    | none => none := by
  rw [List.drop_eq_getElem_cons h]
  rfl
theorem joinK_le {p q : Option S151} {k : ByteArray} {l : List S151} (h : joinK p q k = some l) : l.length ≤ 1 := by
  unfold joinK at h
  split at h
  · split at h
    · cases h; split <;> simp
    · cases h
  · cases h; simp
  · cases h; simp
  · cases h; simp
theorem lim37_bad (x y : List S151) (hx : x.length < 1000000000) (hy : y.length < 1000000000) (hb : (mayL x && mayL y) = false) : lim T fns 37 [.fz (x.map k151.enc), .fz (y.map k151.enc)] [] = some (.tup [.fz [], .int .i64 1], []) := by
  refine fn_rule (fn := fn37) rfl rfl (by simp [fn37]) ?_
  unfold fn37
  simp only [Try.f37, Option.getD_some, argEnv, List.map_nil, List.length_nil]
  cases h1 : mayL x with
  | false =>
    simp only [go_sem, T_1, T_3, T_4, T_9, T_50, T_51, T_69, T_145, T_151, call46 x (by omega), h1]
    show _ = _
    kernel_rfl
  | true =>
    have h2 : mayL y = false := by simpa [h1] using hb
    simp only [go_sem, T_1, T_3, T_4, T_9, T_50, T_51, T_69, T_145, T_151, call46 x (by omega), call46 y (by omega), h1, h2]
    show _ = _
    kernel_rfl
theorem geN (j : Nat) : ((j : Int) ≥ 0) = True := by simp
theorem geM : ((-1 : Int) ≥ 0) = False := by simp
theorem lim37_ok (x y : List S151) (hx : x.length < 1000000) (hy : y.length < 1000000) (h1 : mayL x = true) (h2 : mayL y = true) : lim T fns 37 [.fz (x.map k151.enc), .fz (y.map k151.enc)] [] = some (joinRR (joinRL x y (joinKeys x y) []), []) := by
  refine fn_rule (fn := fn37) rfl rfl (by simp [fn37]) ?_
  unfold fn37
  simp only [Try.f37, Option.getD_some, argEnv, List.map_nil, List.length_nil]
  have hfz := callFz 96 fn96 (T := T) (fns := fns) rfl rfl 2 rfl
  simp only [go_sem, T_1, T_3, T_4, T_9, T_50, T_51, T_69, T_145, T_151, call46 x (by omega), call46 y (by omega), h1, h2]
  refine loop_rule (ι := Nat) (S := fun i => ⟨[(0, .fz (x.map k151.enc)), (1, .fz (y.map k151.enc)), (6, .ms 0 5 0 0 none), (7, .ms 1 2 0 ((x.map key145).take i).length none), (28, .int .i64 x.length), (29, .int .i64 i)], [some (.buf 5 [] false true), some (.buf 2 (((x.map key145).take i).map k145.enc) false true)]⟩) (m := fun i => x.length + 1 - i)
    (I := fun i => i ≤ x.length) ?_ 0 _ (Nat.zero_le _) (by kernel_rfl)
  rintro i hi
  by_cases hlt : i < x.length
  · have hx1 : x[i]? = some x[i] := List.getElem?_eq_getElem hlt
    have hn : (x.map key145).take (i + 1) = (x.map key145).take i ++ [⟨x[i].f0, ⟨#[]⟩⟩] := by rw [List.take_succ_eq_append_getElem (by simpa using hlt)]; simp [key145]
    have hal : ((x.map key145).take i).length = i := by simp; omega
    generalize (x.map key145).take i = acc at hn hal
    simp only [go_sem, T_1, T_3, T_4, T_9, T_50, T_51, T_69, T_145, T_151, all151, hlt, hx1, k151_enc, show (acc.length + 1) * 32 ≤ 140737488355328 by omega, show acc.length + 1 ≤ 140737488355328 by omega, wrap_i64s (show i < 1000000000000000000 by omega)]
    refine ⟨i + 1, by omega, by simp only; omega, ?_⟩
    simp only [hn]
    simp only [List.map_append, List.map_cons, List.map_nil, List.length_append, List.length_cons, List.length_nil, k145_enc]
    show _ = _
    kernel_rfl
  obtain rfl : i = x.length := by omega
  rw [show (x.map key145).take x.length = x.map key145 from List.take_of_length_le (by simp)]
  simp only [go_sem, T_1, T_3, T_4, T_9, T_50, T_51, T_69, T_145, T_151, hlt]
  clear hlt hi
  have hal0 : (x.map key145).length < 1000000 := by simpa using hx
  refine loop_rule (ι := Nat) (S := fun i => ⟨[(0, .fz (x.map k151.enc)), (1, .fz (y.map k151.enc)), (6, .ms 0 5 0 0 none), (7, .ms 1 2 0 (x.map key145).length none), (9, .ms 2 2 0 ((y.map key145).take i).length none), (44, .int .i64 y.length), (45, .int .i64 i)], [some (.buf 5 [] false true), some (.buf 2 ((x.map key145).map k145.enc) false true), some (.buf 2 (((y.map key145).take i).map k145.enc) false true)]⟩) (m := fun i => y.length + 1 - i)
    (I := fun i => i ≤ y.length) ?_ 0 _ (Nat.zero_le _) (by simp only [List.length_map]; kernel_rfl)
  rintro i hi
  by_cases hlt : i < y.length
  · have hy1 : y[i]? = some y[i] := List.getElem?_eq_getElem hlt
    have hn : (y.map key145).take (i + 1) = (y.map key145).take i ++ [⟨y[i].f0, ⟨#[]⟩⟩] := by rw [List.take_succ_eq_append_getElem (by simpa using hlt)]; simp [key145]
    have hal : ((y.map key145).take i).length = i := by simp; omega
    generalize (y.map key145).take i = acc at hn hal
    simp only [go_sem, T_1, T_3, T_4, T_9, T_50, T_51, T_69, T_145, T_151, all151, hlt, hy1, k151_enc, show (acc.length + 1) * 32 ≤ 140737488355328 by omega, show acc.length + 1 ≤ 140737488355328 by omega, wrap_i64s (show i < 1000000000000000000 by omega)]
    refine ⟨i + 1, by omega, by simp only; omega, ?_⟩
    simp only [hn]
    simp only [List.map_append, List.map_cons, List.map_nil, List.length_append, List.length_cons, List.length_nil, k145_enc]
    show _ = _
    kernel_rfl
  obtain rfl : i = y.length := by omega
  rw [show (y.map key145).take y.length = y.map key145 from List.take_of_length_le (by simp)]
  have hal1 : (y.map key145).length < 1000000 := by simpa using hy
  have hks := lim96 (x.map key145) (y.map key145) (by omega) (by omega)
  have hkl := keysL_le (a := x.map key145) (b := y.map key145)
  have hmem := fun k => joinKeys_mem (x := x) (y := y) (k := k)
  unfold joinKeys at hmem ⊢
  generalize hX : x.map key145 = X at *
  generalize hY : y.map key145 = Y at *
  simp only [go_sem, T_1, T_3, T_4, T_9, T_50, T_51, T_69, T_145, T_151, hlt, hfz, hks]
  generalize keysL X Y = ks at hkl hmem
  refine loop_rule (ι := Nat × List S151) (S := fun p => ⟨[(0, .fz (x.map k151.enc)), (1, .fz (y.map k151.enc)), (6, .ms 0 5 0 p.2.length none), (11, .fz (ks.map Cd.str.enc)), (62, .int .i64 ks.length), (63, .int .i64 p.1)], [some (.buf 5 (p.2.map k151.enc) false true)]⟩) (m := fun p => ks.length + 1 - p.1)
    (I := fun p => p.1 ≤ ks.length ∧ p.2.length ≤ p.1 ∧ joinRL x y (ks.drop p.1) p.2 = joinRL x y ks []) ?_ (0, []) _ ⟨by simp, by simp, rfl⟩ (by kernel_rfl)
  clear hlt hi
  rintro ⟨i, acc⟩ ⟨hi, ha, hg⟩
  simp only at hi ha hg
  by_cases hlt : i < ks.length
  · have hx1 : ks[i]? = some ks[i] := List.getElem?_eq_getElem hlt
    have hm := (hmem ks[i]).1 (List.getElem_mem hlt)
    rw [joinRL_drop hlt] at hg
    have hfx := fun n => call97 x ks[i] (by omega) n
    have hfy := fun n => call97 y ks[i] (by omega) n
    have step : ∀ l, joinK (lookC ks[i] x) (lookC ks[i] y) ks[i] = some l → (i + 1 ≤ ks.length ∧ (acc ++ l).length ≤ i + 1 ∧ joinRL x y (ks.drop (i + 1)) (acc ++ l) = joinRL x y ks []) := fun l hl => by
      have := joinK_le hl
      rw [hl] at hg
      exact ⟨by omega, by rw [List.length_append]; omega, hg⟩
    rcases posC_spec (k := ks[i]) x 0 with ⟨hx2, hx3⟩ | ⟨p, c, hx2, hx3, hx4⟩ <;> rcases posC_spec (k := ks[i]) y 0 with ⟨hy2, hy3⟩ | ⟨q, d, hy2, hy3, hy4⟩
    · simp [hx2, hy2] at hm
    · rw [hx2, hy3] at step
      obtain ⟨s1, s2, s3⟩ := step _ rfl
      rw [hx3] at hfx
      rw [hy4, Nat.zero_add] at hfy
      simp only [go_sem, T_1, T_3, T_4, T_9, T_50, T_51, T_69, T_145, T_151, all_str, all151, hlt, hx1, hfx, hfy, hy2, geM, geN, k151_enc, show (acc.length + 1) * 56 ≤ 140737488355328 by omega, show acc.length + 1 ≤ 140737488355328 by omega, wrap_i64s (show i < 1000000000000000000 by omega)]
      refine ⟨(i + 1, acc ++ [d]), ⟨s1, s2, s3⟩, by simp only; omega, ?_⟩
      simp only [List.map_append, List.map_cons, List.map_nil, List.length_append, List.length_cons, List.length_nil, k151_enc]
      show _ = _
      kernel_rfl
    · rw [hx3, hy2] at step
      obtain ⟨s1, s2, s3⟩ := step _ rfl
      rw [hx4, Nat.zero_add] at hfx
      rw [hy3] at hfy
      simp only [go_sem, T_1, T_3, T_4, T_9, T_50, T_51, T_69, T_145, T_151, all_str, all151, hlt, hx1, hfx, hfy, hx2, geM, geN, k151_enc, show (acc.length + 1) * 56 ≤ 140737488355328 by omega, show acc.length + 1 ≤ 140737488355328 by omega, wrap_i64s (show i < 1000000000000000000 by omega)]
      refine ⟨(i + 1, acc ++ [c]), ⟨s1, s2, s3⟩, by simp only; omega, ?_⟩
      simp only [List.map_append, List.map_cons, List.map_nil, List.length_append, List.length_cons, List.length_nil, k151_enc]
      show _ = _
      kernel_rfl
    · rw [hx3, hy3] at step hg
      rw [hx4, Nat.zero_add] at hfx
      rw [hy4, Nat.zero_add] at hfy
      simp only [joinK] at step hg
      have bad : ¬ (c.f2 = d.f1 ∧ c.f4 = d.f3) → joinRR (joinRL x y ks []) = .tup [.fz [], .int .i64 3] := fun h => by
        rw [if_neg h] at hg
        rw [← hg]
        rfl
      by_cases h3 : c.f2 = d.f1
      · have h3b : (c.f2 == d.f1) = true := by simpa using h3
        by_cases h4 : c.f4 = d.f3
        · rw [if_pos ⟨h3, h4⟩] at step
          by_cases h5 : c.f1 = d.f2
          · have h5b : (c.f1 == d.f2) = true := by simpa using h5
            by_cases h6 : c.f3 = d.f4
            · rw [if_neg (by simp [difB, h5, h6])] at step
              obtain ⟨s1, s2, s3⟩ := step _ rfl
              simp only [go_sem, T_1, T_3, T_4, T_9, T_50, T_51, T_69, T_145, T_151, all_str, all151, hlt, hx1, hfx, hfy, hx2, hy2, geN, k151_enc, h3b, h4, h5b, h6, ba_toList, wrap_i64s (show i < 1000000000000000000 by omega)]
              rw [List.append_nil] at s2 s3
              repeat (refine ⟨by kernel_rfl, ?_⟩)
              exact ⟨(i + 1, acc), ⟨s1, s2, s3⟩, by simp only; omega, by kernel_rfl⟩
            · rw [if_pos (by simp [difB, h6])] at step
              obtain ⟨s1, s2, s3⟩ := step _ rfl
              simp only [go_sem, T_1, T_3, T_4, T_9, T_50, T_51, T_69, T_145, T_151, all_str, all151, hlt, hx1, hfx, hfy, hx2, hy2, geN, k151_enc, h3b, h4, h5b, h6, ba_toList, show (acc.length + 1) * 56 ≤ 140737488355328 by omega, show acc.length + 1 ≤ 140737488355328 by omega, wrap_i64s (show i < 1000000000000000000 by omega)]
              repeat (refine ⟨by kernel_rfl, ?_⟩)
              refine ⟨(i + 1, acc ++ [⟨ks[i], c.f1, d.f2, c.f3, d.f4⟩]), ⟨s1, s2, s3⟩, by simp only; omega, ?_⟩
              simp only [List.map_append, List.map_cons, List.map_nil, List.length_append, List.length_cons, List.length_nil, k151_enc]
              show _ = _
              kernel_rfl
          · have h5b : (c.f1 == d.f2) = false := by simpa using h5
            rw [if_pos (by simp [difB, h5])] at step
            obtain ⟨s1, s2, s3⟩ := step _ rfl
            simp only [go_sem, T_1, T_3, T_4, T_9, T_50, T_51, T_69, T_145, T_151, all_str, all151, hlt, hx1, hfx, hfy, hx2, hy2, geN, k151_enc, h3b, h4, h5b, ba_toList, show (acc.length + 1) * 56 ≤ 140737488355328 by omega, show acc.length + 1 ≤ 140737488355328 by omega, wrap_i64s (show i < 1000000000000000000 by omega)]
            repeat (refine ⟨by kernel_rfl, ?_⟩)
            refine ⟨(i + 1, acc ++ [⟨ks[i], c.f1, d.f2, c.f3, d.f4⟩]), ⟨s1, s2, s3⟩, by simp only; omega, ?_⟩
            simp only [List.map_append, List.map_cons, List.map_nil, List.length_append, List.length_cons, List.length_nil, k151_enc]
            show _ = _
            kernel_rfl
        · simp only [go_sem, T_1, T_3, T_4, T_9, T_50, T_51, T_69, T_145, T_151, all_str, all151, hlt, hx1, hfx, hfy, hx2, hy2, geN, k151_enc, h3b, h4, ba_toList]
          rw [bad fun h => h4 h.2]
          show _ = _
          kernel_rfl
      · have h3b : (c.f2 == d.f1) = false := by simpa using h3
        simp only [go_sem, T_1, T_3, T_4, T_9, T_50, T_51, T_69, T_145, T_151, all_str, all151, hlt, hx1, hfx, hfy, hx2, hy2, geN, k151_enc, h3b, ba_toList]
        rw [bad fun h => h3 h.1]
        show _ = _
        kernel_rfl
  · rw [List.drop_eq_nil_of_le (by omega)] at hg
    simp only [joinRL] at hg
    simp only [go_sem, T_1, T_3, T_4, T_9, T_50, T_51, T_69, T_145, T_151, hlt]
    rw [← hg]
    simp only [joinRR]
    refine finish_fz ?_
    simp only [frz, frzAll, frzG, frzGAll, ms2, msUp, Rd.run, Heap.at?, List.length_map, Nat.zero_add, Nat.le_refl, and_self, if_true, List.drop_zero, FZ]
    rw [List.take_of_length_le (by simp)]
    show _ = _
    kernel_rfl
end Go.Proofs.Ytfdemnefkfkghaa.R
/- Chapter 31's laws: too great? diff.Merge. -/
namespace Go.Proofs.Ytfdemnefkfkghaa.R
open Go Go.Proofs
set_option linter.unusedSimpArgs false
set_option linter.unusedVariables false
set_option maxRecDepth 10000
set_option maxHeartbeats 4000000

def greatPairs (l : List S145) : Bool := decide (60 < l.length) || l.any fun p => decide (100 < p.f0.size) || decide (100 < p.f1.size)

theorem any_drop {α : Type} {f : α → Bool} {l : List α} {i : Nat} (h : i < l.length) : (l.drop i).any f = (f l[i] || (l.drop (i + 1)).any f) := by
  rw [List.drop_eq_getElem_cons h]
  rfl

theorem lim34 (l : List S145) : lim T fns 34 [.fz (l.map k145.enc)] [] = some (.bool (greatPairs l), []) := by
  refine fn_rule (fn := fn34) rfl rfl (by simp [fn34]) ?_
  unfold fn34
  simp only [Try.f34, Option.getD_some, argEnv, List.map_nil, List.length_nil]
  simp only [go_sem, T_3, T_9, T_51, T_145]
  split
  · rename_i h0
    have : 60 < l.length := by omega
    simp [greatPairs, this]
  · rename_i h0
    have h60 : ¬ 60 < l.length := by omega
    refine loop_rule (ι := Nat) (S := fun i => ⟨[(0, .fz (l.map k145.enc)), (8, .int .i64 l.length), (9, .int .i64 i)], []⟩) (m := fun i => l.length + 1 - i)
      (I := fun i => i ≤ l.length ∧ ((l.drop i).any fun p => decide (100 < p.f0.size) || decide (100 < p.f1.size)) = greatPairs l) ?_ 0 _ ⟨by omega, by simp [greatPairs, h60]⟩ rfl
    rintro i ⟨hi, hg⟩
    by_cases hlt : i < l.length
    · have hx : l[i]? = some l[i] := List.getElem?_eq_getElem hlt
      rw [any_drop hlt] at hg
      by_cases h1 : 100 < l[i].f0.size
      · have e1 : decide ((l[i].f0.size : Int) > 100) = true := by simp; omega
        simp only [go_sem, T_3, T_9, T_51, T_145, all145, hlt, hx, k145_enc, e1, wrap_i64s (show i < 1000000000000000000 by omega)]
        simpa [h1] using hg
      · have e1 : decide ((l[i].f0.size : Int) > 100) = false := by simp; omega
        by_cases h2 : 100 < l[i].f1.size
        · have e2 : decide ((l[i].f1.size : Int) > 100) = true := by simp; omega
          simp only [go_sem, T_3, T_9, T_51, T_145, all145, hlt, hx, k145_enc, e1, e2, wrap_i64s (show i < 1000000000000000000 by omega)]
          simpa [h1, h2] using hg
        · have e2 : decide ((l[i].f1.size : Int) > 100) = false := by simp; omega
          simp only [go_sem, T_3, T_9, T_51, T_145, all145, hlt, hx, k145_enc, e1, e2, wrap_i64s (show i < 1000000000000000000 by omega)]
          exact ⟨i + 1, ⟨by omega, by simpa [h1, h2] using hg⟩, by simp only; omega, rfl⟩
    · rw [List.drop_eq_nil_of_le (by omega)] at hg
      simp only [go_sem, T_3, T_9, T_51, T_145, hlt]
      rw [← hg]
      rfl
theorem call34 (l : List S145) (n : Nat) : callV (LX T fns) n (.clo 34 []) [.fz (l.map k145.enc)] = .pure (.bool (greatPairs l), []) := callV_plain (fn := fn34) rfl rfl rfl (lim34 l) n

def greatC (l : List S151) : Bool := decide (60 < l.length) || l.any fun p => decide (100 < p.f0.size) || decide (100 < p.f3.size) || decide (100 < p.f4.size)
theorem lim33 (l : List S151) : lim T fns 33 [.fz (l.map k151.enc)] [] = some (.bool (greatC l), []) := by
  refine fn_rule (fn := fn33) rfl rfl (by simp [fn33]) ?_
  unfold fn33
  simp only [Try.f33, Option.getD_some, argEnv, List.map_nil, List.length_nil]
  simp only [go_sem, T_3, T_4, T_9, T_50, T_151]
  split
  · rename_i h0
    have : 60 < l.length := by omega
    simp [greatC, this]
  · rename_i h0
    have h60 : ¬ 60 < l.length := by omega
    refine loop_rule (ι := Nat) (S := fun i => ⟨[(0, .fz (l.map k151.enc)), (8, .int .i64 l.length), (9, .int .i64 i)], []⟩) (m := fun i => l.length + 1 - i)
      (I := fun i => i ≤ l.length ∧ ((l.drop i).any fun p => decide (100 < p.f0.size) || decide (100 < p.f3.size) || decide (100 < p.f4.size)) = greatC l) ?_ 0 _ ⟨by omega, by simp [greatC, h60]⟩ rfl
    rintro i ⟨hi, hg⟩
    by_cases hlt : i < l.length
    · have hx : l[i]? = some l[i] := List.getElem?_eq_getElem hlt
      rw [any_drop hlt] at hg
      by_cases h1 : 100 < l[i].f0.size
      · have e1 : decide ((l[i].f0.size : Int) > 100) = true := by simp; omega
        simp only [go_sem, T_3, T_4, T_9, T_50, T_151, all151, hlt, hx, k151_enc, e1, wrap_i64s (show i < 1000000000000000000 by omega)]
        simpa [h1] using hg
      · have e1 : decide ((l[i].f0.size : Int) > 100) = false := by simp; omega
        by_cases h2 : 100 < l[i].f3.size
        · have e2 : decide ((l[i].f3.size : Int) > 100) = true := by simp; omega
          simp only [go_sem, T_3, T_4, T_9, T_50, T_151, all151, hlt, hx, k151_enc, e1, e2, wrap_i64s (show i < 1000000000000000000 by omega)]
          simpa [h1, h2] using hg
        · have e2 : decide ((l[i].f3.size : Int) > 100) = false := by simp; omega
          by_cases h3 : 100 < l[i].f4.size
          · have e3 : decide ((l[i].f4.size : Int) > 100) = true := by simp; omega
            simp only [go_sem, T_3, T_4, T_9, T_50, T_151, all151, hlt, hx, k151_enc, e1, e2, e3, wrap_i64s (show i < 1000000000000000000 by omega)]
            simpa [h1, h2, h3] using hg
          · have e3 : decide ((l[i].f4.size : Int) > 100) = false := by simp; omega
            simp only [go_sem, T_3, T_4, T_9, T_50, T_151, all151, hlt, hx, k151_enc, e1, e2, e3, wrap_i64s (show i < 1000000000000000000 by omega)]
            exact ⟨i + 1, ⟨by omega, by simpa [h1, h2, h3] using hg⟩, by simp only; omega, rfl⟩
    · rw [List.drop_eq_nil_of_le (by omega)] at hg
      simp only [go_sem, T_3, T_4, T_9, T_50, T_151, hlt]
      rw [← hg]
      rfl
theorem call33 (l : List S151) (n : Nat) : callV (LX T fns) n (.clo 33 []) [.fz (l.map k151.enc)] = .pure (.bool (greatC l), []) := callV_plain (fn := fn33) rfl rfl rfl (lim33 l) n

theorem upGo_of {α : Type} {ok : α → Bool} {key : α → ByteArray} : ∀ {l : List α} {p : Option ByteArray}, risesK (l.map key) = true → (∀ x ∈ l, ok x = true) → (∀ x ∈ l.head?, ∀ q ∈ p, ltS q (key x) = true) → upGo ok key p l = true
  | [], p, _, _, _ => rfl
  | x :: r, p, h, ho, hp => by
    simp only [upGo, ho x (.head _), Bool.true_and, Bool.and_eq_true]
    refine ⟨?_, upGo_of (rises_tl h) (fun y hy => ho y (.tail _ hy)) fun y hy q hq => ?_⟩
    · cases p with
      | none => rfl
      | some q => exact hp x rfl q rfl
    · simp only [Option.mem_def, Option.some.injEq] at hq
      subst hq
      exact rises_head h y (List.mem_of_mem_head? hy)
theorem upGo_all {α : Type} {ok : α → Bool} {key : α → ByteArray} : ∀ {l : List α} {p : Option ByteArray}, upGo ok key p l = true → ∀ x ∈ l, ok x = true
  | [], _, _, x, hx => by simp at hx
  | y :: r, p, h, x, hx => by
    simp only [upGo, Bool.and_eq_true] at h
    rcases List.mem_cons.1 hx with rfl | hx
    · exact h.1.1
    · exact upGo_all h.2 x hx
theorem mayL_iff {l : List S151} : mayL l = true ↔ risesK (l.map S151.f0) = true ∧ ∀ c ∈ l, mayB c = true := ⟨fun h => ⟨mayL_rises h, upGo_all h⟩, fun h => upGo_of h.1 h.2 (by simp)⟩
theorem mayL_filter {l : List S151} {p : S151 → Bool} (h : mayL l = true) : mayL (l.filter p) = true := by
  rw [mayL_iff] at h ⊢
  exact ⟨rises_filter h.1, fun c hc => h.2 c (List.mem_filter.1 hc).1⟩
theorem pairsL_rises {a b : List S145} (ha : riseL a = true) (hb : riseL b = true) : risesK ((pairsL a b).map S151.f0) = true := rises_filter (both_rises (riseL_iff.1 ha) (riseL_iff.1 hb))
theorem pairsL_may {a b : List S145} (ha : riseL a = true) (hb : riseL b = true) : mayL (pairsL a b) = true := mayL_iff.2 ⟨pairsL_rises ha hb, fun c hc => (List.mem_filter.1 hc).2⟩
theorem both_le : ∀ {n : Nat} {a b : List S145}, (bothL n a b).length ≤ a.length + b.length
  | 0, _, _ => by simp [bothL]
  | n + 1, [], [] => by simp [bothL]
  | n + 1, x :: a, [] => by
    have := both_le (n := n) (a := a) (b := [])
    simp only [bothL, List.length_cons] at this ⊢
    omega
  | n + 1, [], y :: b => by
    have := both_le (n := n) (a := []) (b := b)
    simp only [bothL, List.length_cons] at this ⊢
    omega
  | n + 1, x :: a, y :: b => by
    have h1 := both_le (n := n) (a := x :: a) (b := b)
    have h2 := both_le (n := n) (a := a) (b := b)
    have h3 := both_le (n := n) (a := a) (b := y :: b)
    simp only [List.length_cons] at h1 h2 h3 ⊢
    simp only [bothL]
    split
    · simp only [List.length_cons]; omega
    · split
      · simp only [List.length_cons]; omega
      · simp only [List.length_cons]; omega
theorem pairsL_le {a b : List S145} : (pairsL a b).length ≤ a.length + b.length := Nat.le_trans (List.length_filter_le _ _) both_le

theorem call39_ok (a b : List S145) (ha : a.length < 100000000) (hb : b.length < 100000000) (h1 : riseL a = true) (h2 : riseL b = true) (n : Nat) : callV (LX T fns) n (.clo 39 []) [.fz (a.map k145.enc), .fz (b.map k145.enc)] = .pure (.tup [.fz ((pairsL a b).map k151.enc), .int .i64 0], []) := callV_plain (fn := fn39) rfl rfl rfl (lim39_ok a b ha hb h1 h2) n
def keyC (c : S151) : V × V := (.str c.f0, valC c)
theorem findKeyC {k : ByteArray} : ∀ {l : List S151}, findKey (.str k) (l.map keyC) = some ((lookC k l).map valC)
  | [] => rfl
  | x :: r => by
    simp only [List.map_cons, keyC, findKey, eqCell, lookC, look]
    by_cases h : x.f0 = k
    · subst h
      simp [ba_beq]
    · have e : (k == x.f0) = false := by
        rw [ba_beq]
        simpa using fun e : k = x.f0 => h e.symm
      simp only [e, h, if_false]
      exact findKeyC
theorem setKeyC {k : ByteArray} {v : V} : ∀ {l : List S151}, (∀ x ∈ l, x.f0 ≠ k) → setKey (.str k) v (l.map keyC) = some (l.map keyC ++ [(.str k, v)])
  | [], _ => rfl
  | x :: r, h => by
    have h1 := h x (.head _)
    have e : (k == x.f0) = false := by
      rw [ba_beq]
      simpa using fun h : k = x.f0 => h1 h.symm
    simp only [List.map_cons, keyC, setKey, eqCell, e]
    have := setKeyC (v := v) fun y hy => h y (.tail _ hy)
    rw [this]
    rfl
def onlyL (mine his : List S151) : List S151 := his.filter fun c => (lookC c.f0 mine).isNone
def tornB (mine : List S151) (c : S151) : Bool := match lookC c.f0 mine with
  | some m => !decide (m = c)
  | none => false
def tornL (mine his : List S151) : List ByteArray := (his.filter (tornB mine)).map S151.f0
def mergeR (o : Option (List ByteArray × List ByteArray)) (torn : List ByteArray) : V := match o with
  | none => .tup [.fz [], .fz (torn.map Cd.str.enc), .int .i64 3]
  | some m => .tup [.fz ((zipS m.1 m.2).map k145.enc), .fz (torn.map Cd.str.enc), .int .i64 0]
theorem lim47_ok (a b c : List S145) (ha : a.length < 1000000) (hb : b.length < 1000000) (hc : c.length < 1000000) (h1 : riseL a = true) (h2 : riseL b = true) (h3 : riseL c = true) : lim T fns 47 [.fz (a.map k145.enc), .fz (b.map k145.enc), .fz (c.map k145.enc)] [] =
    some (mergeR (applyY (onlyL (pairsL a b) (pairsL a c)) (b.map S145.f0) (b.map S145.f1)) (tornL (pairsL a b) (pairsL a c)), []) := by
  refine fn_rule (fn := fn47) rfl rfl (by simp [fn47]) ?_
  unfold fn47
  simp only [Try.f47, Option.getD_some, argEnv, List.map_nil, List.length_nil]
  have hfz := callFz 41 fn41 (T := T) (fns := fns) rfl rfl 2 rfl
  have hp1 := fun n => call39_ok a b (by omega) (by omega) h1 h2 n
  have hp2 := fun n => call39_ok a c (by omega) (by omega) h1 h3 n
  have hr1 := pairsL_rises h1 h2
  have hm2 := pairsL_may h1 h3
  have hl1 := pairsL_le (a := a) (b := b)
  have hl2 := pairsL_le (a := a) (b := c)
  generalize pairsL a b = mine at *
  generalize pairsL a c = his at *
  have hk : ∀ s, isKey T 9 (.str s) = true := fun s => rfl
  have hfit : ∀ x : S151, fits ⟨.struct [(0, 9), (1, 4), (2, 4), (3, 9), (4, 9)], 5, 56, .agg [.str ⟨#[]⟩, .bool false, .bool false, .str ⟨#[]⟩, .str ⟨#[]⟩]⟩ (.agg [.str x.f0, .bool x.f1, .bool x.f2, .str x.f3, .str x.f4]) = true := fun x => rfl
  simp only [go_sem, T_1, T_3, T_4, T_9, T_25, T_50, T_51, T_69, T_145, T_151, T_176, hp1, hp2]
  refine loop_rule (ι := Nat) (S := fun i => ⟨[(1, .fz (b.map k145.enc)), (11, .fz (his.map k151.enc)), (12, .map 0), (41, .fz (mine.map k151.enc)), (42, .int .i64 mine.length), (43, .int .i64 i)], [some (.mp ((mine.take i).map keyC) true)]⟩) (m := fun i => mine.length + 1 - i)
    (I := fun i => i ≤ mine.length) ?_ 0 _ (Nat.zero_le _) (by kernel_rfl)
  rintro i hi
  by_cases hlt : i < mine.length
  · have hx : mine[i]? = some mine[i] := List.getElem?_eq_getElem hlt
    have hn : (mine.take (i + 1)).map keyC = (mine.take i).map keyC ++ [(.str mine[i].f0, .agg [.str mine[i].f0, .bool mine[i].f1, .bool mine[i].f2, .str mine[i].f3, .str mine[i].f4])] := by rw [List.take_succ_eq_append_getElem hlt, List.map_append]; rfl
    have hs := fun v => setKeyC (k := mine[i].f0) (v := v) (l := mine.take i) fun x hx e => by
      have h := rises_before hr1 (i := i) (by simpa using hlt) x.f0 (by rw [← List.map_take]; exact List.mem_map_of_mem hx)
      rw [List.getElem_map] at h
      exact ltS_ne h e
    simp only [go_sem, T_1, T_3, T_4, T_9, T_25, T_50, T_51, T_69, T_145, T_151, T_176, all151, hlt, hx, k151_enc, mapUpdateR, hk, hfit, hs, wrap_i64s (show i < 1000000000000000000 by omega)]
    refine ⟨i + 1, by omega, by simp only; omega, ?_⟩
    simp only [hn]
    show _ = _
    kernel_rfl
  obtain rfl : i = mine.length := by omega
  rw [List.take_length]
  simp only [go_sem, T_1, T_3, T_4, T_9, T_25, T_50, T_51, T_69, T_145, T_151, T_176, hlt]
  clear hlt hi
  refine loop_rule (ι := Nat) (S := fun i => ⟨[(1, .fz (b.map k145.enc)), (12, .map 0), (15, .ms 1 5 0 (onlyL mine (his.take i)).length none), (16, .ms 2 1 0 (tornL mine (his.take i)).length none), (52, .fz (his.map k151.enc)), (53, .int .i64 his.length), (54, .int .i64 i)], [some (.mp (mine.map keyC) true), some (.buf 5 ((onlyL mine (his.take i)).map k151.enc) false true), some (.buf 1 ((tornL mine (his.take i)).map Cd.str.enc) false true)]⟩) (m := fun i => his.length + 1 - i)
    (I := fun i => i ≤ his.length) ?_ 0 _ (Nat.zero_le _) (by kernel_rfl)
  rintro i hi
  by_cases hlt : i < his.length
  · have hx : his[i]? = some his[i] := List.getElem?_eq_getElem hlt
    have ho : onlyL mine (his.take (i + 1)) = onlyL mine (his.take i) ++ (if (lookC his[i].f0 mine).isNone = true then [his[i]] else []) := by
      unfold onlyL
      rw [List.take_succ_eq_append_getElem hlt, List.filter_append]
      cases h : (lookC his[i].f0 mine).isNone <;> simp [List.filter, h]
    have ht : tornL mine (his.take (i + 1)) = tornL mine (his.take i) ++ (if tornB mine his[i] = true then [his[i].f0] else []) := by
      unfold tornL
      rw [List.take_succ_eq_append_getElem hlt, List.filter_append, List.map_append]
      cases h : tornB mine his[i] <;> simp [List.filter, h]
    have hol : (onlyL mine (his.take i)).length ≤ i := Nat.le_trans (List.length_filter_le _ _) (by simp; omega)
    have htl : (tornL mine (his.take i)).length ≤ i := by
      unfold tornL
      rw [List.length_map]
      exact Nat.le_trans (List.length_filter_le _ _) (by simp; omega)
    generalize onlyL mine (his.take i) = only at ho hol
    generalize tornL mine (his.take i) = torn at ht htl
    have hfk := findKeyC (k := his[i].f0) (l := mine)
    unfold tornB at ht
    cases hlk : lookC his[i].f0 mine with
    | none =>
      rw [hlk] at hfk ho ht
      simp only [Option.isNone_none, if_true, Bool.false_eq_true, if_false, List.append_nil] at ho ht
      simp only [go_sem, T_1, T_3, T_4, T_9, T_25, T_50, T_51, T_69, T_145, T_151, T_176, all151, hlt, hx, k151_enc, lookupR, hk, hfk, giveR, Option.map_none, Option.isSome_none, show (only.length + 1) * 56 ≤ 140737488355328 by omega, show only.length + 1 ≤ 140737488355328 by omega, wrap_i64s (show i < 1000000000000000000 by omega)]
      refine ⟨i + 1, by omega, by simp only; omega, ?_⟩
      simp only [ho, ht]
      simp only [List.map_append, List.map_cons, List.map_nil, List.length_append, List.length_cons, List.length_nil, k151_enc]
      show _ = _
      kernel_rfl
    | some m =>
      rw [hlk] at hfk ho ht
      simp only [Option.isNone_some, Bool.false_eq_true, if_false, List.append_nil] at ho
      by_cases hmc : m = his[i]
      · have hd : (!decide (m = his[i])) = false := by simp [hmc]
        simp only [hd, Bool.false_eq_true, if_false, List.append_nil] at ht
        have heq : decide (m = his[i]) = true := by simp [hmc]
        simp only [go_sem, T_1, T_3, T_4, T_9, T_25, T_50, T_51, T_69, T_145, T_151, T_176, all151, hlt, hx, k151_enc, lookupR, hk, hfk, giveR, Option.map_some, Option.isSome_some, valC, eq151, heq, wrap_i64s (show i < 1000000000000000000 by omega)]
        refine ⟨i + 1, by omega, by simp only; omega, ?_⟩
        simp only [ho, ht]
        show _ = _
        kernel_rfl
      · have hd : (!decide (m = his[i])) = true := by simp [hmc]
        simp only [hd, if_true] at ht
        have heq : decide (m = his[i]) = false := by simp [hmc]
        simp only [go_sem, T_1, T_3, T_4, T_9, T_25, T_50, T_51, T_69, T_145, T_151, T_176, all151, hlt, hx, k151_enc, lookupR, hk, hfk, giveR, Option.map_some, Option.isSome_some, valC, eq151, heq, show (torn.length + 1) * 16 ≤ 140737488355328 by omega, show torn.length + 1 ≤ 140737488355328 by omega, wrap_i64s (show i < 1000000000000000000 by omega)]
        refine ⟨i + 1, by omega, by simp only; omega, ?_⟩
        simp only [ho, ht]
        simp only [List.map_append, List.map_cons, List.map_nil, List.length_append, List.length_cons, List.length_nil, str_enc]
        show _ = _
        kernel_rfl
  obtain rfl : i = his.length := by omega
  rw [List.take_length]
  have hol : (onlyL mine his).length ≤ his.length := List.length_filter_le _ _
  have hap := lim41_ok b (onlyL mine his) (by omega) (by omega) h2 (mayL_filter hm2)
  generalize onlyL mine his = only at hap hol
  generalize tornL mine his = torn
  generalize applyY only (b.map S145.f0) (b.map S145.f1) = o at hap
  cases o with
  | none =>
    simp only [applyR] at hap
    simp only [go_sem, T_1, T_3, T_4, T_9, T_25, T_50, T_51, T_69, T_145, T_151, T_176, hlt, hfz, hap, mergeR]
    refine finish_fz ?_
    simp only [frz, frzAll, frzG, frzGAll, ms2, msUp, Rd.run, Heap.at?, List.length_map, Nat.zero_add, Nat.le_refl, and_self, if_true, List.drop_zero, FZ]
    rw [List.take_of_length_le (by simp)]
    show _ = _
    kernel_rfl
  | some m =>
    simp only [applyR] at hap
    simp only [go_sem, T_1, T_3, T_4, T_9, T_25, T_50, T_51, T_69, T_145, T_151, T_176, hlt, hfz, hap, mergeR]
    refine finish_fz ?_
    simp only [frz, frzAll, frzG, frzGAll, ms2, msUp, Rd.run, Heap.at?, List.length_map, Nat.zero_add, Nat.le_refl, and_self, if_true, List.drop_zero, FZ]
    rw [List.take_of_length_le (by simp)]
    show _ = _
    kernel_rfl
end Go.Proofs.Ytfdemnefkfkghaa.R
/- Chapter 31's plain law: changes between pairs, and what they do. -/
namespace Go.Proofs.Ytfdemnefkfkghaa.R
open Go
set_option linter.unusedVariables false
set_option linter.unusedSimpArgs false

open Classical in
theorem look_keys {α : Type} {key : α → ByteArray} {f : ByteArray → α} (hf : ∀ k, key (f k) = k) {k : ByteArray} : ∀ {ks : List ByteArray}, look key k (ks.map f) = if k ∈ ks then some (f k) else none
  | [] => by simp [look]
  | x :: r => by
    simp only [List.map_cons, look, hf, List.mem_cons]
    by_cases h : x = k
    · subst h; simp
    · have h2 : ¬ k = x := fun e => h e.symm
      simp only [h, h2, if_false, false_or]
      exact look_keys hf
theorem map_keys {α : Type} {key : α → ByteArray} {f : ByteArray → α} (hf : ∀ k, key (f k) = k) (ks : List ByteArray) : (ks.map f).map key = ks := by
  rw [List.map_map]
  conv => rhs; rw [← List.map_id ks]
  apply List.map_congr_left
  intro k _
  exact hf k
theorem keysL_rises {a b : List S145} : risesK (keysL a b) = true := keysP_rises
open Classical in
theorem chg_at {a b : List S145} {k : ByteArray} : (if k ∈ keysL a b then some (atC a b k) else none) = chg k (lookP k a) (lookP k b) := by
  by_cases h : k ∈ keysL a b
  · rw [if_pos h]
    rw [keysL_mem] at h
    unfold atC
    cases hp : lookP k a <;> cases hq : lookP k b
    · simp [hp, hq] at h
    · simp [chg, valP]
    · simp [chg, valP]
    · simp [chg, valP]
  · rw [if_neg h]
    rw [keysL_mem] at h
    cases hp : lookP k a <;> cases hq : lookP k b
    · rfl
    · simp [hq] at h
    · simp [hp] at h
    · simp [hp] at h
theorem may_dif {k : ByteArray} {p q : Option S145} {c : S151} (h : chg k p q = some c) : mayB c = difB c := by
  cases p <;> cases q <;> simp only [chg] at h
  · cases h
  · cases h; rfl
  · cases h; rfl
  · cases h; rfl
theorem filter_congr' {α : Type} {p q : α → Bool} {o : Option α} (h : ∀ x, o = some x → p x = q x) : o.filter p = o.filter q := by
  cases o with
  | none => rfl
  | some x => simp only [Option.filter, h x rfl]
theorem pairs_look {a b : List S145} (ha : riseL a = true) (hb : riseL b = true) (k : ByteArray) : lookC k (pairsL a b) = (chg k (lookP k a) (lookP k b)).filter mayB := by
  unfold pairsL lookC
  rw [look_filter (both_rises (riseL_iff.1 ha) (riseL_iff.1 hb))]
  congr 1
  exact both_look (Nat.le_refl _) (riseL_iff.1 ha) (riseL_iff.1 hb)
theorem refPairs_look {a b : List S145} (k : ByteArray) : lookC k (refPairs a b) = (chg k (lookP k a) (lookP k b)).filter difB := by
  unfold refPairs lookC
  rw [look_filter (by rw [map_keys (key := S151.f0) (fun _ => rfl)]; exact keysL_rises), look_keys (fun _ => rfl), chg_at]
theorem refPairs_rises {a b : List S145} : risesK ((refPairs a b).map S151.f0) = true := rises_filter (by rw [map_keys (key := S151.f0) (fun _ => rfl)]; exact keysL_rises)
theorem pairs_ref {a b : List S145} (ha : riseL a = true) (hb : riseL b = true) : pairsL a b = refPairs a b := by
  refine look_ext (key := S151.f0) (pairsL_rises ha hb) refPairs_rises fun k => ?_
  rw [show look S151.f0 k (pairsL a b) = lookC k (pairsL a b) from rfl, pairs_look ha hb, show look S151.f0 k (refPairs a b) = lookC k (refPairs a b) from rfl, refPairs_look]
  exact filter_congr' fun c h => may_dif h
theorem turn_look {l : List S151} {k : ByteArray} : lookC k (l.map turnS) = (lookC k l).map turnS := look_map (fun _ => rfl)
theorem turn_rises {l : List S151} (h : risesK (l.map S151.f0) = true) : risesK ((l.map turnS).map S151.f0) = true := by
  rw [List.map_map]
  exact h
theorem turn_may (c : S151) : mayB (turnS c) = mayB c := by
  obtain ⟨k, f1, f2, f3, f4⟩ := c
  simp only [mayB, turnS]
  cases f1 <;> cases f2 <;> first | rfl | simp [eq_comm]
theorem turn_turn (c : S151) : turnS (turnS c) = c := rfl
theorem chg_turn {k : ByteArray} {p q : Option S145} : (chg k p q).map turnS = chg k q p := by
  cases p <;> cases q <;> rfl
theorem pairs_turn {a b : List S145} (ha : riseL a = true) (hb : riseL b = true) : (pairsL a b).map turnS = pairsL b a := by
  refine look_ext (key := S151.f0) (turn_rises (pairsL_rises ha hb)) (pairsL_rises hb ha) fun k => ?_
  rw [show look S151.f0 k ((pairsL a b).map turnS) = lookC k ((pairsL a b).map turnS) from rfl, turn_look, pairs_look ha hb, show look S151.f0 k (pairsL b a) = lookC k (pairsL b a) from rfl, pairs_look hb ha, ← chg_turn (p := lookP k a)]
  cases chg k (lookP k a) (lookP k b) with
  | none => rfl
  | some c =>
    simp only [Option.map_some, Option.filter, turn_may]
    cases mayB c <;> rfl

/-! What changes do. -/
def after (k : ByteArray) (l : List S151) (o : Option ByteArray) : Option ByteArray := match lookC k l with
  | some c => if c.f2 = true then some c.f4 else none
  | none => o
def fitsO (c : S151) (o : Option ByteArray) : Prop := o.isSome = c.f1 ∧ o.getD ⟨#[]⟩ = c.f3
theorem getM_look {k : ByteArray} {ks vs : List ByteArray} (hr : risesK ks = true) (hl : vs.length = ks.length) : getM zS k ks vs = (lookM k ks vs).getD ⟨#[]⟩ := by
  unfold getM
  rw [lookM_get hr hl]
  cases h : hasB k ks with
  | true => rw [if_pos rfl, if_pos rfl]; rfl
  | false => simp [zS]
theorem delM_spec {k j : ByteArray} {ks vs : List ByteArray} (hr : risesK ks = true) (hl : vs.length = ks.length) : risesK (delM k ks ks) = true ∧ (delM k ks vs).length = (delM k ks ks).length ∧ lookM j (delM k ks ks) (delM k ks vs) = if k = j then none else lookM j ks vs := by
  unfold delM
  cases h : hasB k ks with
  | true =>
    simp only [if_true]
    have := hasB_lt h
    exact ⟨del_rises hr h, by rw [delAt_len (by omega), delAt_len this, hl], lookM_del hr hl h⟩
  | false =>
    simp only [Bool.false_eq_true, if_false]
    refine ⟨hr, hl, ?_⟩
    rw [lookM_has hr hl] at h
    split
    · rename_i e
      subst e
      simpa using h
    · rfl
theorem insM_spec {k j v : ByteArray} {ks vs : List ByteArray} (hr : risesK ks = true) (hl : vs.length = ks.length) (hb : lookM k ks vs = none) : risesK (insAt (posB k ks) k ks) = true ∧ (insAt (posB k ks) v vs).length = (insAt (posB k ks) k ks).length ∧ lookM j (insAt (posB k ks) k ks) (insAt (posB k ks) v vs) = if k = j then some v else lookM j ks vs := by
  have h : hasB k ks = false := by rw [lookM_has hr hl, hb]; rfl
  have hp := posB_le k ks
  exact ⟨rises_ins hr h, by rw [insAt_len hp, insAt_len (by omega), hl], lookM_ins hr hl h⟩
theorem applyY_ok : ∀ {l : List S151} {ks vs : List ByteArray}, risesK (l.map S151.f0) = true → risesK ks = true → vs.length = ks.length → (∀ c ∈ l, fitsO c (lookM c.f0 ks vs)) →
    ∃ m, applyY l ks vs = some m ∧ risesK m.1 = true ∧ m.2.length = m.1.length ∧ ∀ k, lookM k m.1 m.2 = after k l (lookM k ks vs)
  | [], ks, vs, _, hr, hl, _ => ⟨(ks, vs), rfl, hr, hl, fun k => rfl⟩
  | c :: r, ks, vs, hc, hr, hl, hf => by
    have h1 := hf c (.head _)
    have hne : ∀ d ∈ r, ¬ c.f0 = d.f0 := fun d hd e => ltS_ne (rises_head hc d hd) e
    simp only [applyY]
    rw [if_pos ⟨by rw [lookM_has hr hl]; exact h1.1, by rw [getM_look hr hl]; exact h1.2⟩]
    have hd := fun j => delM_spec (k := c.f0) (j := j) hr hl
    have aft : ∀ k, after k (c :: r) (lookM k ks vs) = after k r (if c.f0 = k then (if c.f2 = true then some c.f4 else none) else lookM k ks vs) := fun k => by
      unfold after
      simp only [lookC, look]
      by_cases e : c.f0 = k
      · subst e
        have : look S151.f0 c.f0 r = none := look_lt (rises_head hc)
        simp [this]
      · simp [e]
    cases h2 : c.f2 with
    | true =>
      rw [if_pos rfl]
      have hi := fun j => insM_spec (k := c.f0) (j := j) (v := c.f4) (hd c.f0).1 (hd c.f0).2.1 (by rw [(hd c.f0).2.2, if_pos rfl])
      have hlook : ∀ j, lookM j (insAt (posB c.f0 (delM c.f0 ks ks)) c.f0 (delM c.f0 ks ks)) (insAt (posB c.f0 (delM c.f0 ks ks)) c.f4 (delM c.f0 ks vs)) = if c.f0 = j then some c.f4 else lookM j ks vs := fun j => by
        rw [(hi j).2.2, (hd j).2.2]
        split <;> rfl
      obtain ⟨m, m1, m2, m3, m4⟩ := applyY_ok (rises_tl hc) (hi c.f0).1 (hi c.f0).2.1 fun d hdm => by
        rw [hlook, if_neg (hne d hdm)]
        exact hf d (.tail _ hdm)
      refine ⟨m, m1, m2, m3, fun k => ?_⟩
      rw [m4, hlook, aft, h2, if_pos rfl]
    | false =>
      rw [if_neg (by simp)]
      obtain ⟨m, m1, m2, m3, m4⟩ := applyY_ok (rises_tl hc) (hd c.f0).1 (hd c.f0).2.1 fun d hdm => by
        rw [(hd d.f0).2.2, if_neg (hne d hdm)]
        exact hf d (.tail _ hdm)
      refine ⟨m, m1, m2, m3, fun k => ?_⟩
      rw [m4, (hd k).2.2, aft, h2]
      simp
theorem applyY_no : ∀ {l : List S151} {ks vs : List ByteArray}, risesK (l.map S151.f0) = true → risesK ks = true → vs.length = ks.length → ¬ (∀ c ∈ l, fitsO c (lookM c.f0 ks vs)) → applyY l ks vs = none
  | [], ks, vs, _, hr, hl, h => absurd (by simp) h
  | c :: r, ks, vs, hc, hr, hl, hf => by
    have hne : ∀ d ∈ r, ¬ c.f0 = d.f0 := fun d hd e => ltS_ne (rises_head hc d hd) e
    simp only [applyY]
    split
    · rename_i h1
      rw [lookM_has hr hl, getM_look hr hl] at h1
      have hd := fun j => delM_spec (k := c.f0) (j := j) hr hl
      have hf2 : ¬ ∀ d ∈ r, fitsO d (lookM d.f0 ks vs) := fun h => hf fun d hdm => by
        rcases List.mem_cons.1 hdm with rfl | hdm
        · exact h1
        · exact h d hdm
      split
      · have hi := fun j => insM_spec (k := c.f0) (j := j) (v := c.f4) (hd c.f0).1 (hd c.f0).2.1 (by rw [(hd c.f0).2.2, if_pos rfl])
        refine applyY_no (rises_tl hc) (hi c.f0).1 (hi c.f0).2.1 fun h => hf2 fun d hdm => ?_
        have := h d hdm
        rw [(hi d.f0).2.2, if_neg (hne d hdm), (hd d.f0).2.2, if_neg (hne d hdm)] at this
        exact this
      · refine applyY_no (rises_tl hc) (hd c.f0).1 (hd c.f0).2.1 fun h => hf2 fun d hdm => ?_
        have := h d hdm
        rw [(hd d.f0).2.2, if_neg (hne d hdm)] at this
        exact this
    · rfl
theorem zipS_look {k : ByteArray} {ks vs : List ByteArray} (hl : vs.length = ks.length) : lookP k (zipS ks vs) = (lookM k ks vs).map fun v => ⟨k, v⟩ := by
  unfold zipS lookP
  rw [look_map (key := Prod.fst) (key' := S145.f0) (f := mp145) (fun _ => rfl), zip_look hl]
  cases lookM k ks vs <;> rfl
theorem zipS_keys {ks vs : List ByteArray} (hl : vs.length = ks.length) : (zipS ks vs).map S145.f0 = ks := by
  unfold zipS
  rw [List.map_map]
  exact zip_keys hl
theorem lookP_val {k : ByteArray} {l : List S145} : lookP k l = ((lookP k l).map S145.f1).map fun v => ⟨k, v⟩ := by
  cases h : lookP k l with
  | none => rfl
  | some x =>
    have := look_key h
    simp [← this]
theorem zipS_ext {ks vs : List ByteArray} {b : List S145} (hl : vs.length = ks.length) (hr : risesK ks = true) (hb : riseL b = true) (h : ∀ k, lookM k ks vs = (lookP k b).map S145.f1) : zipS ks vs = b := by
  refine look_ext (key := S145.f0) (by rw [zipS_keys hl]; exact hr) (riseL_iff.1 hb) fun k => ?_
  rw [show look S145.f0 k (zipS ks vs) = lookP k (zipS ks vs) from rfl, zipS_look hl, h, ← lookP_val]
theorem pairs_apply {a b : List S145} (ha : riseL a = true) (hb : riseL b = true) : ∃ m, applyY (pairsL a b) (a.map S145.f0) (a.map S145.f1) = some m ∧ zipS m.1 m.2 = b := by
  have hr := pairsL_rises ha hb
  obtain ⟨m, m1, m2, m3, m4⟩ := applyY_ok (l := pairsL a b) (ks := a.map S145.f0) (vs := a.map S145.f1) hr (riseL_iff.1 ha) (by simp) fun c hc => by
    have h1 : lookC c.f0 (pairsL a b) = some c := look_of_mem hr hc
    rw [pairs_look ha hb] at h1
    rw [lookM_map]
    show fitsO c ((lookP c.f0 a).map S145.f1)
    unfold fitsO
    cases hp : lookP c.f0 a <;> cases hq : lookP c.f0 b <;> rw [hp, hq] at h1 <;> simp only [chg, Option.filter] at h1
    · cases h1
    · split at h1
      · have e := Option.some.inj h1
        have e1 := congrArg S151.f1 e
        have e3 := congrArg S151.f3 e
        exact ⟨e1, e3⟩
      · cases h1
    · split at h1
      · have e := Option.some.inj h1
        have e1 := congrArg S151.f1 e
        have e3 := congrArg S151.f3 e
        exact ⟨e1, e3⟩
      · cases h1
    · split at h1
      · have e := Option.some.inj h1
        have e1 := congrArg S151.f1 e
        have e3 := congrArg S151.f3 e
        exact ⟨e1, e3⟩
      · cases h1
  refine ⟨m, m1, zipS_ext m3 m2 hb fun k => ?_⟩
  rw [m4, lookM_map, after, pairs_look ha hb]
  show _ = (lookP k b).map S145.f1
  cases hp : lookP k a with
  | none =>
    cases hq : lookP k b with
    | none =>
      simp only [chg, Option.filter]
      rw [show look S145.f0 k a = none from hp]
    | some y =>
      simp [chg, Option.filter, mayB]
  | some x =>
    cases hq : lookP k b with
    | none => simp [chg, Option.filter, mayB]
    | some y =>
      by_cases e : x.f1 = y.f1
      · simp [chg, Option.filter, mayB, e, show look S145.f0 k a = some x from hp]
      · simp [chg, Option.filter, mayB, e]
end Go.Proofs.Ytfdemnefkfkghaa.R
/- Chapter 31's laws: the document's example; DiffPairs. -/
namespace Go.Proofs.Ytfdemnefkfkghaa.R
open Go Go.Proofs
set_option linter.unusedSimpArgs false
set_option linter.unusedVariables false
set_option maxRecDepth 10000
set_option maxHeartbeats 4000000

theorem lim35 : lim T fns 35 [] [] = some (.bool true, []) := acall_lim (R := 40) (d := 12) (by kernel_rfl)
theorem call35 (n : Nat) : callV (LX T fns) n (.clo 35 []) [] = .pure (.bool true, []) := callV_plain (fn := fn35) rfl rfl rfl lim35 n
theorem call39_bad (a b : List S145) (ha : a.length < 100000000) (hb : b.length < 100000000) (hr : (riseL a && riseL b) = false) (n : Nat) : callV (LX T fns) n (.clo 39 []) [.fz (a.map k145.enc), .fz (b.map k145.enc)] = .pure (.tup [.fz [], .int .i64 1], []) := callV_plain (fn := fn39) rfl rfl rfl (lim39_bad a b ha hb hr) n
theorem call40_bad (a b : List S145) (ha : a.length < 10000000) (hb : b.length < 10000000) (hr : (riseL a && riseL b) = false) (n : Nat) : callV (LX T fns) n (.clo 40 []) [.fz (a.map k145.enc), .fz (b.map k145.enc)] = .pure (.tup [.fz [], .int .i64 1], []) := callV_plain (fn := fn40) rfl rfl rfl (lim40_bad a b ha hb hr) n
theorem call40_ok (a b : List S145) (ha : a.length < 10000000) (hb : b.length < 10000000) (h1 : riseL a = true) (h2 : riseL b = true) (n : Nat) : callV (LX T fns) n (.clo 40 []) [.fz (a.map k145.enc), .fz (b.map k145.enc)] = .pure (.tup [.fz ((refPairs a b).map k151.enc), .int .i64 0], []) := callV_plain (fn := fn40) rfl rfl rfl (lim40_ok a b ha hb h1 h2) n
theorem call42 (l : List S151) (hl : l.length < 1000000000) (n : Nat) : callV (LX T fns) n (.clo 42 []) [.fz (l.map k151.enc)] = .pure (.fz ((l.map turnS).map k151.enc), []) := callV_plain (fn := fn42) rfl rfl rfl (lim42 l hl) n
theorem call41_bad (x : List S145) (y : List S151) (hx : x.length < 1000000000) (hy : y.length < 1000000000) (hb : (riseL x && mayL y) = false) (n : Nat) : callV (LX T fns) n (.clo 41 []) [.fz (x.map k145.enc), .fz (y.map k151.enc)] = .pure (.tup [.fz [], .int .i64 1], []) := callV_plain (fn := fn41) rfl rfl rfl (lim41_bad x y hx hy hb) n
theorem call41_some (x : List S145) (y : List S151) (hx : x.length < 100000000) (hy : y.length < 100000000) (h1 : riseL x = true) (h2 : mayL y = true) {m : List ByteArray × List ByteArray} (hm : applyY y (x.map S145.f0) (x.map S145.f1) = some m) (n : Nat) : callV (LX T fns) n (.clo 41 []) [.fz (x.map k145.enc), .fz (y.map k151.enc)] = .pure (.tup [.fz ((zipS m.1 m.2).map k145.enc), .int .i64 0], []) := by
  have h := lim41_ok x y hx hy h1 h2
  rw [hm] at h
  exact callV_plain (fn := fn41) rfl rfl rfl h n
theorem call41_none (x : List S145) (y : List S151) (hx : x.length < 100000000) (hy : y.length < 100000000) (h1 : riseL x = true) (h2 : mayL y = true) (hm : applyY y (x.map S145.f0) (x.map S145.f1) = none) (n : Nat) : callV (LX T fns) n (.clo 41 []) [.fz (x.map k145.enc), .fz (y.map k151.enc)] = .pure (.tup [.fz [], .int .i64 3], []) := by
  have h := lim41_ok x y hx hy h1 h2
  rw [hm] at h
  exact callV_plain (fn := fn41) rfl rfl rfl h n
theorem few_pairs {l : List S145} (h : greatPairs l = false) : l.length ≤ 60 := by
  unfold greatPairs at h
  simp only [Bool.or_eq_false_iff, decide_eq_false_iff_not] at h
  omega
theorem few_changes {l : List S151} (h : greatC l = false) : l.length ≤ 60 := by
  unfold greatC at h
  simp only [Bool.or_eq_false_iff, decide_eq_false_iff_not] at h
  omega

theorem lim9 (a b : List S145) : lim T fns 9 [.fz (a.map k145.enc), .fz (b.map k145.enc)] [] = some (.bool true, []) := by
  cases hga : greatPairs a with
  | true =>
    refine fn_rule (fn := fn9) rfl rfl (by simp [fn9]) ?_
    unfold fn9
    simp only [Try.f9, Option.getD_some, argEnv, List.map_nil, List.length_nil]
    simp only [go_sem, T_3, T_4, T_9, T_25, T_50, T_51, T_145, T_151, call34, hga, call35]
  | false =>
  cases hgb : greatPairs b with
  | true =>
    refine fn_rule (fn := fn9) rfl rfl (by simp [fn9]) ?_
    unfold fn9
    simp only [Try.f9, Option.getD_some, argEnv, List.map_nil, List.length_nil]
    simp only [go_sem, T_3, T_4, T_9, T_25, T_50, T_51, T_145, T_151, call34, hga, hgb, call35]
  | false =>
  have ha := few_pairs hga
  have hb := few_pairs hgb
  cases hr : (riseL a && riseL b) with
  | false =>
    have h1 := fun n => call39_bad a b (by omega) (by omega) hr n
    have h2 := fun n => call40_bad a b (by omega) (by omega) hr n
    have h3 := fun n => call38 [] [] (by simp) n
    simp only [List.map_nil, decide_true] at h3
    refine fn_rule (fn := fn9) rfl rfl (by simp [fn9]) ?_
    unfold fn9
    simp only [Try.f9, Option.getD_some, argEnv, List.map_nil, List.length_nil]
    simp only [go_sem, T_3, T_4, T_9, T_25, T_50, T_51, T_145, T_151, call34, hga, hgb, call35, h1, h2, h3, show (((1 : Int) == 0) = false) from rfl, show (((1 : Int) == 1) = true) from rfl, show ((1 : Int) != 1) = false from rfl, show ((1 : Int) != 0) = true from rfl]
  | true =>
    simp only [Bool.and_eq_true] at hr
    obtain ⟨ra, rb⟩ := hr
    have hl := pairsL_le (a := a) (b := b)
    have hl2 := pairsL_le (a := b) (b := a)
    have hm := pairsL_may ra rb
    have hm2 := pairsL_may rb ra
    obtain ⟨m, m1, m2⟩ := pairs_apply ra rb
    obtain ⟨q, q1, q2⟩ := pairs_apply rb ra
    have h1 := fun n => call39_ok a b (by omega) (by omega) ra rb n
    have h2 := fun n => call40_ok a b (by omega) (by omega) ra rb n
    rw [← pairs_ref ra rb] at h2
    have h3 := fun n => call38 (pairsL a b) (pairsL a b) (by omega) n
    simp only [decide_true] at h3
    have h4 := fun n => call42 (pairsL a b) (by omega) n
    rw [pairs_turn ra rb] at h4
    have h5 := fun n => call41_some a (pairsL a b) (by omega) (by omega) ra hm m1 n
    have h6 := fun n => call41_some b (pairsL b a) (by omega) (by omega) rb hm2 q1 n
    rw [m2] at h5
    rw [q2] at h6
    have h7 := fun n => call43 (pairsL a b) (by omega) n
    rw [hm] at h7
    have h8 := fun n => call44 b b (by omega) n
    have h9 := fun n => call44 a a (by omega) n
    simp only [decide_true] at h8 h9
    refine fn_rule (fn := fn9) rfl rfl (by simp [fn9]) ?_
    unfold fn9
    simp only [Try.f9, Option.getD_some, argEnv, List.map_nil, List.length_nil]
    simp only [go_sem, T_3, T_4, T_9, T_25, T_50, T_51, T_145, T_151, call34, hga, hgb, call35, h1, h2, h3, h4, h5, h6, h7, h8, h9, show (((0 : Int) == 0) = true) from rfl, show ((0 : Int) != 0) = false from rfl]
end Go.Proofs.Ytfdemnefkfkghaa.R
/- Chapter 31's plain law: changes upon pairs are the document's. -/
namespace Go.Proofs.Ytfdemnefkfkghaa.R
open Go
set_option linter.unusedVariables false
set_option linter.unusedSimpArgs false

def fitsP (a : List S145) (c : S151) : Prop := (lookP c.f0 a).isSome = c.f1 ∧ valP (lookP c.f0 a) = c.f3
def afterP (k : ByteArray) (l : List S151) (o : Option S145) : Option S145 := match lookC k l with
  | some c => if c.f2 = true then some ⟨k, c.f4⟩ else none
  | none => o
theorem refY_ok {a : List S145} : ∀ {l : List S151} {out : List S145}, risesK (l.map S151.f0) = true → risesK (out.map S145.f0) = true → (∀ c ∈ l, fitsP a c) →
    ∃ m, refY a l out = some m ∧ risesK (m.map S145.f0) = true ∧ ∀ k, lookP k m = afterP k l (lookP k out)
  | [], out, _, hr, _ => ⟨out, rfl, hr, fun k => rfl⟩
  | c :: r, out, hc, hr, hf => by
    simp only [refY]
    rw [if_pos (show (lookP c.f0 a).isSome = c.f1 ∧ valP (lookP c.f0 a) = c.f3 from hf c (.head _))]
    have hnext : ∀ j, lookP j (if c.f2 = true then putK' S145.f0 ⟨c.f0, c.f4⟩ out else outK S145.f0 c.f0 out) = if c.f0 = j then (if c.f2 = true then some ⟨j, c.f4⟩ else none) else lookP j out := fun j => by
      unfold lookP
      split
      · rw [putK'_look hr]
        by_cases e : c.f0 = j
        · subst e; simp
        · simp [e]
      · rw [outK_look hr]
    obtain ⟨m, m1, m2, m3⟩ := refY_ok (l := r) (out := if c.f2 = true then putK' S145.f0 ⟨c.f0, c.f4⟩ out else outK S145.f0 c.f0 out) (rises_tl hc) (by split; exact putK'_rises hr; exact outK_rises hr) fun d hd => hf d (.tail _ hd)
    refine ⟨m, m1, m2, fun k => ?_⟩
    rw [m3, hnext]
    unfold afterP
    simp only [lookC, look]
    by_cases e : c.f0 = k
    · subst e
      have : look S151.f0 c.f0 r = none := look_lt (rises_head hc)
      simp [this]
    · simp [e]
theorem refY_no {a : List S145} : ∀ {l : List S151} {out : List S145}, ¬ (∀ c ∈ l, fitsP a c) → refY a l out = none
  | [], out, h => absurd (by simp) h
  | c :: r, out, h => by
    simp only [refY]
    split
    · rename_i h1
      exact refY_no fun hr => h fun d hd => by
        rcases List.mem_cons.1 hd with rfl | hd
        · exact h1
        · exact hr d hd
    · rfl
theorem refY_len {a : List S145} : ∀ {l : List S151} {out m : List S145}, refY a l out = some m → m.length ≤ out.length + l.length
  | [], out, m, h => by
    simp only [refY] at h
    cases h
    simp
  | c :: r, out, m, h => by
    simp only [refY] at h
    split at h
    · have h1 := refY_len h
      have h2 := putK'_le (p := ⟨c.f0, c.f4⟩) (l := out)
      have h3 := outK_le (k := c.f0) (l := out)
      simp only [List.length_cons]
      split at h1 <;> omega
    · cases h
theorem fits_iff {a : List S145} {c : S151} : fitsO c (lookM c.f0 (a.map S145.f0) (a.map S145.f1)) ↔ fitsP a c := by
  rw [lookM_map]
  unfold fitsO fitsP
  cases h : look S145.f0 c.f0 a with
  | none => simp [lookP, h, valP]
  | some x => simp [lookP, h, valP]
theorem after_iff {k : ByteArray} {l : List S151} {a : List S145} : afterP k l (lookP k a) = (after k l ((lookP k a).map S145.f1)).map fun v => ⟨k, v⟩ := by
  unfold afterP after
  cases lookC k l with
  | none => exact lookP_val
  | some c => simp only; split <;> rfl
/-- Pairs with changes: the program's are the document's. -/
theorem apply_ref {a : List S145} {l : List S151} (ha : riseL a = true) (hl : mayL l = true) : (applyY l (a.map S145.f0) (a.map S145.f1) = none ∧ refY a l a = none) ∨ ∃ m q, applyY l (a.map S145.f0) (a.map S145.f1) = some m ∧ refY a l a = some q ∧ zipS m.1 m.2 = q := by
  have hr := (mayL_iff.1 hl).1
  by_cases hf : ∀ c ∈ l, fitsP a c
  · obtain ⟨m, m1, m2, m3, m4⟩ := applyY_ok (l := l) (ks := a.map S145.f0) (vs := a.map S145.f1) hr (riseL_iff.1 ha) (by simp) fun c hc => fits_iff.2 (hf c hc)
    obtain ⟨q, q1, q2, q3⟩ := refY_ok (a := a) (l := l) (out := a) hr (riseL_iff.1 ha) hf
    refine .inr ⟨m, q, m1, q1, look_ext (key := S145.f0) (by rw [zipS_keys m3]; exact m2) q2 fun k => ?_⟩
    rw [show look S145.f0 k (zipS m.1 m.2) = lookP k (zipS m.1 m.2) from rfl, zipS_look m3, m4, lookM_map, show look S145.f0 k q = lookP k q from rfl, q3, after_iff]
  · exact .inl ⟨applyY_no hr (riseL_iff.1 ha) (by simp) fun h => hf fun c hc => fits_iff.1 (h c hc), refY_no hf⟩
theorem upGo_turn : ∀ {l : List S151} {p : Option ByteArray}, upGo mayB S151.f0 p (l.map turnS) = upGo mayB S151.f0 p l
  | [], _ => rfl
  | c :: r, p => by
    simp only [List.map_cons, upGo, turn_may]
    rw [upGo_turn]
    rfl
theorem mayL_turn {l : List S151} : mayL (l.map turnS) = mayL l := upGo_turn
theorem turn_back {l : List S151} : (l.map turnS).map turnS = l := by
  rw [List.map_map]
  conv => rhs; rw [← List.map_id l]
  rfl
end Go.Proofs.Ytfdemnefkfkghaa.R
/- Chapter 31's laws: DiffApplies. -/
namespace Go.Proofs.Ytfdemnefkfkghaa.R
open Go Go.Proofs
set_option linter.unusedSimpArgs false
set_option linter.unusedVariables false
set_option maxRecDepth 10000
set_option maxHeartbeats 4000000

theorem call45_bad (x : List S145) (y : List S151) (hx : x.length < 1000000000) (hy : y.length < 1000000000) (hb : (riseL x && mayL y) = false) (n : Nat) : callV (LX T fns) n (.clo 45 []) [.fz (x.map k145.enc), .fz (y.map k151.enc)] = .pure (.tup [.fz [], .int .i64 1], []) := callV_plain (fn := fn45) rfl rfl rfl (lim45_bad x y hx hy hb) n
theorem call45_some (x : List S145) (y : List S151) (hx : x.length < 10000000) (hy : y.length < 10000000) (h1 : riseL x = true) (h2 : mayL y = true) {m : List S145} (hm : refY x y x = some m) (n : Nat) : callV (LX T fns) n (.clo 45 []) [.fz (x.map k145.enc), .fz (y.map k151.enc)] = .pure (.tup [.fz (m.map k145.enc), .int .i64 0], []) := by
  have h := lim45_ok x y hx hy h1 h2
  rw [hm] at h
  exact callV_plain (fn := fn45) rfl rfl rfl h n
theorem call45_none (x : List S145) (y : List S151) (hx : x.length < 10000000) (hy : y.length < 10000000) (h1 : riseL x = true) (h2 : mayL y = true) (hm : refY x y x = none) (n : Nat) : callV (LX T fns) n (.clo 45 []) [.fz (x.map k145.enc), .fz (y.map k151.enc)] = .pure (.tup [.fz [], .int .i64 3], []) := by
  have h := lim45_ok x y hx hy h1 h2
  rw [hm] at h
  exact callV_plain (fn := fn45) rfl rfl rfl h n
theorem lim10 (a : List S145) (l : List S151) : lim T fns 10 [.fz (a.map k145.enc), .fz (l.map k151.enc)] [] = some (.bool true, []) := by
  cases hga : greatPairs a with
  | true =>
    refine fn_rule (fn := fn10) rfl rfl (by simp [fn10]) ?_
    unfold fn10
    simp only [Try.f10, Option.getD_some, argEnv, List.map_nil, List.length_nil]
    simp only [go_sem, T_3, T_4, T_9, T_50, T_51, T_145, T_151, call34, hga, call35]
  | false =>
  cases hgb : greatC l with
  | true =>
    refine fn_rule (fn := fn10) rfl rfl (by simp [fn10]) ?_
    unfold fn10
    simp only [Try.f10, Option.getD_some, argEnv, List.map_nil, List.length_nil]
    simp only [go_sem, T_3, T_4, T_9, T_50, T_51, T_145, T_151, call34, call33, hga, hgb, call35]
  | false =>
  have ha := few_pairs hga
  have hb := few_changes hgb
  have h4 := fun n => call42 l (by omega) n
  have h5 := fun n => call42 (l.map turnS) (by simp; omega) n
  rw [turn_back] at h5
  have h6 := fun n => call38 l l (by omega) n
  have h7 := fun n => call43 l (by omega) n
  have h8 := fun n => call46 l (by omega) n
  have h9 := fun n => call43 (l.map turnS) (by simp; omega) n
  rw [mayL_turn] at h9
  have hs : ∀ b : Bool, (b == b) = true := fun b => by cases b <;> rfl
  simp only [decide_true] at h6
  have key : ∀ (m : List S145) (e : Int), (∀ n, callV (LX T fns) n (.clo 41 []) [.fz (a.map k145.enc), .fz (l.map k151.enc)] = .pure (.tup [.fz (m.map k145.enc), .int .i64 e], [])) → (∀ n, callV (LX T fns) n (.clo 45 []) [.fz (a.map k145.enc), .fz (l.map k151.enc)] = .pure (.tup [.fz (m.map k145.enc), .int .i64 e], [])) → m.length < 1000000000000000 → lim T fns 10 [.fz (a.map k145.enc), .fz (l.map k151.enc)] [] = some (.bool true, []) := by
    intro m e h1 h2 hml
    have h3 := fun n => call44 m m (by omega) n
    simp only [decide_true] at h3
    have he : (e == e) = true := by simp
    generalize mayL l = q at *
    refine fn_rule (fn := fn10) rfl rfl (by simp [fn10]) ?_
    unfold fn10
    simp only [Try.f10, Option.getD_some, argEnv, List.map_nil, List.length_nil]
    simp only [go_sem, T_3, T_4, T_9, T_50, T_51, T_145, T_151, call34, call33, hga, hgb, call35, h1, h2, h3, h4, h5, h6, h7, h8, h9, he, hs]
  cases hr : (riseL a && mayL l) with
  | false => exact key [] 1 (fun n => call41_bad a l (by omega) (by omega) hr n) (fun n => call45_bad a l (by omega) (by omega) hr n) (by simp)
  | true =>
    simp only [Bool.and_eq_true] at hr
    rcases apply_ref hr.1 hr.2 with ⟨h1, h2⟩ | ⟨m, q, h1, h2, h3⟩
    · exact key [] 3 (fun n => call41_none a l (by omega) (by omega) hr.1 hr.2 h1 n) (fun n => call45_none a l (by omega) (by omega) hr.1 hr.2 h2 n) (by simp)
    · refine key q 0 (fun n => by have := call41_some a l (by omega) (by omega) hr.1 hr.2 h1 n; rw [h3] at this; exact this) (fun n => call45_some a l (by omega) (by omega) hr.1 hr.2 h2 n) ?_
      have := refY_len h2
      omega
end Go.Proofs.Ytfdemnefkfkghaa.R
/- The law DiffApplies, for every argument. -/
namespace Go.Proofs.Ytfdemnefkfkghaa.R
open Go Go.Proofs
set_option linter.unusedVariables false
theorem law10 (x0 : (List S145)) (gx0 : g51 x0) (x1 : (List S151)) (gx1 : g50 x1) : ∃ R d h, acall T fns R d 10 [.fz (x0.map k145.enc), .fz (x1.map k151.enc)] [] = some (.bool true, h) := by
  obtain ⟨R, d, h⟩ := lim_acall (lim10 x0 x1)
  exact ⟨R, d, _, h⟩
end Go.Proofs.Ytfdemnefkfkghaa.R
/- Chapter 31's plain law: changes and others behind them. -/
namespace Go.Proofs.Ytfdemnefkfkghaa.R
open Go
set_option linter.unusedVariables false
set_option linter.unusedSimpArgs false

/-- A key's changes, joined. -/
def jn (k : ByteArray) : Option S151 → Option S151 → Option S151
  | some p, some c => some ⟨k, p.f1, c.f2, p.f3, c.f4⟩
  | none, some c => some c
  | p, none => p
def fitsJ (p q : Option S151) : Prop := ∀ c d, p = some c → q = some d → c.f2 = d.f1 ∧ c.f4 = d.f3
theorem lookM_self {k : ByteArray} {vs : List S151} : lookM k (vs.map S151.f0) vs = lookC k vs := by
  have := lookM_map (key := S151.f0) (val := fun x : S151 => x) (k := k) (l := vs)
  simpa using this
theorem set_keys {vs : List S151} {i : Nat} {c d : S151} (h : vs[i]? = some c) (hk : d.f0 = c.f0) : (vs.set i d).map S151.f0 = vs.map S151.f0 := by
  apply List.ext_getElem?
  intro j
  simp only [List.getElem?_map, List.getElem?_set]
  split
  · rename_i e
    subst e
    split
    · rw [h]; simp [hk]
    · rename_i hlt
      rw [List.getElem?_eq_none (by omega)]
  · rfl
theorem joinY_ok : ∀ {y vs : List S151}, risesK (y.map S151.f0) = true → risesK (vs.map S151.f0) = true → (∀ c ∈ y, fitsJ (lookC c.f0 vs) (some c)) →
    ∃ m, joinY y (vs.map S151.f0) vs = some m ∧ risesK (m.2.map S151.f0) = true ∧ ∀ k, lookC k m.2 = jn k (lookC k vs) (lookC k y)
  | [], vs, _, hr, _ => ⟨(vs.map S151.f0, vs), rfl, hr, fun k => by cases lookC k vs <;> rfl⟩
  | c :: r, vs, hc, hr, hf => by
    have hne : ∀ d ∈ r, ¬ c.f0 = d.f0 := fun d hd e => ltS_ne (rises_head hc d hd) e
    have hnr : look S151.f0 c.f0 r = none := look_lt (rises_head hc)
    have hhas := lookM_has (k := c.f0) (vs := vs) hr (by simp)
    have hget := lookM_get (k := c.f0) (vs := vs) hr (by simp)
    rw [lookM_self] at hhas hget
    simp only [joinY]
    cases hl : lookC c.f0 vs with
    | some p =>
      rw [hl] at hhas hget
      have hb : hasB c.f0 (vs.map S151.f0) = true := hhas
      rw [if_pos hb] at hget
      have hfit := hf c (.head _) p c hl rfl
      have hg : getM zC c.f0 (vs.map S151.f0) vs = p := by unfold getM; rw [if_pos hb, ← hget]; rfl
      have hpk : p.f0 = c.f0 := look_key hl
      rw [if_pos hb, hg, if_pos hfit]
      have hkeys := set_keys (d := ⟨c.f0, p.f1, c.f2, p.f3, c.f4⟩) hget.symm hpk.symm
      have hlook : ∀ j, lookC j (vs.set (posB c.f0 (vs.map S151.f0)) ⟨c.f0, p.f1, c.f2, p.f3, c.f4⟩) = if c.f0 = j then some ⟨c.f0, p.f1, c.f2, p.f3, c.f4⟩ else lookC j vs := fun j => by
        have := lookM_set (j := j) (c := (⟨c.f0, p.f1, c.f2, p.f3, c.f4⟩ : S151)) (vs := vs) hr (by simp) hb
        rw [← lookM_self, hkeys, this, lookM_self]
      obtain ⟨m, m1, m2, m3⟩ := joinY_ok (y := r) (vs := vs.set (posB c.f0 (vs.map S151.f0)) ⟨c.f0, p.f1, c.f2, p.f3, c.f4⟩) (rises_tl hc) (by rw [hkeys]; exact hr) fun d hd => by
        rw [hlook, if_neg (hne d hd)]
        exact hf d (.tail _ hd)
      rw [hkeys] at m1
      refine ⟨m, m1, m2, fun k => ?_⟩
      rw [m3, hlook]
      simp only [lookC, look] at hl ⊢
      by_cases e : c.f0 = k
      · subst e
        simp [hnr, jn, hl]
      · simp [e]
    | none =>
      rw [hl] at hhas
      have hb : hasB c.f0 (vs.map S151.f0) = false := hhas
      rw [if_neg (by rw [hb]; simp)]
      have hkeys : (insAt (posB c.f0 (vs.map S151.f0)) c vs).map S151.f0 = insAt (posB c.f0 (vs.map S151.f0)) c.f0 (vs.map S151.f0) := insAt_map.symm
      have hlook : ∀ j, lookC j (insAt (posB c.f0 (vs.map S151.f0)) c vs) = if c.f0 = j then some c else lookC j vs := fun j => by
        have := lookM_ins (j := j) (c := c) (vs := vs) hr (by simp) hb
        rw [← lookM_self, hkeys]
        unfold insAt
        rw [this, lookM_self]
      obtain ⟨m, m1, m2, m3⟩ := joinY_ok (y := r) (vs := insAt (posB c.f0 (vs.map S151.f0)) c vs) (rises_tl hc) (by rw [hkeys]; exact rises_ins hr hb) fun d hd => by
        rw [hlook, if_neg (hne d hd)]
        exact hf d (.tail _ hd)
      rw [hkeys] at m1
      refine ⟨m, m1, m2, fun k => ?_⟩
      rw [m3, hlook]
      simp only [lookC, look] at hl ⊢
      by_cases e : c.f0 = k
      · subst e
        simp [hnr, jn, hl]
      · simp [e]
theorem joinY_no : ∀ {y vs : List S151}, risesK (y.map S151.f0) = true → risesK (vs.map S151.f0) = true → ¬ (∀ c ∈ y, fitsJ (lookC c.f0 vs) (some c)) → joinY y (vs.map S151.f0) vs = none
  | [], vs, _, hr, h => absurd (by simp) h
  | c :: r, vs, hc, hr, hf => by
    have hne : ∀ d ∈ r, ¬ c.f0 = d.f0 := fun d hd e => ltS_ne (rises_head hc d hd) e
    have hhas := lookM_has (k := c.f0) (vs := vs) hr (by simp)
    have hget := lookM_get (k := c.f0) (vs := vs) hr (by simp)
    rw [lookM_self] at hhas hget
    simp only [joinY]
    cases hl : lookC c.f0 vs with
    | some p =>
      rw [hl] at hhas hget
      have hb : hasB c.f0 (vs.map S151.f0) = true := hhas
      rw [if_pos hb] at hget
      have hg : getM zC c.f0 (vs.map S151.f0) vs = p := by unfold getM; rw [if_pos hb, ← hget]; rfl
      have hpk : p.f0 = c.f0 := look_key hl
      rw [if_pos hb, hg]
      split
      · rename_i hfit
        have hkeys := set_keys (d := ⟨c.f0, p.f1, c.f2, p.f3, c.f4⟩) hget.symm hpk.symm
        have hlook : ∀ j, lookC j (vs.set (posB c.f0 (vs.map S151.f0)) ⟨c.f0, p.f1, c.f2, p.f3, c.f4⟩) = if c.f0 = j then some ⟨c.f0, p.f1, c.f2, p.f3, c.f4⟩ else lookC j vs := fun j => by
          have := lookM_set (j := j) (c := (⟨c.f0, p.f1, c.f2, p.f3, c.f4⟩ : S151)) (vs := vs) hr (by simp) hb
          rw [← lookM_self, hkeys, this, lookM_self]
        have := joinY_no (y := r) (vs := vs.set (posB c.f0 (vs.map S151.f0)) ⟨c.f0, p.f1, c.f2, p.f3, c.f4⟩) (rises_tl hc) (by rw [hkeys]; exact hr) fun h => hf fun d hd => by
          rcases List.mem_cons.1 hd with rfl | hd
          · intro c' d' h1 h2
            cases h2
            rw [hl] at h1
            cases h1
            exact hfit
          · have := h d hd
            rw [hlook, if_neg (hne d hd)] at this
            exact this
        rw [hkeys] at this
        exact this
      · rfl
    | none =>
      rw [hl] at hhas
      have hb : hasB c.f0 (vs.map S151.f0) = false := hhas
      rw [if_neg (by rw [hb]; simp)]
      have hkeys : (insAt (posB c.f0 (vs.map S151.f0)) c vs).map S151.f0 = insAt (posB c.f0 (vs.map S151.f0)) c.f0 (vs.map S151.f0) := insAt_map.symm
      have hlook : ∀ j, lookC j (insAt (posB c.f0 (vs.map S151.f0)) c vs) = if c.f0 = j then some c else lookC j vs := fun j => by
        have := lookM_ins (j := j) (c := c) (vs := vs) hr (by simp) hb
        rw [← lookM_self, hkeys]
        unfold insAt
        rw [this, lookM_self]
      have := joinY_no (y := r) (vs := insAt (posB c.f0 (vs.map S151.f0)) c vs) (rises_tl hc) (by rw [hkeys]; exact rises_ins hr hb) fun h => hf fun d hd => by
        rcases List.mem_cons.1 hd with rfl | hd
        · intro c' d' h1 h2
          rw [hl] at h1
          cases h1
        · have := h d hd
          rw [hlook, if_neg (hne d hd)] at this
          exact this
      rw [hkeys] at this
      exact this

theorem join_may {k : ByteArray} {c d : S151} (hc : mayB c = true) (hd : mayB d = true) : mayB ⟨k, c.f1, d.f2, c.f3, d.f4⟩ = difB ⟨k, c.f1, d.f2, c.f3, d.f4⟩ := by
  obtain ⟨k1, a1, a2, a3, a4⟩ := c
  obtain ⟨k2, b1, b2, b3, b4⟩ := d
  unfold mayB at hc hd ⊢
  unfold difB
  cases a1 <;> cases a2 <;> cases b1 <;> cases b2 <;> simp_all
theorem joinK_eq {x y : List S151} (hx : mayL x = true) (hy : mayL y = true) {k : ByteArray} {l : List S151} (h : joinK (lookC k x) (lookC k y) k = some l) : l = ((jn k (lookC k x) (lookC k y)).filter mayB).toList := by
  have mx : ∀ c, lookC k x = some c → mayB c = true := fun c hc => (mayL_iff.1 hx).2 c (look_mem hc)
  have my : ∀ c, lookC k y = some c → mayB c = true := fun c hc => (mayL_iff.1 hy).2 c (look_mem hc)
  cases hp : lookC k x with
  | none =>
    cases hq : lookC k y with
    | none => rw [hp, hq] at h; cases h; rfl
    | some d =>
      rw [hp, hq] at h
      cases h
      simp [jn, Option.filter, my d hq]
  | some c =>
    cases hq : lookC k y with
    | none =>
      rw [hp, hq] at h
      cases h
      simp [jn, Option.filter, mx c hp]
    | some d =>
      rw [hp, hq] at h
      simp only [joinK] at h
      split at h
      · cases h
        simp only [jn, Option.filter, join_may (k := k) (mx c hp) (my d hq)]
        split <;> rfl
      · cases h
theorem joinK_some {p q : Option S151} {k : ByteArray} (h : fitsJ p q) : ∃ l, joinK p q k = some l := by
  cases p with
  | none => cases q <;> exact ⟨_, rfl⟩
  | some c =>
    cases q with
    | none => exact ⟨_, rfl⟩
    | some d =>
      have := h c d rfl rfl
      simp only [joinK]
      rw [if_pos this]
      exact ⟨_, rfl⟩
theorem joinK_none {p q : Option S151} {k : ByteArray} (h : ¬ fitsJ p q) : joinK p q k = none := by
  cases p with
  | none => exact absurd (fun _ _ h => by cases h) h
  | some c =>
    cases q with
    | none => exact absurd (fun _ _ _ h => by cases h) h
    | some d =>
      simp only [joinK]
      rw [if_neg]
      intro hf
      exact h fun c' d' h1 h2 => by cases h1; cases h2; exact hf
theorem joinRL_ok {x y : List S151} (hx : mayL x = true) (hy : mayL y = true) : ∀ {ks : List ByteArray} {acc : List S151}, (∀ k ∈ ks, fitsJ (lookC k x) (lookC k y)) → joinRL x y ks acc = some (acc ++ ks.filterMap fun k => (jn k (lookC k x) (lookC k y)).filter mayB)
  | [], acc, _ => by simp [joinRL]
  | k :: r, acc, h => by
    obtain ⟨l, hl⟩ := joinK_some (k := k) (h k (.head _))
    have he := joinK_eq hx hy hl
    simp only [joinRL, hl]
    rw [joinRL_ok hx hy fun j hj => h j (.tail _ hj), he, List.filterMap_cons, List.append_assoc]
    cases ((jn k (lookC k x) (lookC k y)).filter mayB) <;> rfl
theorem joinRL_no {x y : List S151} : ∀ {ks : List ByteArray} {acc : List S151}, ¬ (∀ k ∈ ks, fitsJ (lookC k x) (lookC k y)) → joinRL x y ks acc = none
  | [], acc, h => absurd (by simp) h
  | k :: r, acc, h => by
    simp only [joinRL]
    by_cases hk : fitsJ (lookC k x) (lookC k y)
    · obtain ⟨l, hl⟩ := joinK_some (k := k) hk
      simp only [hl]
      exact joinRL_no fun hr => h fun j hj => by
        rcases List.mem_cons.1 hj with rfl | hj
        · exact hk
        · exact hr j hj
    · rw [joinK_none hk]
theorem look_fm {α : Type} {key : α → ByteArray} {f : ByteArray → Option α} (hf : ∀ k c, f k = some c → key c = k) {k : ByteArray} : ∀ {ks : List ByteArray}, (k ∈ ks → risesK ks = true → look key k (ks.filterMap f) = f k) ∧ (k ∉ ks → look key k (ks.filterMap f) = none)
  | [] => ⟨by simp, fun _ => rfl⟩
  | x :: r => by
    have ih := look_fm hf (k := k) (ks := r)
    rw [List.filterMap_cons]
    refine ⟨fun hm hr => ?_, fun hm => ?_⟩
    · rcases List.mem_cons.1 hm with rfl | hm
      · have hn : k ∉ r := fun h => by
          have := risesK_lt hr k h
          rw [ltS_irrefl] at this; cases this
        cases hfk : f k with
        | none => exact ih.2 hn
        | some c => simp [look, hf k c hfk]
      · have hne : ¬ x = k := ltS_ne (risesK_lt hr k hm)
        cases hfx : f x with
        | none => exact ih.1 hm (risesK_tail hr)
        | some c =>
          simp only [look]
          rw [if_neg (by rw [hf x c hfx]; exact hne)]
          exact ih.1 hm (risesK_tail hr)
    · simp only [List.mem_cons, not_or] at hm
      cases hfx : f x with
      | none => exact ih.2 hm.2
      | some c =>
        simp only [look]
        rw [if_neg (by rw [hf x c hfx]; exact fun e => hm.1 e.symm)]
        exact ih.2 hm.2
theorem rises_fm {α : Type} {key : α → ByteArray} {f : ByteArray → Option α} (hf : ∀ k c, f k = some c → key c = k) : ∀ {ks : List ByteArray}, risesK ks = true → risesK ((ks.filterMap f).map key) = true
  | [], _ => rfl
  | x :: r, h => by
    rw [List.filterMap_cons]
    cases hfx : f x with
    | none => exact rises_fm hf (risesK_tail h)
    | some c =>
      refine rises_mk (rises_fm hf (risesK_tail h)) fun y hy => ?_
      obtain ⟨z, hz, hz2⟩ := List.mem_filterMap.1 hy
      rw [hf x c hfx, hf z y hz2]
      exact risesK_lt h z hz
theorem jn_key {k : ByteArray} {x y : List S151} {c : S151} (h : (jn k (lookC k x) (lookC k y)).filter mayB = some c) : c.f0 = k := by
  have h2 : jn k (lookC k x) (lookC k y) = some c := by
    cases hj : jn k (lookC k x) (lookC k y) with
    | none => rw [hj] at h; cases h
    | some d =>
      rw [hj] at h
      simp only [Option.filter] at h
      split at h
      · exact h
      · cases h
  cases hp : lookC k x <;> cases hq : lookC k y <;> rw [hp, hq] at h2 <;> simp only [jn] at h2
  · cases h2
  · cases h2; exact look_key hq
  · cases h2; exact look_key hp
  · rw [← Option.some.inj h2]
theorem fits_all {x y : List S151} (hy : risesK (y.map S151.f0) = true) : (∀ c ∈ y, fitsJ (lookC c.f0 x) (some c)) ↔ ∀ k ∈ joinKeys x y, fitsJ (lookC k x) (lookC k y) := by
  constructor
  · intro h k _ c d hc hd
    have hk : d.f0 = k := look_key hd
    have := h d (look_mem hd) c d (by rw [hk]; exact hc) rfl
    exact this
  · intro h c hc
    have hl : lookC c.f0 y = some c := look_of_mem hy hc
    have := h c.f0 (joinKeys_mem.2 (.inr (by rw [hl]; rfl)))
    rw [hl] at this
    exact this
/-- Changes joined: the program's are the document's. -/
theorem join_ref {x y : List S151} (hx : mayL x = true) (hy : mayL y = true) : (joinY y (x.map S151.f0) x = none ∧ joinRL x y (joinKeys x y) [] = none) ∨ ∃ m q, joinY y (x.map S151.f0) x = some m ∧ joinRL x y (joinKeys x y) [] = some q ∧ m.2.filter mayB = q := by
  have rx := (mayL_iff.1 hx).1
  have ry := (mayL_iff.1 hy).1
  by_cases hf : ∀ c ∈ y, fitsJ (lookC c.f0 x) (some c)
  · obtain ⟨m, m1, m2, m3⟩ := joinY_ok ry rx hf
    have hr := joinRL_ok hx hy (acc := []) ((fits_all ry).1 hf)
    refine .inr ⟨m, _, m1, hr, ?_⟩
    rw [List.nil_append]
    refine look_ext (key := S151.f0) (rises_filter m2) (rises_fm (fun k c h => jn_key h) keysL_rises) fun k => ?_
    rw [look_filter m2]
    have e : look S151.f0 k m.2 = jn k (lookC k x) (lookC k y) := m3 k
    rw [e]
    by_cases hk : k ∈ joinKeys x y
    · rw [(look_fm (key := S151.f0) (fun k c h => jn_key h)).1 hk keysL_rises]
    · rw [(look_fm (key := S151.f0) (fun k c h => jn_key h)).2 hk]
      rw [joinKeys_mem] at hk
      cases hp : lookC k x <;> cases hq : lookC k y
      · rfl
      · simp [hq] at hk
      · simp [hp] at hk
      · simp [hp] at hk
  · exact .inl ⟨joinY_no ry rx hf, joinRL_no fun h => hf ((fits_all ry).2 h)⟩
/-- From the first to the third. -/
theorem join_pairs {a b c : List S145} (ha : riseL a = true) (hb : riseL b = true) (hc : riseL c = true) : ∃ m, joinY (pairsL b c) ((pairsL a b).map S151.f0) (pairsL a b) = some m ∧ m.2.filter mayB = pairsL a c := by
  have key : ∀ k, fitsJ (lookC k (pairsL a b)) (lookC k (pairsL b c)) := fun k x y hx hy => by
    rw [pairs_look ha hb] at hx
    rw [pairs_look hb hc] at hy
    cases hp : lookP k a <;> cases hq : lookP k b <;> cases hs : lookP k c <;> rw [hp, hq] at hx <;> rw [hq, hs] at hy <;> simp only [chg, Option.filter] at hx hy <;>
      (first | (cases hx; done) | (cases hy; done) | (split at hx <;> split at hy <;> first | (cases hx; done) | (cases hy; done) | (cases hx; cases hy; exact ⟨rfl, rfl⟩)))
  obtain ⟨m, m1, m2, m3⟩ := joinY_ok (y := pairsL b c) (vs := pairsL a b) (pairsL_rises hb hc) (pairsL_rises ha hb) fun d hd => by
    have hl : lookC d.f0 (pairsL b c) = some d := look_of_mem (pairsL_rises hb hc) hd
    have := key d.f0
    rw [hl] at this
    exact this
  refine ⟨m, m1, look_ext (key := S151.f0) (rises_filter m2) (pairsL_rises ha hc) fun k => ?_⟩
  rw [look_filter m2, show look S151.f0 k m.2 = lookC k m.2 from rfl, m3, pairs_look ha hb, pairs_look hb hc, show look S151.f0 k (pairsL a c) = lookC k (pairsL a c) from rfl, pairs_look ha hc]
  cases hp : lookP k a with
  | none =>
    cases hq : lookP k b with
    | none => cases hs : lookP k c <;> simp [chg, Option.filter, mayB, jn]
    | some y =>
      cases hs : lookP k c with
      | none => simp [chg, Option.filter, mayB, jn]
      | some z => by_cases e : y.f1 = z.f1 <;> simp [chg, Option.filter, mayB, jn, e]
  | some x =>
    cases hq : lookP k b with
    | none => cases hs : lookP k c <;> simp [chg, Option.filter, mayB, jn]
    | some y =>
      cases hs : lookP k c with
      | none => by_cases e : x.f1 = y.f1 <;> simp [chg, Option.filter, mayB, jn, e]
      | some z =>
        by_cases e : x.f1 = y.f1
        · by_cases e2 : y.f1 = z.f1 <;> simp [chg, Option.filter, mayB, jn, e, e2]
        · by_cases e2 : y.f1 = z.f1
          · have e3 : ¬ x.f1 = z.f1 := fun h => e (h.trans e2.symm)
            simp [chg, Option.filter, mayB, jn, e2, e3]
          · have e4 : ¬ z.f1 = y.f1 := fun h => e2 h.symm
            by_cases e3 : x.f1 = z.f1 <;> simp [chg, Option.filter, mayB, jn, e, e2, e3, e4]
end Go.Proofs.Ytfdemnefkfkghaa.R
/- Chapter 31's laws: DiffJoins. -/
namespace Go.Proofs.Ytfdemnefkfkghaa.R
open Go Go.Proofs
set_option linter.unusedSimpArgs false
set_option linter.unusedVariables false
set_option maxRecDepth 10000
set_option maxHeartbeats 4000000

theorem call36_bad (x y : List S151) (hx : x.length < 1000000000) (hy : y.length < 1000000000) (hb : (mayL x && mayL y) = false) (n : Nat) : callV (LX T fns) n (.clo 36 []) [.fz (x.map k151.enc), .fz (y.map k151.enc)] = .pure (.tup [.fz [], .int .i64 1], []) := callV_plain (fn := fn36) rfl rfl rfl (lim36_bad x y hx hy hb) n
theorem call36_some (x y : List S151) (hx : x.length < 100000000) (hy : y.length < 100000000) (h1 : mayL x = true) (h2 : mayL y = true) {m : List ByteArray × List S151} (hm : joinY y (x.map S151.f0) x = some m) (n : Nat) : callV (LX T fns) n (.clo 36 []) [.fz (x.map k151.enc), .fz (y.map k151.enc)] = .pure (.tup [.fz ((m.2.filter mayB).map k151.enc), .int .i64 0], []) := by
  have h := lim36_ok x y hx hy h1 h2
  rw [hm] at h
  exact callV_plain (fn := fn36) rfl rfl rfl h n
theorem call36_none (x y : List S151) (hx : x.length < 100000000) (hy : y.length < 100000000) (h1 : mayL x = true) (h2 : mayL y = true) (hm : joinY y (x.map S151.f0) x = none) (n : Nat) : callV (LX T fns) n (.clo 36 []) [.fz (x.map k151.enc), .fz (y.map k151.enc)] = .pure (.tup [.fz [], .int .i64 3], []) := by
  have h := lim36_ok x y hx hy h1 h2
  rw [hm] at h
  exact callV_plain (fn := fn36) rfl rfl rfl h n
theorem call37_bad (x y : List S151) (hx : x.length < 1000000000) (hy : y.length < 1000000000) (hb : (mayL x && mayL y) = false) (n : Nat) : callV (LX T fns) n (.clo 37 []) [.fz (x.map k151.enc), .fz (y.map k151.enc)] = .pure (.tup [.fz [], .int .i64 1], []) := callV_plain (fn := fn37) rfl rfl rfl (lim37_bad x y hx hy hb) n
theorem call37_some (x y : List S151) (hx : x.length < 1000000) (hy : y.length < 1000000) (h1 : mayL x = true) (h2 : mayL y = true) {m : List S151} (hm : joinRL x y (joinKeys x y) [] = some m) (n : Nat) : callV (LX T fns) n (.clo 37 []) [.fz (x.map k151.enc), .fz (y.map k151.enc)] = .pure (.tup [.fz (m.map k151.enc), .int .i64 0], []) := by
  have h := lim37_ok x y hx hy h1 h2
  rw [hm] at h
  exact callV_plain (fn := fn37) rfl rfl rfl h n
theorem call37_none (x y : List S151) (hx : x.length < 1000000) (hy : y.length < 1000000) (h1 : mayL x = true) (h2 : mayL y = true) (hm : joinRL x y (joinKeys x y) [] = none) (n : Nat) : callV (LX T fns) n (.clo 37 []) [.fz (x.map k151.enc), .fz (y.map k151.enc)] = .pure (.tup [.fz [], .int .i64 3], []) := by
  have h := lim37_ok x y hx hy h1 h2
  rw [hm] at h
  exact callV_plain (fn := fn37) rfl rfl rfl h n
theorem joinRL_len {x y : List S151} : ∀ {ks : List ByteArray} {acc m : List S151}, joinRL x y ks acc = some m → m.length ≤ acc.length + ks.length
  | [], acc, m, h => by simp only [joinRL] at h; cases h; simp
  | k :: r, acc, m, h => by
    simp only [joinRL] at h
    split at h
    · rename_i l hl
      have h1 := joinRL_len h
      have h2 := joinK_le hl
      rw [List.length_append] at h1
      simp only [List.length_cons]
      omega
    · cases h
theorem lim8 (x y : List S151) (a b c : List S145) : lim T fns 8 [.fz (x.map k151.enc), .fz (y.map k151.enc), .fz (a.map k145.enc), .fz (b.map k145.enc), .fz (c.map k145.enc)] [] = some (.bool true, []) := by
  cases hgx : greatC x with
  | true =>
    refine fn_rule (fn := fn8) rfl rfl (by simp [fn8]) ?_
    unfold fn8
    simp only [Try.f8, Option.getD_some, argEnv, List.map_nil, List.length_nil]
    simp only [go_sem, T_3, T_4, T_9, T_25, T_50, T_51, T_145, T_151, call33, hgx, call35]
  | false =>
  cases hgy : greatC y with
  | true =>
    refine fn_rule (fn := fn8) rfl rfl (by simp [fn8]) ?_
    unfold fn8
    simp only [Try.f8, Option.getD_some, argEnv, List.map_nil, List.length_nil]
    simp only [go_sem, T_3, T_4, T_9, T_25, T_50, T_51, T_145, T_151, call33, hgx, hgy, call35]
  | false =>
  cases hga : greatPairs a with
  | true =>
    refine fn_rule (fn := fn8) rfl rfl (by simp [fn8]) ?_
    unfold fn8
    simp only [Try.f8, Option.getD_some, argEnv, List.map_nil, List.length_nil]
    simp only [go_sem, T_3, T_4, T_9, T_25, T_50, T_51, T_145, T_151, call33, call34, hgx, hgy, hga, call35]
  | false =>
  cases hgb : greatPairs b with
  | true =>
    refine fn_rule (fn := fn8) rfl rfl (by simp [fn8]) ?_
    unfold fn8
    simp only [Try.f8, Option.getD_some, argEnv, List.map_nil, List.length_nil]
    simp only [go_sem, T_3, T_4, T_9, T_25, T_50, T_51, T_145, T_151, call33, call34, hgx, hgy, hga, hgb, call35]
  | false =>
  cases hgc : greatPairs c with
  | true =>
    refine fn_rule (fn := fn8) rfl rfl (by simp [fn8]) ?_
    unfold fn8
    simp only [Try.f8, Option.getD_some, argEnv, List.map_nil, List.length_nil]
    simp only [go_sem, T_3, T_4, T_9, T_25, T_50, T_51, T_145, T_151, call33, call34, hgx, hgy, hga, hgb, hgc, call35]
  | false =>
  have lx := few_changes hgx
  have ly := few_changes hgy
  have la := few_pairs hga
  have lb := few_pairs hgb
  have lc := few_pairs hgc
  have key : ∀ (m : List S151) (e : Int), (∀ n, callV (LX T fns) n (.clo 36 []) [.fz (x.map k151.enc), .fz (y.map k151.enc)] = .pure (.tup [.fz (m.map k151.enc), .int .i64 e], [])) → (∀ n, callV (LX T fns) n (.clo 37 []) [.fz (x.map k151.enc), .fz (y.map k151.enc)] = .pure (.tup [.fz (m.map k151.enc), .int .i64 e], [])) → m.length < 1000000000000000 →
      lim T fns 8 [.fz (x.map k151.enc), .fz (y.map k151.enc), .fz (a.map k145.enc), .fz (b.map k145.enc), .fz (c.map k145.enc)] [] = some (.bool true, []) := by
    intro m e h1 h2 hml
    have h3 := fun n => call38 m m (by omega) n
    simp only [decide_true] at h3
    have he : (e != e) = false := by simp
    have z1 : ((1 : Int) != 0) = true := rfl
    have z0 : ((0 : Int) != 0) = false := rfl
    have z2 : ((0 : Int) == 0) = true := rfl
    cases rab : (riseL a && riseL b) with
    | false =>
      have h4 := fun n => call39_bad a b (by omega) (by omega) rab n
      cases rbc : (riseL b && riseL c) with
      | false =>
        have h5 := fun n => call39_bad b c (by omega) (by omega) rbc n
        refine fn_rule (fn := fn8) rfl rfl (by simp [fn8]) ?_
        unfold fn8
        simp only [Try.f8, Option.getD_some, argEnv, List.map_nil, List.length_nil]
        simp only [go_sem, T_3, T_4, T_9, T_25, T_50, T_51, T_145, T_151, call33, call34, hgx, hgy, hga, hgb, hgc, call35, h1, h2, h3, h4, h5, he, z1]
      | true =>
        simp only [Bool.and_eq_true] at rbc
        have h5 := fun n => call39_ok b c (by omega) (by omega) rbc.1 rbc.2 n
        refine fn_rule (fn := fn8) rfl rfl (by simp [fn8]) ?_
        unfold fn8
        simp only [Try.f8, Option.getD_some, argEnv, List.map_nil, List.length_nil]
        simp only [go_sem, T_3, T_4, T_9, T_25, T_50, T_51, T_145, T_151, call33, call34, hgx, hgy, hga, hgb, hgc, call35, h1, h2, h3, h4, h5, he, z1]
    | true =>
      simp only [Bool.and_eq_true] at rab
      have h4 := fun n => call39_ok a b (by omega) (by omega) rab.1 rab.2 n
      cases rbc : (riseL b && riseL c) with
      | false =>
        have h5 := fun n => call39_bad b c (by omega) (by omega) rbc n
        refine fn_rule (fn := fn8) rfl rfl (by simp [fn8]) ?_
        unfold fn8
        simp only [Try.f8, Option.getD_some, argEnv, List.map_nil, List.length_nil]
        simp only [go_sem, T_3, T_4, T_9, T_25, T_50, T_51, T_145, T_151, call33, call34, hgx, hgy, hga, hgb, hgc, call35, h1, h2, h3, h4, h5, he, z1, z0]
      | true =>
        simp only [Bool.and_eq_true] at rbc
        have h5 := fun n => call39_ok b c (by omega) (by omega) rbc.1 rbc.2 n
        obtain ⟨q, q1, q2⟩ := join_pairs rab.1 rab.2 rbc.2
        have l1 := pairsL_le (a := a) (b := b)
        have l2 := pairsL_le (a := b) (b := c)
        have l3 := pairsL_le (a := a) (b := c)
        have h6 := fun n => call36_some (pairsL a b) (pairsL b c) (by omega) (by omega) (pairsL_may rab.1 rab.2) (pairsL_may rbc.1 rbc.2) q1 n
        rw [q2] at h6
        have h7 := fun n => call39_ok a c (by omega) (by omega) rab.1 rbc.2 n
        have h8 := fun n => call38 (pairsL a c) (pairsL a c) (by omega) n
        simp only [decide_true] at h8
        refine fn_rule (fn := fn8) rfl rfl (by simp [fn8]) ?_
        unfold fn8
        simp only [Try.f8, Option.getD_some, argEnv, List.map_nil, List.length_nil]
        simp only [go_sem, T_3, T_4, T_9, T_25, T_50, T_51, T_145, T_151, call33, call34, hgx, hgy, hga, hgb, hgc, call35, h1, h2, h3, h4, h5, h6, h7, h8, he, z1, z0, z2]
  cases hr : (mayL x && mayL y) with
  | false => exact key [] 1 (fun n => call36_bad x y (by omega) (by omega) hr n) (fun n => call37_bad x y (by omega) (by omega) hr n) (by simp)
  | true =>
    simp only [Bool.and_eq_true] at hr
    rcases join_ref hr.1 hr.2 with ⟨h1, h2⟩ | ⟨m, q, h1, h2, h3⟩
    · exact key [] 3 (fun n => call36_none x y (by omega) (by omega) hr.1 hr.2 h1 n) (fun n => call37_none x y (by omega) (by omega) hr.1 hr.2 h2 n) (by simp)
    · refine key q 0 (fun n => by have := call36_some x y (by omega) (by omega) hr.1 hr.2 h1 n; rw [h3] at this; exact this) (fun n => call37_some x y (by omega) (by omega) hr.1 hr.2 h2 n) ?_
      have h4 := joinRL_len h2
      have h5 : (joinKeys x y).length ≤ x.length + y.length := by
        have := keysL_le (a := x.map key145) (b := y.map key145)
        simpa [joinKeys] using this
      simp only [List.length_nil] at h4
      omega
end Go.Proofs.Ytfdemnefkfkghaa.R
/- The law DiffJoins, for every argument. -/
namespace Go.Proofs.Ytfdemnefkfkghaa.R
open Go Go.Proofs
set_option linter.unusedVariables false
theorem law8 (x0 : (List S151)) (gx0 : g50 x0) (x1 : (List S151)) (gx1 : g50 x1) (x2 : (List S145)) (gx2 : g51 x2) (x3 : (List S145)) (gx3 : g51 x3) (x4 : (List S145)) (gx4 : g51 x4) : ∃ R d h, acall T fns R d 8 [.fz (x0.map k151.enc), .fz (x1.map k151.enc), .fz (x2.map k145.enc), .fz (x3.map k145.enc), .fz (x4.map k145.enc)] [] = some (.bool true, h) := by
  obtain ⟨R, d, h⟩ := lim_acall (lim8 x0 x1 x2 x3 x4)
  exact ⟨R, d, _, h⟩
end Go.Proofs.Ytfdemnefkfkghaa.R
/- Chapter 31's laws: the document's Merge (printed by mk48.py). -/
namespace Go.Proofs.Ytfdemnefkfkghaa.R
open Go Go.Proofs
set_option linter.unusedSimpArgs false
set_option linter.unusedVariables false
set_option maxRecDepth 10000
set_option maxHeartbeats 8000000

def tornB2 (m h : S151) : Bool := difB m && difB h && (!(m.f2 == h.f2) || !decide (m.f4 = h.f4))
def mergeC (m h : S151) : S151 := if difB m = true then m else h
def key145s (k : ByteArray) : S145 := ⟨k, ⟨#[]⟩⟩
def mergeKeys (a b c : List S145) : List ByteArray := keysL ((keysL a b).map key145s) c
def tornR (a b c : List S145) (ks : List ByteArray) : List ByteArray := ks.filter fun k => tornB2 (atC a b k) (atC a c k)
def outR (a b c : List S145) : List ByteArray → List S145
  | [] => []
  | k :: r => (if (mergeC (atC a b k) (atC a c k)).f2 = true then [⟨k, (mergeC (atC a b k) (atC a c k)).f4⟩] else []) ++ outR a b c r
theorem outR_app {a b c : List S145} : ∀ {l m : List ByteArray}, outR a b c (l ++ m) = outR a b c l ++ outR a b c m
  | [], m => rfl
  | x :: r, m => by simp only [List.cons_append, outR, outR_app (l := r), List.append_assoc]
theorem outR_len {a b c : List S145} : ∀ {l : List ByteArray}, (outR a b c l).length ≤ l.length
  | [] => by simp [outR]
  | x :: r => by
    have := outR_len (a := a) (b := b) (c := c) (l := r)
    simp only [outR, List.length_append, List.length_cons]
    split <;> simp only [List.length_cons, List.length_nil] <;> omega
theorem lim48_bad (a b c : List S145) (ha : a.length < 1000000) (hb : b.length < 1000000) (hc : c.length < 1000000) (hr : (riseL a && riseL b && riseL c) = false) : lim T fns 48 [.fz (a.map k145.enc), .fz (b.map k145.enc), .fz (c.map k145.enc)] [] = some (.tup [.fz [], .fz [], .int .i64 1], []) := by
  refine fn_rule (fn := fn48) rfl rfl (by simp [fn48]) ?_
  unfold fn48
  simp only [Try.f48, Option.getD_some, argEnv, List.map_nil, List.length_nil]
  cases h1 : riseL a with
  | false =>
    simp only [go_sem, T_1, T_3, T_4, T_9, T_51, T_69, T_145, T_151, call90 a (by omega), h1]
    show _ = _
    kernel_rfl
  | true =>
    cases h2 : riseL b with
    | false =>
      simp only [go_sem, T_1, T_3, T_4, T_9, T_51, T_69, T_145, T_151, call90 a (by omega), call90 b (by omega), h1, h2]
      show _ = _
      kernel_rfl
    | true =>
      have h3 : riseL c = false := by simpa [h1, h2] using hr
      simp only [go_sem, T_1, T_3, T_4, T_9, T_51, T_69, T_145, T_151, call90 a (by omega), call90 b (by omega), call90 c (by omega), h1, h2, h3]
      show _ = _
      kernel_rfl
theorem lim48_ok (a b c : List S145) (ha : a.length < 1000000) (hb : b.length < 1000000) (hc : c.length < 1000000) (h1 : riseL a = true) (h2 : riseL b = true) (h3 : riseL c = true) : lim T fns 48 [.fz (a.map k145.enc), .fz (b.map k145.enc), .fz (c.map k145.enc)] [] =
    some (.tup [.fz ((outR a b c (mergeKeys a b c)).map k145.enc), .fz ((tornR a b c (mergeKeys a b c)).map Cd.str.enc), .int .i64 0], []) := by
  refine fn_rule (fn := fn48) rfl rfl (by simp [fn48]) ?_
  unfold fn48
  simp only [Try.f48, Option.getD_some, argEnv, List.map_nil, List.length_nil]
  have hfz := callFz 96 fn96 (T := T) (fns := fns) rfl rfl 2 rfl
  have hl1 := keysL_le (a := a) (b := b)
  have hks := lim96 ((keysL a b).map key145s) c (by simp; omega) (by omega)
  have hl2 := keysL_le (a := (keysL a b).map key145s) (b := c)
  rw [List.length_map] at hl2
  simp only [go_sem, T_1, T_3, T_4, T_9, T_51, T_69, T_145, T_151, call90 a (by omega), call90 b (by omega), call90 c (by omega), h1, h2, h3, call96 a b (by omega) (by omega)]
  unfold mergeKeys
  generalize keysL a b = k1 at *
  refine loop_rule (ι := Nat) (S := fun i => ⟨[(0, .fz (a.map k145.enc)), (1, .fz (b.map k145.enc)), (2, .fz (c.map k145.enc)), (9, .ms 0 2 0 0 none), (10, .ms 1 1 0 0 none), (11, .ms 2 2 0 ((k1.map key145s).take i).length none), (12, .fz (k1.map Cd.str.enc)), (42, .int .i64 k1.length), (43, .int .i64 i)], [some (.buf 2 [] false true), some (.buf 1 [] false true), some (.buf 2 (((k1.map key145s).take i).map k145.enc) false true)]⟩) (m := fun i => k1.length + 1 - i)
    (I := fun i => i ≤ k1.length) ?_ 0 _ (Nat.zero_le _) (by kernel_rfl)
  rintro i hi
  by_cases hlt : i < k1.length
  · have hx : k1[i]? = some k1[i] := List.getElem?_eq_getElem hlt
    have hn : (k1.map key145s).take (i + 1) = (k1.map key145s).take i ++ [⟨k1[i], ⟨#[]⟩⟩] := by rw [List.take_succ_eq_append_getElem (by simpa using hlt)]; simp [key145s]
    have hal : ((k1.map key145s).take i).length = i := by simp; omega
    generalize (k1.map key145s).take i = acc at hn hal
    simp only [go_sem, T_1, T_3, T_4, T_9, T_51, T_69, T_145, T_151, all_str, hlt, hx, show (acc.length + 1) * 32 ≤ 140737488355328 by omega, show acc.length + 1 ≤ 140737488355328 by omega, wrap_i64s (show i < 1000000000000000000 by omega)]
    refine ⟨i + 1, by omega, by simp only; omega, ?_⟩
    simp only [hn]
    simp only [List.map_append, List.map_cons, List.map_nil, List.length_append, List.length_cons, List.length_nil, k145_enc]
    show _ = _
    kernel_rfl
  obtain rfl : i = k1.length := by omega
  rw [show (k1.map key145s).take k1.length = k1.map key145s from List.take_of_length_le (by simp)]
  have hal0 : (k1.map key145s).length < 10000000 := by simp; omega
  generalize hK : k1.map key145s = K at *
  simp only [go_sem, T_1, T_3, T_4, T_9, T_51, T_69, T_145, T_151, hlt, hfz, hks]
  generalize keysL K c = ks at hl2
  clear hlt hi
  refine loop_rule (ι := Nat) (S := fun i => ⟨[(0, .fz (a.map k145.enc)), (1, .fz (b.map k145.enc)), (2, .fz (c.map k145.enc)), (9, .ms 0 2 0 (outR a b c (ks.take i)).length none), (10, .ms 1 1 0 (tornR a b c (ks.take i)).length none), (12, .fz (ks.map Cd.str.enc)), (59, .int .i64 ks.length), (60, .int .i64 i)], [some (.buf 2 ((outR a b c (ks.take i)).map k145.enc) false true), some (.buf 1 ((tornR a b c (ks.take i)).map Cd.str.enc) false true)]⟩) (m := fun i => ks.length + 1 - i)
    (I := fun i => i ≤ ks.length) ?_ 0 _ (Nat.zero_le _) (by kernel_rfl)
  rintro i hi
  by_cases hlt : i < ks.length
  · have hx : ks[i]? = some ks[i] := List.getElem?_eq_getElem hlt
    have ho : outR a b c (ks.take (i + 1)) = outR a b c (ks.take i) ++ (if (mergeC (atC a b ks[i]) (atC a c ks[i])).f2 = true then [⟨ks[i], (mergeC (atC a b ks[i]) (atC a c ks[i])).f4⟩] else []) := by
      rw [List.take_succ_eq_append_getElem hlt, outR_app]
      simp [outR]
    have ht : tornR a b c (ks.take (i + 1)) = tornR a b c (ks.take i) ++ (if tornB2 (atC a b ks[i]) (atC a c ks[i]) = true then [ks[i]] else []) := by
      unfold tornR
      rw [List.take_succ_eq_append_getElem hlt, List.filter_append]
      cases h : tornB2 (atC a b ks[i]) (atC a c ks[i]) <;> simp [List.filter, h]
    have hol : (outR a b c (ks.take i)).length ≤ i := Nat.le_trans outR_len (by simp; omega)
    have htl : (tornR a b c (ks.take i)).length ≤ i := Nat.le_trans (List.length_filter_le _ _) (by simp; omega)
    have hat := fun n => call101 a b ks[i] (by omega) (by omega) n
    have hat2 := fun n => call101 a c ks[i] (by omega) (by omega) n
    generalize outR a b c (ks.take i) = out at ho hol
    generalize tornR a b c (ks.take i) = torn at ht htl
    generalize atC a b ks[i] = m at *
    generalize atC a c ks[i] = h at *
    by_cases a1 : m.f1 = m.f2
    · have a1b : (m.f1 == m.f2) = true := by simpa using a1
      by_cases a2 : m.f3 = m.f4
      · skip
        have a2d : decide (m.f3 = m.f4) = true := by simpa using a2
        by_cases b1 : h.f1 = h.f2
        · have b1b : (h.f1 == h.f2) = true := by simpa using b1
          by_cases b2 : h.f3 = h.f4
          · skip
            have b2d : decide (h.f3 = h.f4) = true := by simpa using b2
            have hdm : difB m = false := by simp [difB, a1, a2]
            have hdh : difB h = false := by simp [difB, b1, b2]
            have ht2 : tornB2 m h = false := by simp [tornB2, hdm, hdh, Bool.true_and]
            have hp2 : mergeC m h = h := by simp [mergeC, hdm]
            rw [ht2] at ht
            rw [hp2] at ho
            simp only [Bool.false_eq_true, if_false, List.append_nil] at ht
            simp only [go_sem, T_1, T_3, T_4, T_9, T_51, T_69, T_145, T_151, all_str, hlt, hx, hat, hat2, a1b, a2d, b1b, b2d, ba_toList, show (torn.length + 1) * 16 ≤ 140737488355328 by omega, show torn.length + 1 ≤ 140737488355328 by omega, show (out.length + 1) * 32 ≤ 140737488355328 by omega, show out.length + 1 ≤ 140737488355328 by omega, wrap_i64s (show i < 1000000000000000000 by omega)]
            by_cases hc : h.f2 = true
            · rw [if_pos hc] at ho ⊢
              repeat (refine ⟨by kernel_rfl, ?_⟩)
              refine ⟨i + 1, by omega, by simp only; omega, ?_⟩
              simp only [ho, ht]
              simp only [List.map_append, List.map_cons, List.map_nil, List.length_append, List.length_cons, List.length_nil, List.append_nil, str_enc, k145_enc]
              show _ = _
              kernel_rfl
            · rw [if_neg hc] at ho ⊢
              repeat (refine ⟨by kernel_rfl, ?_⟩)
              refine ⟨i + 1, by omega, by simp only; omega, ?_⟩
              simp only [ho, ht]
              simp only [List.map_append, List.map_cons, List.map_nil, List.length_append, List.length_cons, List.length_nil, List.append_nil, str_enc, k145_enc]
              show _ = _
              kernel_rfl
          · skip
            have b2d : decide (h.f3 = h.f4) = false := by simpa using b2
            have hdm : difB m = false := by simp [difB, a1, a2]
            have hdh : difB h = true := by simp [difB, b1, b2]
            have ht2 : tornB2 m h = false := by simp [tornB2, hdm, hdh, Bool.true_and]
            have hp2 : mergeC m h = h := by simp [mergeC, hdm]
            rw [ht2] at ht
            rw [hp2] at ho
            simp only [Bool.false_eq_true, if_false, List.append_nil] at ht
            simp only [go_sem, T_1, T_3, T_4, T_9, T_51, T_69, T_145, T_151, all_str, hlt, hx, hat, hat2, a1b, a2d, b1b, b2d, ba_toList, show (torn.length + 1) * 16 ≤ 140737488355328 by omega, show torn.length + 1 ≤ 140737488355328 by omega, show (out.length + 1) * 32 ≤ 140737488355328 by omega, show out.length + 1 ≤ 140737488355328 by omega, wrap_i64s (show i < 1000000000000000000 by omega)]
            by_cases hc : h.f2 = true
            · rw [if_pos hc] at ho ⊢
              repeat (refine ⟨by kernel_rfl, ?_⟩)
              refine ⟨i + 1, by omega, by simp only; omega, ?_⟩
              simp only [ho, ht]
              simp only [List.map_append, List.map_cons, List.map_nil, List.length_append, List.length_cons, List.length_nil, List.append_nil, str_enc, k145_enc]
              show _ = _
              kernel_rfl
            · rw [if_neg hc] at ho ⊢
              repeat (refine ⟨by kernel_rfl, ?_⟩)
              refine ⟨i + 1, by omega, by simp only; omega, ?_⟩
              simp only [ho, ht]
              simp only [List.map_append, List.map_cons, List.map_nil, List.length_append, List.length_cons, List.length_nil, List.append_nil, str_enc, k145_enc]
              show _ = _
              kernel_rfl
        · have b1b : (h.f1 == h.f2) = false := by simpa using b1
          have hdm : difB m = false := by simp [difB, a1, a2]
          have hdh : difB h = true := by simp [difB, b1]
          have ht2 : tornB2 m h = false := by simp [tornB2, hdm, hdh, Bool.true_and]
          have hp2 : mergeC m h = h := by simp [mergeC, hdm]
          rw [ht2] at ht
          rw [hp2] at ho
          simp only [Bool.false_eq_true, if_false, List.append_nil] at ht
          simp only [go_sem, T_1, T_3, T_4, T_9, T_51, T_69, T_145, T_151, all_str, hlt, hx, hat, hat2, a1b, a2d, b1b, ba_toList, show (torn.length + 1) * 16 ≤ 140737488355328 by omega, show torn.length + 1 ≤ 140737488355328 by omega, show (out.length + 1) * 32 ≤ 140737488355328 by omega, show out.length + 1 ≤ 140737488355328 by omega, wrap_i64s (show i < 1000000000000000000 by omega)]
          by_cases hc : h.f2 = true
          · rw [if_pos hc] at ho ⊢
            repeat (refine ⟨by kernel_rfl, ?_⟩)
            refine ⟨i + 1, by omega, by simp only; omega, ?_⟩
            simp only [ho, ht]
            simp only [List.map_append, List.map_cons, List.map_nil, List.length_append, List.length_cons, List.length_nil, List.append_nil, str_enc, k145_enc]
            show _ = _
            kernel_rfl
          · rw [if_neg hc] at ho ⊢
            repeat (refine ⟨by kernel_rfl, ?_⟩)
            refine ⟨i + 1, by omega, by simp only; omega, ?_⟩
            simp only [ho, ht]
            simp only [List.map_append, List.map_cons, List.map_nil, List.length_append, List.length_cons, List.length_nil, List.append_nil, str_enc, k145_enc]
            show _ = _
            kernel_rfl
      · skip
        have a2d : decide (m.f3 = m.f4) = false := by simpa using a2
        by_cases b1 : h.f1 = h.f2
        · have b1b : (h.f1 == h.f2) = true := by simpa using b1
          by_cases b2 : h.f3 = h.f4
          · skip
            have b2d : decide (h.f3 = h.f4) = true := by simpa using b2
            have hdm : difB m = true := by simp [difB, a1, a2]
            have hdh : difB h = false := by simp [difB, b1, b2]
            have ht2 : tornB2 m h = false := by simp [tornB2, hdm, hdh, Bool.true_and]
            have hp2 : mergeC m h = m := by simp [mergeC, hdm]
            rw [ht2] at ht
            rw [hp2] at ho
            simp only [Bool.false_eq_true, if_false, List.append_nil] at ht
            simp only [go_sem, T_1, T_3, T_4, T_9, T_51, T_69, T_145, T_151, all_str, hlt, hx, hat, hat2, a1b, a2d, b1b, b2d, ba_toList, show (torn.length + 1) * 16 ≤ 140737488355328 by omega, show torn.length + 1 ≤ 140737488355328 by omega, show (out.length + 1) * 32 ≤ 140737488355328 by omega, show out.length + 1 ≤ 140737488355328 by omega, wrap_i64s (show i < 1000000000000000000 by omega)]
            by_cases hc : m.f2 = true
            · rw [if_pos hc] at ho ⊢
              repeat (refine ⟨by kernel_rfl, ?_⟩)
              refine ⟨i + 1, by omega, by simp only; omega, ?_⟩
              simp only [ho, ht]
              simp only [List.map_append, List.map_cons, List.map_nil, List.length_append, List.length_cons, List.length_nil, List.append_nil, str_enc, k145_enc]
              show _ = _
              kernel_rfl
            · rw [if_neg hc] at ho ⊢
              repeat (refine ⟨by kernel_rfl, ?_⟩)
              refine ⟨i + 1, by omega, by simp only; omega, ?_⟩
              simp only [ho, ht]
              simp only [List.map_append, List.map_cons, List.map_nil, List.length_append, List.length_cons, List.length_nil, List.append_nil, str_enc, k145_enc]
              show _ = _
              kernel_rfl
          · skip
            have b2d : decide (h.f3 = h.f4) = false := by simpa using b2
            by_cases c1 : m.f2 = h.f2
            · have c1b : (m.f2 == h.f2) = true := by simpa using c1
              by_cases c2 : m.f4 = h.f4
              · skip
                have c2d : decide (m.f4 = h.f4) = true := by simpa using c2
                have hdm : difB m = true := by simp [difB, a1, a2]
                have hdh : difB h = true := by simp [difB, b1, b2]
                have ht2 : tornB2 m h = false := by simp [tornB2, hdm, hdh, c1, c2]
                have hp2 : mergeC m h = m := by simp [mergeC, hdm]
                rw [ht2] at ht
                rw [hp2] at ho
                simp only [Bool.false_eq_true, if_false, List.append_nil] at ht
                simp only [go_sem, T_1, T_3, T_4, T_9, T_51, T_69, T_145, T_151, all_str, hlt, hx, hat, hat2, a1b, a2d, b1b, b2d, c1b, c2d, ba_toList, show (torn.length + 1) * 16 ≤ 140737488355328 by omega, show torn.length + 1 ≤ 140737488355328 by omega, show (out.length + 1) * 32 ≤ 140737488355328 by omega, show out.length + 1 ≤ 140737488355328 by omega, wrap_i64s (show i < 1000000000000000000 by omega)]
                by_cases hc : m.f2 = true
                · rw [if_pos hc] at ho ⊢
                  repeat (refine ⟨by kernel_rfl, ?_⟩)
                  refine ⟨i + 1, by omega, by simp only; omega, ?_⟩
                  simp only [ho, ht]
                  simp only [List.map_append, List.map_cons, List.map_nil, List.length_append, List.length_cons, List.length_nil, List.append_nil, str_enc, k145_enc]
                  show _ = _
                  kernel_rfl
                · rw [if_neg hc] at ho ⊢
                  repeat (refine ⟨by kernel_rfl, ?_⟩)
                  refine ⟨i + 1, by omega, by simp only; omega, ?_⟩
                  simp only [ho, ht]
                  simp only [List.map_append, List.map_cons, List.map_nil, List.length_append, List.length_cons, List.length_nil, List.append_nil, str_enc, k145_enc]
                  show _ = _
                  kernel_rfl
              · skip
                have c2d : decide (m.f4 = h.f4) = false := by simpa using c2
                have hdm : difB m = true := by simp [difB, a1, a2]
                have hdh : difB h = true := by simp [difB, b1, b2]
                have ht2 : tornB2 m h = true := by simp [tornB2, hdm, hdh, c1, c2]
                have hp2 : mergeC m h = m := by simp [mergeC, hdm]
                rw [ht2] at ht
                rw [hp2] at ho
                simp only [if_true] at ht
                simp only [go_sem, T_1, T_3, T_4, T_9, T_51, T_69, T_145, T_151, all_str, hlt, hx, hat, hat2, a1b, a2d, b1b, b2d, c1b, c2d, ba_toList, show (torn.length + 1) * 16 ≤ 140737488355328 by omega, show torn.length + 1 ≤ 140737488355328 by omega, show (out.length + 1) * 32 ≤ 140737488355328 by omega, show out.length + 1 ≤ 140737488355328 by omega, wrap_i64s (show i < 1000000000000000000 by omega)]
                by_cases hc : m.f2 = true
                · rw [if_pos hc] at ho ⊢
                  repeat (refine ⟨by kernel_rfl, ?_⟩)
                  refine ⟨i + 1, by omega, by simp only; omega, ?_⟩
                  simp only [ho, ht]
                  simp only [List.map_append, List.map_cons, List.map_nil, List.length_append, List.length_cons, List.length_nil, List.append_nil, str_enc, k145_enc]
                  show _ = _
                  kernel_rfl
                · rw [if_neg hc] at ho ⊢
                  repeat (refine ⟨by kernel_rfl, ?_⟩)
                  refine ⟨i + 1, by omega, by simp only; omega, ?_⟩
                  simp only [ho, ht]
                  simp only [List.map_append, List.map_cons, List.map_nil, List.length_append, List.length_cons, List.length_nil, List.append_nil, str_enc, k145_enc]
                  show _ = _
                  kernel_rfl
            · have c1b : (m.f2 == h.f2) = false := by simpa using c1
              have hdm : difB m = true := by simp [difB, a1, a2]
              have hdh : difB h = true := by simp [difB, b1, b2]
              have ht2 : tornB2 m h = true := by simp [tornB2, hdm, hdh, c1]
              have hp2 : mergeC m h = m := by simp [mergeC, hdm]
              rw [ht2] at ht
              rw [hp2] at ho
              simp only [if_true] at ht
              simp only [go_sem, T_1, T_3, T_4, T_9, T_51, T_69, T_145, T_151, all_str, hlt, hx, hat, hat2, a1b, a2d, b1b, b2d, c1b, ba_toList, show (torn.length + 1) * 16 ≤ 140737488355328 by omega, show torn.length + 1 ≤ 140737488355328 by omega, show (out.length + 1) * 32 ≤ 140737488355328 by omega, show out.length + 1 ≤ 140737488355328 by omega, wrap_i64s (show i < 1000000000000000000 by omega)]
              by_cases hc : m.f2 = true
              · rw [if_pos hc] at ho ⊢
                repeat (refine ⟨by kernel_rfl, ?_⟩)
                refine ⟨i + 1, by omega, by simp only; omega, ?_⟩
                simp only [ho, ht]
                simp only [List.map_append, List.map_cons, List.map_nil, List.length_append, List.length_cons, List.length_nil, List.append_nil, str_enc, k145_enc]
                show _ = _
                kernel_rfl
              · rw [if_neg hc] at ho ⊢
                repeat (refine ⟨by kernel_rfl, ?_⟩)
                refine ⟨i + 1, by omega, by simp only; omega, ?_⟩
                simp only [ho, ht]
                simp only [List.map_append, List.map_cons, List.map_nil, List.length_append, List.length_cons, List.length_nil, List.append_nil, str_enc, k145_enc]
                show _ = _
                kernel_rfl
        · have b1b : (h.f1 == h.f2) = false := by simpa using b1
          by_cases c1 : m.f2 = h.f2
          · have c1b : (m.f2 == h.f2) = true := by simpa using c1
            by_cases c2 : m.f4 = h.f4
            · skip
              have c2d : decide (m.f4 = h.f4) = true := by simpa using c2
              have hdm : difB m = true := by simp [difB, a1, a2]
              have hdh : difB h = true := by simp [difB, b1]
              have ht2 : tornB2 m h = false := by simp [tornB2, hdm, hdh, c1, c2]
              have hp2 : mergeC m h = m := by simp [mergeC, hdm]
              rw [ht2] at ht
              rw [hp2] at ho
              simp only [Bool.false_eq_true, if_false, List.append_nil] at ht
              simp only [go_sem, T_1, T_3, T_4, T_9, T_51, T_69, T_145, T_151, all_str, hlt, hx, hat, hat2, a1b, a2d, b1b, c1b, c2d, ba_toList, show (torn.length + 1) * 16 ≤ 140737488355328 by omega, show torn.length + 1 ≤ 140737488355328 by omega, show (out.length + 1) * 32 ≤ 140737488355328 by omega, show out.length + 1 ≤ 140737488355328 by omega, wrap_i64s (show i < 1000000000000000000 by omega)]
              by_cases hc : m.f2 = true
              · rw [if_pos hc] at ho ⊢
                repeat (refine ⟨by kernel_rfl, ?_⟩)
                refine ⟨i + 1, by omega, by simp only; omega, ?_⟩
                simp only [ho, ht]
                simp only [List.map_append, List.map_cons, List.map_nil, List.length_append, List.length_cons, List.length_nil, List.append_nil, str_enc, k145_enc]
                show _ = _
                kernel_rfl
              · rw [if_neg hc] at ho ⊢
                repeat (refine ⟨by kernel_rfl, ?_⟩)
                refine ⟨i + 1, by omega, by simp only; omega, ?_⟩
                simp only [ho, ht]
                simp only [List.map_append, List.map_cons, List.map_nil, List.length_append, List.length_cons, List.length_nil, List.append_nil, str_enc, k145_enc]
                show _ = _
                kernel_rfl
            · skip
              have c2d : decide (m.f4 = h.f4) = false := by simpa using c2
              have hdm : difB m = true := by simp [difB, a1, a2]
              have hdh : difB h = true := by simp [difB, b1]
              have ht2 : tornB2 m h = true := by simp [tornB2, hdm, hdh, c1, c2]
              have hp2 : mergeC m h = m := by simp [mergeC, hdm]
              rw [ht2] at ht
              rw [hp2] at ho
              simp only [if_true] at ht
              simp only [go_sem, T_1, T_3, T_4, T_9, T_51, T_69, T_145, T_151, all_str, hlt, hx, hat, hat2, a1b, a2d, b1b, c1b, c2d, ba_toList, show (torn.length + 1) * 16 ≤ 140737488355328 by omega, show torn.length + 1 ≤ 140737488355328 by omega, show (out.length + 1) * 32 ≤ 140737488355328 by omega, show out.length + 1 ≤ 140737488355328 by omega, wrap_i64s (show i < 1000000000000000000 by omega)]
              by_cases hc : m.f2 = true
              · rw [if_pos hc] at ho ⊢
                repeat (refine ⟨by kernel_rfl, ?_⟩)
                refine ⟨i + 1, by omega, by simp only; omega, ?_⟩
                simp only [ho, ht]
                simp only [List.map_append, List.map_cons, List.map_nil, List.length_append, List.length_cons, List.length_nil, List.append_nil, str_enc, k145_enc]
                show _ = _
                kernel_rfl
              · rw [if_neg hc] at ho ⊢
                repeat (refine ⟨by kernel_rfl, ?_⟩)
                refine ⟨i + 1, by omega, by simp only; omega, ?_⟩
                simp only [ho, ht]
                simp only [List.map_append, List.map_cons, List.map_nil, List.length_append, List.length_cons, List.length_nil, List.append_nil, str_enc, k145_enc]
                show _ = _
                kernel_rfl
          · have c1b : (m.f2 == h.f2) = false := by simpa using c1
            have hdm : difB m = true := by simp [difB, a1, a2]
            have hdh : difB h = true := by simp [difB, b1]
            have ht2 : tornB2 m h = true := by simp [tornB2, hdm, hdh, c1]
            have hp2 : mergeC m h = m := by simp [mergeC, hdm]
            rw [ht2] at ht
            rw [hp2] at ho
            simp only [if_true] at ht
            simp only [go_sem, T_1, T_3, T_4, T_9, T_51, T_69, T_145, T_151, all_str, hlt, hx, hat, hat2, a1b, a2d, b1b, c1b, ba_toList, show (torn.length + 1) * 16 ≤ 140737488355328 by omega, show torn.length + 1 ≤ 140737488355328 by omega, show (out.length + 1) * 32 ≤ 140737488355328 by omega, show out.length + 1 ≤ 140737488355328 by omega, wrap_i64s (show i < 1000000000000000000 by omega)]
            by_cases hc : m.f2 = true
            · rw [if_pos hc] at ho ⊢
              repeat (refine ⟨by kernel_rfl, ?_⟩)
              refine ⟨i + 1, by omega, by simp only; omega, ?_⟩
              simp only [ho, ht]
              simp only [List.map_append, List.map_cons, List.map_nil, List.length_append, List.length_cons, List.length_nil, List.append_nil, str_enc, k145_enc]
              show _ = _
              kernel_rfl
            · rw [if_neg hc] at ho ⊢
              repeat (refine ⟨by kernel_rfl, ?_⟩)
              refine ⟨i + 1, by omega, by simp only; omega, ?_⟩
              simp only [ho, ht]
              simp only [List.map_append, List.map_cons, List.map_nil, List.length_append, List.length_cons, List.length_nil, List.append_nil, str_enc, k145_enc]
              show _ = _
              kernel_rfl
    · have a1b : (m.f1 == m.f2) = false := by simpa using a1
      by_cases b1 : h.f1 = h.f2
      · have b1b : (h.f1 == h.f2) = true := by simpa using b1
        by_cases b2 : h.f3 = h.f4
        · skip
          have b2d : decide (h.f3 = h.f4) = true := by simpa using b2
          have hdm : difB m = true := by simp [difB, a1]
          have hdh : difB h = false := by simp [difB, b1, b2]
          have ht2 : tornB2 m h = false := by simp [tornB2, hdm, hdh, Bool.true_and]
          have hp2 : mergeC m h = m := by simp [mergeC, hdm]
          rw [ht2] at ht
          rw [hp2] at ho
          simp only [Bool.false_eq_true, if_false, List.append_nil] at ht
          simp only [go_sem, T_1, T_3, T_4, T_9, T_51, T_69, T_145, T_151, all_str, hlt, hx, hat, hat2, a1b, b1b, b2d, ba_toList, show (torn.length + 1) * 16 ≤ 140737488355328 by omega, show torn.length + 1 ≤ 140737488355328 by omega, show (out.length + 1) * 32 ≤ 140737488355328 by omega, show out.length + 1 ≤ 140737488355328 by omega, wrap_i64s (show i < 1000000000000000000 by omega)]
          by_cases hc : m.f2 = true
          · rw [if_pos hc] at ho ⊢
            repeat (refine ⟨by kernel_rfl, ?_⟩)
            refine ⟨i + 1, by omega, by simp only; omega, ?_⟩
            simp only [ho, ht]
            simp only [List.map_append, List.map_cons, List.map_nil, List.length_append, List.length_cons, List.length_nil, List.append_nil, str_enc, k145_enc]
            show _ = _
            kernel_rfl
          · rw [if_neg hc] at ho ⊢
            repeat (refine ⟨by kernel_rfl, ?_⟩)
            refine ⟨i + 1, by omega, by simp only; omega, ?_⟩
            simp only [ho, ht]
            simp only [List.map_append, List.map_cons, List.map_nil, List.length_append, List.length_cons, List.length_nil, List.append_nil, str_enc, k145_enc]
            show _ = _
            kernel_rfl
        · skip
          have b2d : decide (h.f3 = h.f4) = false := by simpa using b2
          by_cases c1 : m.f2 = h.f2
          · have c1b : (m.f2 == h.f2) = true := by simpa using c1
            by_cases c2 : m.f4 = h.f4
            · skip
              have c2d : decide (m.f4 = h.f4) = true := by simpa using c2
              have hdm : difB m = true := by simp [difB, a1]
              have hdh : difB h = true := by simp [difB, b1, b2]
              have ht2 : tornB2 m h = false := by simp [tornB2, hdm, hdh, c1, c2]
              have hp2 : mergeC m h = m := by simp [mergeC, hdm]
              rw [ht2] at ht
              rw [hp2] at ho
              simp only [Bool.false_eq_true, if_false, List.append_nil] at ht
              simp only [go_sem, T_1, T_3, T_4, T_9, T_51, T_69, T_145, T_151, all_str, hlt, hx, hat, hat2, a1b, b1b, b2d, c1b, c2d, ba_toList, show (torn.length + 1) * 16 ≤ 140737488355328 by omega, show torn.length + 1 ≤ 140737488355328 by omega, show (out.length + 1) * 32 ≤ 140737488355328 by omega, show out.length + 1 ≤ 140737488355328 by omega, wrap_i64s (show i < 1000000000000000000 by omega)]
              by_cases hc : m.f2 = true
              · rw [if_pos hc] at ho ⊢
                repeat (refine ⟨by kernel_rfl, ?_⟩)
                refine ⟨i + 1, by omega, by simp only; omega, ?_⟩
                simp only [ho, ht]
                simp only [List.map_append, List.map_cons, List.map_nil, List.length_append, List.length_cons, List.length_nil, List.append_nil, str_enc, k145_enc]
                show _ = _
                kernel_rfl
              · rw [if_neg hc] at ho ⊢
                repeat (refine ⟨by kernel_rfl, ?_⟩)
                refine ⟨i + 1, by omega, by simp only; omega, ?_⟩
                simp only [ho, ht]
                simp only [List.map_append, List.map_cons, List.map_nil, List.length_append, List.length_cons, List.length_nil, List.append_nil, str_enc, k145_enc]
                show _ = _
                kernel_rfl
            · skip
              have c2d : decide (m.f4 = h.f4) = false := by simpa using c2
              have hdm : difB m = true := by simp [difB, a1]
              have hdh : difB h = true := by simp [difB, b1, b2]
              have ht2 : tornB2 m h = true := by simp [tornB2, hdm, hdh, c1, c2]
              have hp2 : mergeC m h = m := by simp [mergeC, hdm]
              rw [ht2] at ht
              rw [hp2] at ho
              simp only [if_true] at ht
              simp only [go_sem, T_1, T_3, T_4, T_9, T_51, T_69, T_145, T_151, all_str, hlt, hx, hat, hat2, a1b, b1b, b2d, c1b, c2d, ba_toList, show (torn.length + 1) * 16 ≤ 140737488355328 by omega, show torn.length + 1 ≤ 140737488355328 by omega, show (out.length + 1) * 32 ≤ 140737488355328 by omega, show out.length + 1 ≤ 140737488355328 by omega, wrap_i64s (show i < 1000000000000000000 by omega)]
              by_cases hc : m.f2 = true
              · rw [if_pos hc] at ho ⊢
                repeat (refine ⟨by kernel_rfl, ?_⟩)
                refine ⟨i + 1, by omega, by simp only; omega, ?_⟩
                simp only [ho, ht]
                simp only [List.map_append, List.map_cons, List.map_nil, List.length_append, List.length_cons, List.length_nil, List.append_nil, str_enc, k145_enc]
                show _ = _
                kernel_rfl
              · rw [if_neg hc] at ho ⊢
                repeat (refine ⟨by kernel_rfl, ?_⟩)
                refine ⟨i + 1, by omega, by simp only; omega, ?_⟩
                simp only [ho, ht]
                simp only [List.map_append, List.map_cons, List.map_nil, List.length_append, List.length_cons, List.length_nil, List.append_nil, str_enc, k145_enc]
                show _ = _
                kernel_rfl
          · have c1b : (m.f2 == h.f2) = false := by simpa using c1
            have hdm : difB m = true := by simp [difB, a1]
            have hdh : difB h = true := by simp [difB, b1, b2]
            have ht2 : tornB2 m h = true := by simp [tornB2, hdm, hdh, c1]
            have hp2 : mergeC m h = m := by simp [mergeC, hdm]
            rw [ht2] at ht
            rw [hp2] at ho
            simp only [if_true] at ht
            simp only [go_sem, T_1, T_3, T_4, T_9, T_51, T_69, T_145, T_151, all_str, hlt, hx, hat, hat2, a1b, b1b, b2d, c1b, ba_toList, show (torn.length + 1) * 16 ≤ 140737488355328 by omega, show torn.length + 1 ≤ 140737488355328 by omega, show (out.length + 1) * 32 ≤ 140737488355328 by omega, show out.length + 1 ≤ 140737488355328 by omega, wrap_i64s (show i < 1000000000000000000 by omega)]
            by_cases hc : m.f2 = true
            · rw [if_pos hc] at ho ⊢
              repeat (refine ⟨by kernel_rfl, ?_⟩)
              refine ⟨i + 1, by omega, by simp only; omega, ?_⟩
              simp only [ho, ht]
              simp only [List.map_append, List.map_cons, List.map_nil, List.length_append, List.length_cons, List.length_nil, List.append_nil, str_enc, k145_enc]
              show _ = _
              kernel_rfl
            · rw [if_neg hc] at ho ⊢
              repeat (refine ⟨by kernel_rfl, ?_⟩)
              refine ⟨i + 1, by omega, by simp only; omega, ?_⟩
              simp only [ho, ht]
              simp only [List.map_append, List.map_cons, List.map_nil, List.length_append, List.length_cons, List.length_nil, List.append_nil, str_enc, k145_enc]
              show _ = _
              kernel_rfl
      · have b1b : (h.f1 == h.f2) = false := by simpa using b1
        by_cases c1 : m.f2 = h.f2
        · have c1b : (m.f2 == h.f2) = true := by simpa using c1
          by_cases c2 : m.f4 = h.f4
          · skip
            have c2d : decide (m.f4 = h.f4) = true := by simpa using c2
            have hdm : difB m = true := by simp [difB, a1]
            have hdh : difB h = true := by simp [difB, b1]
            have ht2 : tornB2 m h = false := by simp [tornB2, hdm, hdh, c1, c2]
            have hp2 : mergeC m h = m := by simp [mergeC, hdm]
            rw [ht2] at ht
            rw [hp2] at ho
            simp only [Bool.false_eq_true, if_false, List.append_nil] at ht
            simp only [go_sem, T_1, T_3, T_4, T_9, T_51, T_69, T_145, T_151, all_str, hlt, hx, hat, hat2, a1b, b1b, c1b, c2d, ba_toList, show (torn.length + 1) * 16 ≤ 140737488355328 by omega, show torn.length + 1 ≤ 140737488355328 by omega, show (out.length + 1) * 32 ≤ 140737488355328 by omega, show out.length + 1 ≤ 140737488355328 by omega, wrap_i64s (show i < 1000000000000000000 by omega)]
            by_cases hc : m.f2 = true
            · rw [if_pos hc] at ho ⊢
              repeat (refine ⟨by kernel_rfl, ?_⟩)
              refine ⟨i + 1, by omega, by simp only; omega, ?_⟩
              simp only [ho, ht]
              simp only [List.map_append, List.map_cons, List.map_nil, List.length_append, List.length_cons, List.length_nil, List.append_nil, str_enc, k145_enc]
              show _ = _
              kernel_rfl
            · rw [if_neg hc] at ho ⊢
              repeat (refine ⟨by kernel_rfl, ?_⟩)
              refine ⟨i + 1, by omega, by simp only; omega, ?_⟩
              simp only [ho, ht]
              simp only [List.map_append, List.map_cons, List.map_nil, List.length_append, List.length_cons, List.length_nil, List.append_nil, str_enc, k145_enc]
              show _ = _
              kernel_rfl
          · skip
            have c2d : decide (m.f4 = h.f4) = false := by simpa using c2
            have hdm : difB m = true := by simp [difB, a1]
            have hdh : difB h = true := by simp [difB, b1]
            have ht2 : tornB2 m h = true := by simp [tornB2, hdm, hdh, c1, c2]
            have hp2 : mergeC m h = m := by simp [mergeC, hdm]
            rw [ht2] at ht
            rw [hp2] at ho
            simp only [if_true] at ht
            simp only [go_sem, T_1, T_3, T_4, T_9, T_51, T_69, T_145, T_151, all_str, hlt, hx, hat, hat2, a1b, b1b, c1b, c2d, ba_toList, show (torn.length + 1) * 16 ≤ 140737488355328 by omega, show torn.length + 1 ≤ 140737488355328 by omega, show (out.length + 1) * 32 ≤ 140737488355328 by omega, show out.length + 1 ≤ 140737488355328 by omega, wrap_i64s (show i < 1000000000000000000 by omega)]
            by_cases hc : m.f2 = true
            · rw [if_pos hc] at ho ⊢
              repeat (refine ⟨by kernel_rfl, ?_⟩)
              refine ⟨i + 1, by omega, by simp only; omega, ?_⟩
              simp only [ho, ht]
              simp only [List.map_append, List.map_cons, List.map_nil, List.length_append, List.length_cons, List.length_nil, List.append_nil, str_enc, k145_enc]
              show _ = _
              kernel_rfl
            · rw [if_neg hc] at ho ⊢
              repeat (refine ⟨by kernel_rfl, ?_⟩)
              refine ⟨i + 1, by omega, by simp only; omega, ?_⟩
              simp only [ho, ht]
              simp only [List.map_append, List.map_cons, List.map_nil, List.length_append, List.length_cons, List.length_nil, List.append_nil, str_enc, k145_enc]
              show _ = _
              kernel_rfl
        · have c1b : (m.f2 == h.f2) = false := by simpa using c1
          have hdm : difB m = true := by simp [difB, a1]
          have hdh : difB h = true := by simp [difB, b1]
          have ht2 : tornB2 m h = true := by simp [tornB2, hdm, hdh, c1]
          have hp2 : mergeC m h = m := by simp [mergeC, hdm]
          rw [ht2] at ht
          rw [hp2] at ho
          simp only [if_true] at ht
          simp only [go_sem, T_1, T_3, T_4, T_9, T_51, T_69, T_145, T_151, all_str, hlt, hx, hat, hat2, a1b, b1b, c1b, ba_toList, show (torn.length + 1) * 16 ≤ 140737488355328 by omega, show torn.length + 1 ≤ 140737488355328 by omega, show (out.length + 1) * 32 ≤ 140737488355328 by omega, show out.length + 1 ≤ 140737488355328 by omega, wrap_i64s (show i < 1000000000000000000 by omega)]
          by_cases hc : m.f2 = true
          · rw [if_pos hc] at ho ⊢
            repeat (refine ⟨by kernel_rfl, ?_⟩)
            refine ⟨i + 1, by omega, by simp only; omega, ?_⟩
            simp only [ho, ht]
            simp only [List.map_append, List.map_cons, List.map_nil, List.length_append, List.length_cons, List.length_nil, List.append_nil, str_enc, k145_enc]
            show _ = _
            kernel_rfl
          · rw [if_neg hc] at ho ⊢
            repeat (refine ⟨by kernel_rfl, ?_⟩)
            refine ⟨i + 1, by omega, by simp only; omega, ?_⟩
            simp only [ho, ht]
            simp only [List.map_append, List.map_cons, List.map_nil, List.length_append, List.length_cons, List.length_nil, List.append_nil, str_enc, k145_enc]
            show _ = _
            kernel_rfl
  · obtain rfl : i = ks.length := by omega
    rw [List.take_length]
    generalize outR a b c ks = out
    generalize tornR a b c ks = torn
    simp only [go_sem, T_1, T_3, T_4, T_9, T_51, T_69, T_145, T_151, hlt]
    refine finish_fz ?_
    simp only [frz, frzAll, frzG, frzGAll, ms2, msUp, Rd.run, Heap.at?, List.length_map, Nat.zero_add, Nat.le_refl, and_self, if_true, List.drop_zero, FZ]
    rw [List.take_of_length_le (by simp), List.take_of_length_le (by simp)]
    show _ = _
    kernel_rfl
end Go.Proofs.Ytfdemnefkfkghaa.R
/- Chapter 31's plain law: pairs that are merged. -/
namespace Go.Proofs.Ytfdemnefkfkghaa.R
open Go
set_option linter.unusedVariables false
set_option linter.unusedSimpArgs false

theorem keyB_ext {l m : List ByteArray} (hl : risesK l = true) (hm : risesK m = true) (h : ∀ k, k ∈ l ↔ k ∈ m) : l = m := by
  have e : ∀ l : List ByteArray, l.map (fun x => x) = l := fun l => List.map_id' l
  refine look_ext (key := fun x : ByteArray => x) (by rw [e]; exact hl) (by rw [e]; exact hm) fun k => ?_
  have key : ∀ l : List ByteArray, look (fun x : ByteArray => x) k l = none ∨ look (fun x : ByteArray => x) k l = some k := fun l => by
    cases hx : look (fun x : ByteArray => x) k l with
    | none => exact .inl rfl
    | some x => exact .inr (by rw [show x = k from look_key hx])
  have h1 := look_isSome (key := fun x : ByteArray => x) (k := k) (l := l)
  have h2 := look_isSome (key := fun x : ByteArray => x) (k := k) (l := m)
  rw [e] at h1 h2
  rcases key l with a | a <;> rcases key m with b | b
  · rw [a, b]
  · rw [a] at h1; rw [b] at h2; simp at h1 h2; exact absurd ((h k).2 h2) h1
  · rw [a] at h1; rw [b] at h2; simp at h1 h2; exact absurd ((h k).1 h1) h2
  · rw [a, b]
theorem chg_none {a b : List S145} {k : ByteArray} (h : chg k (lookP k a) (lookP k b) = none) : difB (atC a b k) = false := by
  unfold atC difB
  cases hp : lookP k a <;> cases hq : lookP k b <;> rw [hp, hq] at h <;> simp only [chg] at h
  · simp [valP]
  · cases h
  · cases h
  · cases h
theorem chg_some {a b : List S145} {k : ByteArray} {c : S151} (h : chg k (lookP k a) (lookP k b) = some c) : c = atC a b k := by
  unfold atC
  cases hp : lookP k a <;> cases hq : lookP k b <;> rw [hp, hq] at h <;> simp only [chg] at h
  · cases h
  · rw [← Option.some.inj h]; rfl
  · rw [← Option.some.inj h]; rfl
  · rw [← Option.some.inj h]; rfl
theorem pairs_at {a b : List S145} (ha : riseL a = true) (hb : riseL b = true) (k : ByteArray) : lookC k (pairsL a b) = if difB (atC a b k) = true then some (atC a b k) else none := by
  rw [pairs_look ha hb]
  cases hc : chg k (lookP k a) (lookP k b) with
  | none => rw [chg_none hc]; rfl
  | some c =>
    have h1 := may_dif hc
    have h2 := chg_some hc
    rw [h2] at h1
    simp only [Option.filter, h2, h1]
def vP (k : ByteArray) (l : List S145) : Option ByteArray := (lookP k l).map S145.f1
theorem vP_of {k : ByteArray} {l m : List S145} (h1 : (lookP k l).isSome = (lookP k m).isSome) (h2 : valP (lookP k l) = valP (lookP k m)) : vP k l = vP k m := by
  unfold vP
  cases hp : lookP k l <;> cases hq : lookP k m <;> rw [hp, hq] at h1 h2
  · cases h1
  · cases h1
  · simp only [valP] at h2
    simp [h2]
theorem vP_same {a b : List S145} {k : ByteArray} (h : difB (atC a b k) = false) : (lookP k a).isSome = (lookP k b).isSome ∧ valP (lookP k a) = valP (lookP k b) := by
  unfold difB atC at h
  simp only [Bool.or_eq_false_iff, Bool.not_eq_false', beq_iff_eq, decide_eq_true_eq] at h
  exact h
theorem vP_at {a b : List S145} {k : ByteArray} : (if (atC a b k).f2 = true then some (atC a b k).f4 else none) = vP k b := by
  unfold atC vP
  cases lookP k b <;> simp [valP]
theorem only_look {b o t : List S145} (hb : riseL b = true) (ho : riseL o = true) (ht : riseL t = true) (k : ByteArray) : lookC k (onlyL (pairsL b o) (pairsL b t)) = if difB (atC b o k) = true then none else if difB (atC b t k) = true then some (atC b t k) else none := by
  unfold onlyL lookC
  rw [look_filter (pairsL_rises hb ht), show look S151.f0 k (pairsL b t) = lookC k (pairsL b t) from rfl, pairs_at hb ht]
  by_cases h2 : difB (atC b t k) = true
  · rw [if_pos h2]
    have e : look S151.f0 (atC b t k).f0 (pairsL b o) = if difB (atC b o k) = true then some (atC b o k) else none := pairs_at hb ho k
    by_cases h1 : difB (atC b o k) = true
    · simp [Option.filter, e, h1]
    · simp [Option.filter, e, h1]
  · rw [if_neg h2]
    simp
theorem merge_look {b o t : List S145} (hb : riseL b = true) (ho : riseL o = true) (ht : riseL t = true) : ∃ m, applyY (onlyL (pairsL b o) (pairsL b t)) (o.map S145.f0) (o.map S145.f1) = some m ∧ risesK m.1 = true ∧ m.2.length = m.1.length ∧ ∀ k, lookM k m.1 m.2 = if difB (atC b o k) = true then vP k o else vP k t := by
  have hr : risesK ((onlyL (pairsL b o) (pairsL b t)).map S151.f0) = true := rises_filter (pairsL_rises hb ht)
  obtain ⟨m, m1, m2, m3, m4⟩ := applyY_ok (l := onlyL (pairsL b o) (pairsL b t)) (ks := o.map S145.f0) (vs := o.map S145.f1) hr (riseL_iff.1 ho) (by simp) fun c hc => by
    have h1 : lookC c.f0 (onlyL (pairsL b o) (pairsL b t)) = some c := look_of_mem hr hc
    rw [only_look hb ho ht] at h1
    rw [lookM_map]
    show fitsO c (vP c.f0 o)
    split at h1
    · cases h1
    · rename_i h2
      split at h1
      · have h3 := vP_same (a := b) (b := o) (k := c.f0) (by simpa using h2)
        have e := Option.some.inj h1
        have e1 : (lookP c.f0 b).isSome = c.f1 := congrArg S151.f1 e
        have e3 : valP (lookP c.f0 b) = c.f3 := congrArg S151.f3 e
        unfold fitsO vP
        rw [← e1, ← e3, h3.1, h3.2]
        cases lookP c.f0 o <;> simp [valP]
      · cases h1
  refine ⟨m, m1, m2, m3, fun k => ?_⟩
  rw [m4, lookM_map]
  show after k _ (vP k o) = _
  unfold after
  rw [only_look hb ho ht]
  by_cases h1 : difB (atC b o k) = true
  · rw [if_pos h1, if_pos h1]
  · rw [if_neg h1, if_neg h1]
    by_cases h2 : difB (atC b t k) = true
    · rw [if_pos h2]
      exact vP_at
    · rw [if_neg h2]
      have a1 := vP_same (a := b) (b := o) (k := k) (by simpa using h1)
      have a2 := vP_same (a := b) (b := t) (k := k) (by simpa using h2)
      exact vP_of (a1.1.symm.trans a2.1) (a1.2.symm.trans a2.2)
theorem at_eq {b o t : List S145} {k : ByteArray} : (atC b o k = atC b t k) ↔ ((atC b o k).f2 = (atC b t k).f2 ∧ (atC b o k).f4 = (atC b t k).f4) := by
  constructor
  · intro h
    rw [h]
    exact ⟨rfl, rfl⟩
  · rintro ⟨h1, h2⟩
    simp only [atC] at h1 h2 ⊢
    rw [h1, h2]
theorem torn_mem {b o t : List S145} (hb : riseL b = true) (ho : riseL o = true) (ht : riseL t = true) {k : ByteArray} : k ∈ tornL (pairsL b o) (pairsL b t) ↔ tornB2 (atC b o k) (atC b t k) = true := by
  unfold tornL
  rw [← look_isSome (key := S151.f0), look_filter (pairsL_rises hb ht), show look S151.f0 k (pairsL b t) = lookC k (pairsL b t) from rfl, pairs_at hb ht]
  by_cases h2 : difB (atC b t k) = true
  · rw [if_pos h2]
    have e0 : lookC (atC b t k).f0 (pairsL b o) = if difB (atC b o k) = true then some (atC b o k) else none := pairs_at hb ho k
    simp only [Option.filter, tornB, e0]
    by_cases h1 : difB (atC b o k) = true
    · simp only [h1, if_true]
      simp only [tornB2, h1, h2]
      by_cases e : atC b o k = atC b t k
      · have e2 := at_eq.1 e
        simp [e]
      · have e2 : ¬ ((atC b o k).f2 = (atC b t k).f2 ∧ (atC b o k).f4 = (atC b t k).f4) := fun h => e (at_eq.2 h)
        by_cases e3 : (atC b o k).f2 = (atC b t k).f2
        · have e4 : ¬ (atC b o k).f4 = (atC b t k).f4 := fun h => e2 ⟨e3, h⟩
          simp [e, e4]
        · simp [e, e3]
    · simp [tornB2, h1]
  · rw [if_neg h2]
    simp [tornB2, h2]
theorem torn_rises {b o t : List S145} (hb : riseL b = true) (ho : riseL o = true) (ht : riseL t = true) : risesK (tornL (pairsL b o) (pairsL b t)) = true := rises_filter (pairsL_rises hb ht)
theorem mergeKeys_rises {b o t : List S145} : risesK (mergeKeys b o t) = true := keysL_rises
theorem key145s_look {k : ByteArray} {l : List ByteArray} : (lookP k (l.map key145s)).isSome = true ↔ k ∈ l := by
  unfold lookP
  rw [look_isSome, map_keys (fun _ => rfl)]
theorem mergeKeys_mem {b o t : List S145} {k : ByteArray} : k ∈ mergeKeys b o t ↔ ((lookP k b).isSome = true ∨ (lookP k o).isSome = true) ∨ (lookP k t).isSome = true := by
  unfold mergeKeys
  rw [keysL_mem, key145s_look, keysL_mem]
theorem none_keys {b o t : List S145} {k : ByteArray} (h : k ∉ mergeKeys b o t) : lookP k b = none ∧ lookP k o = none ∧ lookP k t = none := by
  rw [mergeKeys_mem] at h
  cases hp : lookP k b <;> cases hq : lookP k o <;> cases hs : lookP k t <;> simp [hp, hq, hs] at h ⊢
theorem rises_filterB {p : ByteArray → Bool} {l : List ByteArray} (h : risesK l = true) : risesK (l.filter p) = true := by
  have := rises_filter (key := fun x : ByteArray => x) (p := p) (l := l) (by rw [List.map_id']; exact h)
  rwa [List.map_id'] at this
theorem torn_ref {b o t : List S145} (hb : riseL b = true) (ho : riseL o = true) (ht : riseL t = true) : tornL (pairsL b o) (pairsL b t) = tornR b o t (mergeKeys b o t) := by
  refine keyB_ext (torn_rises hb ho ht) (rises_filterB mergeKeys_rises) fun k => ?_
  rw [torn_mem hb ho ht]
  unfold tornR
  rw [List.mem_filter]
  refine ⟨fun h => ⟨?_, h⟩, fun h => h.2⟩
  rcases Classical.em (k ∈ mergeKeys b o t) with hk | hk
  · exact hk
  · obtain ⟨h1, h2, h3⟩ := none_keys hk
    simp [tornB2, difB, atC, h1, h2, h3, valP] at h
theorem outR_fm {b o t : List S145} : ∀ {ks : List ByteArray}, outR b o t ks = ks.filterMap fun k => if (mergeC (atC b o k) (atC b t k)).f2 = true then some ⟨k, (mergeC (atC b o k) (atC b t k)).f4⟩ else none
  | [] => rfl
  | k :: r => by
    simp only [outR, List.filterMap_cons]
    rw [outR_fm (ks := r)]
    by_cases h : (mergeC (atC b o k) (atC b t k)).f2 = true
    · simp [h]
    · simp [h]
theorem out_look {b o t : List S145} {k : ByteArray} : lookP k (outR b o t (mergeKeys b o t)) = (if difB (atC b o k) = true then vP k o else vP k t).map fun v => ⟨k, v⟩ := by
  have hf : ∀ (k : ByteArray) (c : S145), (if (mergeC (atC b o k) (atC b t k)).f2 = true then some (⟨k, (mergeC (atC b o k) (atC b t k)).f4⟩ : S145) else none) = some c → c.f0 = k := fun k c h => by
    split at h
    · cases h; rfl
    · cases h
  rw [outR_fm]
  unfold lookP
  rcases Classical.em (k ∈ mergeKeys b o t) with hk | hk
  · rw [(look_fm (key := S145.f0) hf).1 hk mergeKeys_rises]
    unfold mergeC
    split
    · rw [← vP_at (a := b) (b := o)]
      split <;> rfl
    · rw [← vP_at (a := b) (b := t)]
      split <;> rfl
  · rw [(look_fm (key := S145.f0) hf).2 hk]
    obtain ⟨h1, h2, h3⟩ := none_keys hk
    unfold vP
    rw [h2, h3]
    split <;> rfl
theorem out_rises {b o t : List S145} : risesK ((outR b o t (mergeKeys b o t)).map S145.f0) = true := by
  rw [outR_fm]
  exact rises_fm (key := S145.f0) (fun k c h => by
    split at h
    · cases h; rfl
    · cases h) mergeKeys_rises
theorem merge_ref {b o t : List S145} (hb : riseL b = true) (ho : riseL o = true) (ht : riseL t = true) : ∃ m, applyY (onlyL (pairsL b o) (pairsL b t)) (o.map S145.f0) (o.map S145.f1) = some m ∧ zipS m.1 m.2 = outR b o t (mergeKeys b o t) := by
  obtain ⟨m, m1, m2, m3, m4⟩ := merge_look hb ho ht
  refine ⟨m, m1, look_ext (key := S145.f0) (by rw [zipS_keys m3]; exact m2) out_rises fun k => ?_⟩
  rw [show look S145.f0 k (zipS m.1 m.2) = lookP k (zipS m.1 m.2) from rfl, zipS_look m3, m4, show look S145.f0 k (outR b o t (mergeKeys b o t)) = lookP k (outR b o t (mergeKeys b o t)) from rfl, out_look]
theorem tornB2_comm (m h : S151) : tornB2 m h = tornB2 h m := by
  unfold tornB2
  cases difB m <;> cases difB h <;> simp
  rw [show (m.f2 == h.f2) = (h.f2 == m.f2) from Bool.beq_comm]
  by_cases e : m.f4 = h.f4
  · simp [e]
  · have e2 : ¬ h.f4 = m.f4 := fun x => e x.symm
    simp [e, e2]
theorem torn_comm {b o t : List S145} (hb : riseL b = true) (ho : riseL o = true) (ht : riseL t = true) : tornL (pairsL b t) (pairsL b o) = tornL (pairsL b o) (pairsL b t) := by
  refine keyB_ext (torn_rises hb ht ho) (torn_rises hb ho ht) fun k => ?_
  rw [torn_mem hb ho ht, torn_mem hb ht ho, tornB2_comm]
theorem out_comm {b o t : List S145} (hb : riseL b = true) (ho : riseL o = true) (ht : riseL t = true) (hn : tornL (pairsL b o) (pairsL b t) = []) : outR b t o (mergeKeys b t o) = outR b o t (mergeKeys b o t) := by
  refine look_ext (key := S145.f0) out_rises out_rises fun k => ?_
  rw [show look S145.f0 k (outR b t o (mergeKeys b t o)) = lookP k (outR b t o (mergeKeys b t o)) from rfl, out_look, show look S145.f0 k (outR b o t (mergeKeys b o t)) = lookP k (outR b o t (mergeKeys b o t)) from rfl, out_look]
  congr 1
  have hk : ¬ tornB2 (atC b o k) (atC b t k) = true := fun h => by
    rw [← torn_mem hb ho ht, hn] at h
    simp at h
  by_cases h1 : difB (atC b o k) = true
  · by_cases h2 : difB (atC b t k) = true
    · rw [if_pos h1, if_pos h2]
      simp only [tornB2, h1, h2, Bool.true_and, Bool.or_eq_true, Bool.not_eq_true', beq_eq_false_iff_ne, ne_eq, decide_eq_false_iff_not, not_or, Classical.not_not] at hk
      rw [← vP_at (a := b) (b := t), ← vP_at (a := b) (b := o), hk.1, hk.2]
    · rw [if_pos h1, if_neg h2]
  · by_cases h2 : difB (atC b t k) = true
    · rw [if_neg h1, if_pos h2]
    · rw [if_neg h1, if_neg h2]
      have a1 := vP_same (a := b) (b := o) (k := k) (by simpa using h1)
      have a2 := vP_same (a := b) (b := t) (k := k) (by simpa using h2)
      exact vP_of (a1.1.symm.trans a2.1) (a1.2.symm.trans a2.2)
theorem at_self {b : List S145} {k : ByteArray} : difB (atC b b k) = false := by simp [difB, atC]
theorem torn_self {b o : List S145} (hb : riseL b = true) (ho : riseL o = true) : tornL (pairsL b o) (pairsL b b) = [] := by
  refine keyB_ext (torn_rises hb ho hb) rfl fun k => ?_
  rw [torn_mem hb ho hb]
  simp [tornB2, at_self]
theorem out_self {b o : List S145} (hb : riseL b = true) (ho : riseL o = true) : outR b o b (mergeKeys b o b) = o := by
  refine look_ext (key := S145.f0) out_rises (riseL_iff.1 ho) fun k => ?_
  rw [show look S145.f0 k (outR b o b (mergeKeys b o b)) = lookP k (outR b o b (mergeKeys b o b)) from rfl, out_look, show look S145.f0 k o = lookP k o from rfl, lookP_val (l := o)]
  congr 1
  by_cases h1 : difB (atC b o k) = true
  · rw [if_pos h1]; rfl
  · rw [if_neg h1]
    have a1 := vP_same (a := b) (b := o) (k := k) (by simpa using h1)
    exact vP_of a1.1 a1.2
end Go.Proofs.Ytfdemnefkfkghaa.R
/- Chapter 31's laws: DiffMerges. -/
namespace Go.Proofs.Ytfdemnefkfkghaa.R
open Go Go.Proofs
set_option linter.unusedSimpArgs false
set_option linter.unusedVariables false
set_option maxRecDepth 10000
set_option maxHeartbeats 4000000

theorem lim47_bad (a b c : List S145) (ha : a.length < 1000000) (hb : b.length < 1000000) (hc : c.length < 1000000) (hr : (riseL a && riseL b && riseL c) = false) : lim T fns 47 [.fz (a.map k145.enc), .fz (b.map k145.enc), .fz (c.map k145.enc)] [] = some (.tup [.fz [], .fz [], .int .i64 1], []) := by
  have z1 : ((1 : Int) != 0) = true := rfl
  have z0 : ((0 : Int) != 0) = false := rfl
  cases rab : (riseL a && riseL b) with
  | false =>
    have h1 := fun n => call39_bad a b (by omega) (by omega) rab n
    refine fn_rule (fn := fn47) rfl rfl (by simp [fn47]) ?_
    unfold fn47
    simp only [Try.f47, Option.getD_some, argEnv, List.map_nil, List.length_nil]
    simp only [go_sem, T_1, T_3, T_4, T_9, T_25, T_50, T_51, T_69, T_145, T_151, T_176, h1, z1]
    show _ = _
    kernel_rfl
  | true =>
    rw [rab] at hr
    simp only [Bool.and_eq_true] at rab
    have h1 := fun n => call39_ok a b (by omega) (by omega) rab.1 rab.2 n
    have h2 := fun n => call39_bad a c (by omega) (by omega) (by rw [rab.1]; exact hr) n
    refine fn_rule (fn := fn47) rfl rfl (by simp [fn47]) ?_
    unfold fn47
    simp only [Try.f47, Option.getD_some, argEnv, List.map_nil, List.length_nil]
    simp only [go_sem, T_1, T_3, T_4, T_9, T_25, T_50, T_51, T_69, T_145, T_151, T_176, h1, h2, z1, z0]
    show _ = _
    kernel_rfl
theorem call47_bad (a b c : List S145) (ha : a.length < 1000000) (hb : b.length < 1000000) (hc : c.length < 1000000) (hr : (riseL a && riseL b && riseL c) = false) (n : Nat) : callV (LX T fns) n (.clo 47 []) [.fz (a.map k145.enc), .fz (b.map k145.enc), .fz (c.map k145.enc)] = .pure (.tup [.fz [], .fz [], .int .i64 1], []) := callV_plain (fn := fn47) rfl rfl rfl (lim47_bad a b c ha hb hc hr) n
theorem call48_bad (a b c : List S145) (ha : a.length < 1000000) (hb : b.length < 1000000) (hc : c.length < 1000000) (hr : (riseL a && riseL b && riseL c) = false) (n : Nat) : callV (LX T fns) n (.clo 48 []) [.fz (a.map k145.enc), .fz (b.map k145.enc), .fz (c.map k145.enc)] = .pure (.tup [.fz [], .fz [], .int .i64 1], []) := callV_plain (fn := fn48) rfl rfl rfl (lim48_bad a b c ha hb hc hr) n
theorem call48_ok (a b c : List S145) (ha : a.length < 1000000) (hb : b.length < 1000000) (hc : c.length < 1000000) (h1 : riseL a = true) (h2 : riseL b = true) (h3 : riseL c = true) (n : Nat) : callV (LX T fns) n (.clo 48 []) [.fz (a.map k145.enc), .fz (b.map k145.enc), .fz (c.map k145.enc)] = .pure (.tup [.fz ((outR a b c (mergeKeys a b c)).map k145.enc), .fz ((tornR a b c (mergeKeys a b c)).map Cd.str.enc), .int .i64 0], []) := callV_plain (fn := fn48) rfl rfl rfl (lim48_ok a b c ha hb hc h1 h2 h3) n
theorem call47_ok (a b c : List S145) (ha : a.length < 1000000) (hb : b.length < 1000000) (hc : c.length < 1000000) (h1 : riseL a = true) (h2 : riseL b = true) (h3 : riseL c = true) (n : Nat) : callV (LX T fns) n (.clo 47 []) [.fz (a.map k145.enc), .fz (b.map k145.enc), .fz (c.map k145.enc)] = .pure (.tup [.fz ((outR a b c (mergeKeys a b c)).map k145.enc), .fz ((tornL (pairsL a b) (pairsL a c)).map Cd.str.enc), .int .i64 0], []) := by
  obtain ⟨m, m1, m2⟩ := merge_ref h1 h2 h3
  have h := lim47_ok a b c ha hb hc h1 h2 h3
  rw [m1] at h
  simp only [mergeR] at h
  rw [m2] at h
  exact callV_plain (fn := fn47) rfl rfl rfl h n
theorem mergeKeys_le {a b c : List S145} : (mergeKeys a b c).length ≤ a.length + b.length + c.length := by
  have h1 := keysL_le (a := a) (b := b)
  have h2 := keysL_le (a := (keysL a b).map key145s) (b := c)
  rw [List.length_map] at h2
  unfold mergeKeys
  omega
theorem tornL_le {m h : List S151} : (tornL m h).length ≤ h.length := by
  unfold tornL
  rw [List.length_map]
  exact List.length_filter_le _ _
theorem lim11 (a b c : List S145) : lim T fns 11 [.fz (a.map k145.enc), .fz (b.map k145.enc), .fz (c.map k145.enc)] [] = some (.bool true, []) := by
  cases hga : greatPairs a with
  | true =>
    refine fn_rule (fn := fn11) rfl rfl (by simp [fn11]) ?_
    unfold fn11
    simp only [Try.f11, Option.getD_some, argEnv, List.map_nil, List.length_nil]
    simp only [go_sem, T_3, T_4, T_9, T_25, T_51, T_69, T_145, call34, hga, call35]
  | false =>
  cases hgb : greatPairs b with
  | true =>
    refine fn_rule (fn := fn11) rfl rfl (by simp [fn11]) ?_
    unfold fn11
    simp only [Try.f11, Option.getD_some, argEnv, List.map_nil, List.length_nil]
    simp only [go_sem, T_3, T_4, T_9, T_25, T_51, T_69, T_145, call34, hga, hgb, call35]
  | false =>
  cases hgc : greatPairs c with
  | true =>
    refine fn_rule (fn := fn11) rfl rfl (by simp [fn11]) ?_
    unfold fn11
    simp only [Try.f11, Option.getD_some, argEnv, List.map_nil, List.length_nil]
    simp only [go_sem, T_3, T_4, T_9, T_25, T_51, T_69, T_145, call34, hga, hgb, hgc, call35]
  | false =>
  have la := few_pairs hga
  have lb := few_pairs hgb
  have lc := few_pairs hgc
  have z1 : ((1 : Int) != 0) = true := rfl
  have z0 : ((0 : Int) != 0) = false := rfl
  have z2 : ((0 : Int) == 0) = true := rfl
  have z3 : ((1 : Int) != 1) = false := rfl
  cases hr : (riseL a && riseL b && riseL c) with
  | false =>
    have h1 := fun n => call47_bad a b c (by omega) (by omega) (by omega) hr n
    have h2 := fun n => call48_bad a b c (by omega) (by omega) (by omega) hr n
    have h3 := fun n => call44 [] [] (by simp) n
    have h4 := fun n => call49 [] [] (by simp) n
    simp only [List.map_nil, decide_true] at h3 h4
    refine fn_rule (fn := fn11) rfl rfl (by simp [fn11]) ?_
    unfold fn11
    simp only [Try.f11, Option.getD_some, argEnv, List.map_nil, List.length_nil]
    simp only [go_sem, T_3, T_4, T_9, T_25, T_51, T_69, T_145, call34, hga, hgb, hgc, call35, h1, h2, h3, h4, z1, z0, z2, z3]
  | true =>
    simp only [Bool.and_eq_true] at hr
    obtain ⟨⟨ra, rb⟩, rc⟩ := hr
    have hk := mergeKeys_le (a := a) (b := b) (c := c)
    have hol := outR_len (a := a) (b := b) (c := c) (l := mergeKeys a b c)
    have htl := tornL_le (m := pairsL a b) (h := pairsL a c)
    have hpl := pairsL_le (a := a) (b := c)
    have h1 := fun n => call47_ok a b c (by omega) (by omega) (by omega) ra rb rc n
    have h2 := fun n => call48_ok a b c (by omega) (by omega) (by omega) ra rb rc n
    rw [← torn_ref ra rb rc] at h2
    have h3 := fun n => call44 (outR a b c (mergeKeys a b c)) (outR a b c (mergeKeys a b c)) (by omega) n
    have h4 := fun n => call49 (tornL (pairsL a b) (pairsL a c)) (tornL (pairsL a b) (pairsL a c)) (by omega) n
    have h5 := fun n => call47_ok a c b (by omega) (by omega) (by omega) ra rc rb n
    rw [torn_comm ra rb rc] at h5
    have h6 := fun n => call47_ok a b a (by omega) (by omega) (by omega) ra rb ra n
    rw [torn_self ra rb, out_self ra rb] at h6
    have h7 := fun n => call44 b b (by omega) n
    simp only [decide_true, List.map_nil] at h3 h4 h6 h7
    rcases Classical.em (tornL (pairsL a b) (pairsL a c) = []) with he | he
    · rw [out_comm ra rb rc he] at h5
      rw [he] at h1 h2 h4 h5
      simp only [List.map_nil] at h1 h2 h4 h5
      refine fn_rule (fn := fn11) rfl rfl (by simp [fn11]) ?_
      unfold fn11
      simp only [Try.f11, Option.getD_some, argEnv, List.map_nil, List.length_nil]
      simp only [go_sem, T_3, T_4, T_9, T_25, T_51, T_69, T_145, call34, hga, hgb, hgc, call35, h1, h2, h3, h4, h5, h6, h7, z1, z0, z2, z3, beq00]
    · have hlen : (tornL (pairsL a b) (pairsL a c)).length ≠ 0 := fun h => he (List.eq_nil_of_length_eq_zero h)
      generalize tornL (pairsL a b) (pairsL a c) = torn at *
      have hl : (((torn.length : Nat) : Int) == 0) = false := by
        rw [beq_eq_false_iff_ne]
        omega
      refine fn_rule (fn := fn11) rfl rfl (by simp [fn11]) ?_
      unfold fn11
      simp only [Try.f11, Option.getD_some, argEnv, List.map_nil, List.length_nil]
      simp only [go_sem, T_3, T_4, T_9, T_25, T_51, T_69, T_145, call34, hga, hgb, hgc, call35, h1, h2, h3, h4, h5, h6, h7, z1, z0, z2, z3, beq00, hl]
end Go.Proofs.Ytfdemnefkfkghaa.R
/- The law DiffMerges, for every argument. -/
namespace Go.Proofs.Ytfdemnefkfkghaa.R
open Go Go.Proofs
set_option linter.unusedVariables false
theorem law11 (x0 : (List S145)) (gx0 : g51 x0) (x1 : (List S145)) (gx1 : g51 x1) (x2 : (List S145)) (gx2 : g51 x2) : ∃ R d h, acall T fns R d 11 [.fz (x0.map k145.enc), .fz (x1.map k145.enc), .fz (x2.map k145.enc)] [] = some (.bool true, h) := by
  obtain ⟨R, d, h⟩ := lim_acall (lim11 x0 x1 x2)
  exact ⟨R, d, _, h⟩
end Go.Proofs.Ytfdemnefkfkghaa.R
/- Chapter 31's laws, together. -/
