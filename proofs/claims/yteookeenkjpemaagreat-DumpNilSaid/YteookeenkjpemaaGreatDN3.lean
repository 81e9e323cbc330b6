/- Parts of the proof of YteookeenkjpemaaGreatRDumpNilAll, one behind the other: R5i, R5j, R5k, R5l, R5m, R5n, R5o, R5p, R5q, R5r, R5s, R5t, R5u, R5v, R6a, RDumpNilAll. -/
import Derived.Test.YteookeenkjpemaaGreatDN0
import Derived.Test.YteookeenkjpemaaGreatDN1
import Derived.Test.YteookeenkjpemaaGreatDN2
/- Chapter 32's laws: the document's Put, PutText. -/
namespace Go.Proofs.YteookeenkjpemaaGreat.R
open Go Go.Proofs
open Go.Proofs.YteookeenkjpemaaGreat.Q (Bytes)
set_option linter.unusedSimpArgs false
set_option linter.unusedVariables false
set_option maxRecDepth 10000
set_option maxHeartbeats 1000000

/-- So many bytes of a number, the greatest first. -/
def be : Nat → Nat → List Int
  | 0, _ => []
  | i + 1, n => ((n / 256 ^ i % 256 : Nat) : Int) :: be i n
theorem bel : ∀ i n, (be i n).length = i
  | 0, _ => rfl
  | i + 1, n => by simp [be, bel i n]
theorem be1 (n : Nat) : be 1 n = [((n % 256 : Nat) : Int)] := by simp [be]
theorem be_4 (n : Nat) : be 4 n = be4 n := by simp [be, be4]
theorem be_drop (n : Nat) : ∀ (k m : Nat), (be (k + m) n).drop k = be m n
  | 0, m => by simp
  | k + 1, m => by
    rw [show k + 1 + m = (k + m) + 1 by omega, be, List.drop_succ_cons]
    exact be_drop n k m
theorem appendR_nil (ti : TI) (n i st o l : Nat) (c : Option Nat) (q : Bool) : appendR ti n (.ms i st o l c) [] q = .pure (.ms i st o l c, []) := by simp [appendR]
theorem wu64 {x : Nat} (h : x < 18446744073709551616) : IntKind.u64.wrap (x : Int) = x := by
  simp only [IntKind.wrap, IntKind.bits, IntKind.signed, Bool.false_and, Bool.false_eq_true, if_false]; omega
theorem lim47 (b : List Int) (n z : Nat) (hn : n < 18446744073709551616) (hz : z = 1 ∨ z = 4) (hl : b.length < 1000000000000) : lim T fns 47 [.fz (eb b), .int .u64 n, .int .i64 z] [] = some (.ms 0 1 0 (b.length + z) none, [some (.buf 1 (eb (b ++ be z n)) false true)]) := by
  refine fn_rule (fn := fn47) rfl rfl (by simp [fn47]) ?_
  unfold fn47
  simp only [Tryz.f47, Option.getD_some, argEnv, List.map_nil, List.length_nil]
  simp only [go_sem, T_1, T_3, T_5, T_22, T_57]
  refine loop_rule (ι := Nat) (S := fun i => ⟨[(0, .fz (eb b)), (1, .int .u64 (n / 256 ^ i : Nat)), (2, .int .i64 z), (7, .ms 0 1 0 i none), (8, .int .i64 i)], [some (.buf 1 (eb (be i n)) false true)]⟩) (m := fun i => 9 - i) (I := fun i => i ≤ 8) ?_ 0 _ (by omega) (by simp only [Nat.pow_zero, Nat.div_one]; rfl)
  intro i hi
  have hq : n / 256 ^ i < 18446744073709551616 := Nat.lt_of_le_of_lt (Nat.div_le_self _ _) hn
  by_cases hlt : i < 8
  · have hlt' : (i : Int) < 8 := by omega
    have w1 := wu64 (show n / 256 ^ i / 256 < 18446744073709551616 by omega)
    have tk : List.take i (eb (be i n)) = eb (be i n) := List.take_of_length_le (by rw [ebl, bel]; omega)
    have c0 : (i ≤ i) = True := eq_true (Nat.le_refl _)
    have e1 : n / 256 ^ i / 256 = n / 256 ^ (i + 1) := by rw [Nat.div_div_eq_div_mul, Nat.pow_succ]
    rw [e1] at w1
    by_cases h0 : i = 0
    · subst h0
      simp only [go_sem, T_1, T_3, T_5, T_22, T_57, hlt', n2560, tmod256, tdiv256, wu8, Nat.mod_mod, ebl, bel, appendR, c0, tk, e1, w1, wrap_i64s (show 0 < 1000000000000000000 by omega)]
      exact ⟨1, by omega, by simp only; omega, rfl⟩
    · have ap := fun (m : Nat) (h : Heap) (hat : h.at? 1 = some (.buf 1 [[V.int IntKind.u8 ((n / 256 ^ i % 256 : Nat) : Int)]] false true)) (tr : List Nat) => append_own (ti := { kd := TK.int IntKind.u8, size := 1, bytes := 1, zero := V.int IntKind.u8 0 }) (n := m) (new := eb (be i n)) (tr := tr) (q := true) rfl rfl hat (l := 1) rfl (by rw [ebl, bel]; omega) (by rw [ebl, bel]; exact h0)
      simp only [go_sem, T_1, T_3, T_5, T_22, T_57, hlt', n2560, tmod256, tdiv256, wu8, Nat.mod_mod, ebl, bel, c0, tk]
      rw [ap _ _ rfl]
      simp only [go_sem, T_1, T_3, T_5, T_22, T_57, n2560, tdiv256, e1, w1, wrap_i64s (show i < 1000000000000000000 by omega), ebl, bel]
      refine ⟨i + 1, by omega, by simp only; omega, ?_⟩
      rw [Nat.add_comm 1 i]
      rfl
  · have : i = 8 := by omega
    subst this
    have c8 : (((8 : Nat) : Int) < 8) = False := by simp
    obtain ⟨k, hk⟩ : ∃ k, k + z = 8 := ⟨8 - z, by omega⟩
    have wz : IntKind.i64.wrap (8 - (z : Int)) = (k : Int) := by rw [IntKind.wrap_i64] <;> omega
    have ck : (k ≤ 8) = True := eq_true (by omega)
    have tz : 8 - k = z := by omega
    have tk : List.take z (List.drop k (eb (be 8 n))) = eb (be z n) := by
      rw [← hk]
      have : List.drop k (eb (be (k + z) n)) = eb (be z n) := by
        rw [← be_drop n k z]
        simp [eb, List.map_drop]
      rw [this]
      exact List.take_of_length_le (by rw [ebl, bel]; omega)
    by_cases h0 : b = []
    · subst h0
      have e0 : eb ([] : List Int) = [] := rfl
      have ap := fun (m : Nat) (h : Heap) (hat : h.at? 1 = some (.buf 1 [] false true)) (tr : List Nat) => append_own (ti := { kd := TK.int IntKind.u8, size := 1, bytes := 1, zero := V.int IntKind.u8 0 }) (n := m) (new := eb (be z n)) (tr := tr) (q := true) rfl rfl hat (l := 0) rfl (by rw [ebl, bel]; omega) (by rw [ebl, bel]; omega)
      have ck2 : (k + z ≤ 8) = True := eq_true (by omega)
      simp only [go_sem, T_1, T_3, T_5, T_22, T_57, c8, e0, appendR_nil, Nat.reduceEqDiff, wz, natOf_cast, sliceR, cutS, optNat, ck, ck2, tz, bel, ebl, Nat.le_refl, Option.isSome_none, Option.isNone_none, Option.map_none, Bool.and_true, Nat.zero_le, Nat.add_zero, Nat.zero_add, tk]
      rw [ap _ _ rfl]
      simp only [go_sem, bel, ebl]
      show _ = _
      kernel_rfl
    · have hb0 : b.length ≠ 0 := fun e => h0 (List.eq_nil_of_length_eq_zero e)
      have ap := fun (m : Nat) (h : Heap) (hat : h.at? 1 = some (.buf 1 [] false true)) (tr : List Nat) => append_own (ti := { kd := TK.int IntKind.u8, size := 1, bytes := 1, zero := V.int IntKind.u8 0 }) (n := m) (new := eb b) (tr := tr) (q := true) rfl rfl hat (l := 0) rfl (by rw [ebl]; omega) (by rw [ebl]; exact hb0)
      have ap2 := fun (m : Nat) (h : Heap) (hat : h.at? 2 = some (.buf 1 (eb b) false true)) (tr : List Nat) => append_own (ti := { kd := TK.int IntKind.u8, size := 1, bytes := 1, zero := V.int IntKind.u8 0 }) (n := m) (new := eb (be z n)) (tr := tr) (q := true) rfl rfl hat (l := b.length) (ebl b) (by rw [ebl, bel]; omega) (by rw [ebl, bel]; omega)
      have ck2 : (k + z ≤ 8) = True := eq_true (by omega)
      simp only [go_sem, T_1, T_3, T_5, T_22, T_57, c8]
      rw [ap _ _ rfl]
      simp only [go_sem, T_1, T_3, T_5, T_22, T_57, Nat.reduceEqDiff, wz, natOf_cast, sliceR, cutS, optNat, ck, ck2, tz, bel, ebl, Nat.le_refl, Option.isSome_none, Option.isNone_none, Option.map_none, Bool.and_true, Nat.zero_le, Nat.add_zero, Nat.zero_add, tk]
      rw [ap2 _ _ rfl]
      simp only [go_sem, bel, ebl, eb_append]
      show _ = _
      kernel_rfl
theorem call47 (b : List Int) (x z : Nat) (hx : x < 18446744073709551616) (hz : z = 1 ∨ z = 4) (hl : b.length < 1000000000000) (n : Nat) : callV (LX T fns) n (.clo 47 []) [.fz (eb b), .int .u64 x, .int .i64 z] = .pure (.ms n 1 0 (b.length + z) none, [(n, some (.buf 1 (eb (b ++ be z x)) false true))]) := callV_bytes (fn := fn47) rfl rfl (lim47 b x z hx hz hl) n
theorem lim46 (b : List Int) (s : ByteArray) (hs : s.size < 256) (hl : b.length < 1000000000) : lim T fns 46 [.fz (eb b), .str s] [] = some (.ms 0 1 0 (b.length + 1 + s.size) none, [some (.buf 1 (eb (b ++ (s.size : Int) :: tb s)) false true)]) := by
  refine fn_rule (fn := fn46) rfl rfl (by simp [fn46]) ?_
  unfold fn46
  simp only [Tryz.f46, Option.getD_some, argEnv, List.map_nil, List.length_nil]
  have c1 : ((s.size : Int) > 255) = False := eq_false (by omega)
  have w2 := wu64 (show s.size < 18446744073709551616 by omega)
  have hc := fun n => call47 b s.size 1 (by omega) (.inl rfl) (by omega) n
  simp only [show ((1 : Nat) : Int) = 1 from rfl] at hc
  have e1 : b ++ be 1 s.size ++ tb s = b ++ (s.size : Int) :: tb s := by
    rw [be1, Nat.mod_eq_of_lt hs, List.append_assoc]
    rfl
  have e2 : (b ++ be 1 s.size).length = b.length + 1 := by simp [bel]
  simp only [go_sem, T_3, T_5, T_9, T_22, T_57, c1, w2, hc]
  by_cases h0 : s.size = 0
  · have h2 : tb s = [] := List.eq_nil_of_length_eq_zero (by rw [tbl]; exact h0)
    rw [h2] at e1
    rw [rowsOf_tb, h2, ← e1, show eb ([] : List Int) = [] from rfl]
    simp only [go_sem, appendR_nil]
    rw [h0]
    show _ = _
    kernel_rfl
  · have ha := fun (n : Nat) (h : Heap) (hat : h.at? 0 = some (.buf 1 (eb (b ++ be 1 s.size)) false true)) (tr : List Nat) => append_own (ti := { kd := TK.int IntKind.u8, size := 1, bytes := 1, zero := V.int IntKind.u8 0 }) (n := n) (new := eb (tb s)) (tr := tr) (q := true) rfl rfl hat (l := b.length + 1) (by rw [ebl]; exact e2) (by rw [ebl, tbl]; omega) (by rw [ebl, tbl]; exact h0)
    rw [rowsOf_tb, ha _ _ rfl]
    simp only [go_sem]
    rw [← eb_append, e1, tbl]
    show _ = _
    kernel_rfl
theorem call46 (b : List Int) (s : ByteArray) (hs : s.size < 256) (hl : b.length < 1000000000) (n : Nat) : callV (LX T fns) n (.clo 46 []) [.fz (eb b), .str s] = .pure (.ms n 1 0 (b.length + 1 + s.size) none, [(n, some (.buf 1 (eb (b ++ (s.size : Int) :: tb s)) false true))]) := callV_bytes (fn := fn46) rfl rfl (lim46 b s hs hl) n
theorem call52 (b : List Int) (s : ByteArray) (hs : s.size < 256) (hl : b.length < 1000000000) (n : Nat) : callV (LX T fns) n (.clo 52 []) [.fz (eb b), .str s] = .pure (.fz (eb (b ++ (s.size : Int) :: tb s)), []) := callV_plain (fn := fn52) rfl rfl rfl (lim52 b s hs hl) n
end Go.Proofs.YteookeenkjpemaaGreat.R
/- Chapter 32's laws: the program's reader. -/
namespace Go.Proofs.YteookeenkjpemaaGreat.R
open Go Go.Proofs
open Go.Proofs.YteookeenkjpemaaGreat.Q (Bytes)
set_option linter.unusedSimpArgs false
set_option linter.unusedVariables false
set_option maxRecDepth 10000
set_option maxHeartbeats 1000000

def rdO (l at_ e : Nat) : Ob := .buf 3 [[.ms 1 1 0 l none, .int .i64 at_, .int .i64 e]] false false
def byO (B : List Int) : Ob := .buf 1 (eb B) false true
theorem lim29 (B : List Int) (hl : B.length < 1000000000000) : lim T fns 29 [.fz (eb B)] [] = some (.ptr 0 0 0, [some (rdO B.length 0 0), some (byO B)]) := by
  refine fn_rule (fn := fn29) rfl rfl (by simp [fn29]) ?_
  unfold fn29
  simp only [Tryz.f29, Option.getD_some, argEnv, List.map_nil, List.length_nil]
  have hc := fun n => callV_clone (T := T) (fns := fns) (g := 63) (fn := fn63) rfl (st := 1) (bytes := 1) rfl (by decide) (rows := eb B) (alleb B) (by rw [ebl]; omega) n
  simp only [ebl] at hc
  simp only [go_sem, T_3, T_5, T_22, T_24, T_139, hc, rdO, byO, List.map_cons, List.map_nil]
  show _ = _
  kernel_rfl
/-- A number's value, the greatest byte first. -/
def nv : List Int → Nat → Nat
  | [], n => n
  | c :: l, n => nv l (n * 256 + c.toNat)
theorem or64 {a c : Nat} (ha : a < 72057594037927936) (hc : c < 256) : IntKind.u64.wrap ((BitVec.ofInt IntKind.u64.bits (IntKind.u64.wrap ((a : Int) * 2 ^ min (Int.toNat 8) 64)) ||| BitVec.ofInt IntKind.u64.bits (c : Int)).toNat : Int) = (a * 256 + c : Nat) := by
  have e1 : IntKind.u64.wrap ((a : Int) * 2 ^ min (Int.toNat 8) 64) = ((a * 256 : Nat) : Int) := by
    rw [show ((a : Int) * 2 ^ min (Int.toNat 8) 64) = ((a * 256 : Nat) : Int) by simp, wu64 (by omega)]
  rw [e1]
  have ofInt64 : ∀ {x : Nat}, x < 18446744073709551616 → (BitVec.ofInt 64 (x : Int)).toNat = x := fun h => by rw [BitVec.toNat_ofInt]; omega
  rw [show (BitVec.ofInt IntKind.u64.bits ((a * 256 : Nat) : Int) ||| BitVec.ofInt IntKind.u64.bits (c : Int)).toNat = a * 256 + c by
    rw [BitVec.toNat_or, show (BitVec.ofInt IntKind.u64.bits ((a * 256 : Nat) : Int)).toNat = a * 256 from ofInt64 (by omega), show (BitVec.ofInt IntKind.u64.bits (c : Int)).toNat = c from ofInt64 (by omega)]
    have := Nat.two_pow_add_eq_or_of_lt (i := 8) (b := c) hc a
    rw [show (2 : Nat) ^ 8 * a = a * 256 by omega] at this
    exact this.symm, wu64 (by omega)]
theorem eqPr (i r o : Nat) : eqV T 90 (.ptr i r o) .nilp = some false := by
  unfold eqV
  rw [T_90]
def tk (B : List Int) (z : Nat) (s : Nat × Nat) : Nat × (Nat × Nat) :=
  if s.2 ≠ 0 then (0, s) else if B.length < s.1 + z then (0, (s.1, 2)) else (nv ((B.drop s.1).take z) 0, (s.1 + z, 0))
theorem lim109 (B : List Int) (hb : Bytes B) (hl : B.length < 1000000000000) (z : Nat) (hz : z ≤ 4) (s : Nat × Nat) (hs : s.1 ≤ B.length) (he : s.2 < 100) : lim T fns 109 [.ptr 0 0 0, .int .i64 z] [rdO B.length s.1 s.2, byO B] =
    some (.int .u64 (tk B z s).1, [some (rdO B.length (tk B z s).2.1 (tk B z s).2.2), some (byO B)]) := by
  refine fn_rule (fn := fn109) rfl rfl (by simp [fn109]) ?_
  unfold fn109
  simp only [Tryz.f109, Option.getD_some, argEnv, List.map_nil, List.length_nil]
  obtain ⟨i, e⟩ := s
  simp only at hs he
  by_cases h0 : e = 0
  · subst h0
    have wl : IntKind.i64.wrap ((B.length : Int) - (i : Int)) = ((B.length - i : Nat) : Int) := by
      rw [show (B.length : Int) - (i : Int) = ((B.length - i : Nat) : Int) by omega, IntKind.wrap_i64] <;> omega
    have e1 : ((((0 : Nat) : Int)) != 0) = false := rfl
    by_cases h1 : B.length < i + z
    · have g1 : ((z : Int) > ((B.length - i : Nat) : Int)) = True := eq_true (by omega)
      have ht : tk B z (i, 0) = (0, (i, 2)) := by simp [tk, h1]
      rw [ht]
      simp only [rdO, byO]
      simp only [go_sem, T_3, T_5, T_22, T_24, T_57, T_90, T_139, eqPr, nilCheckR, List.map_cons, List.map_nil, wl, g1, e1]
      repeat (refine ⟨by kernel_rfl, ?_⟩)
      show _ = _
      kernel_rfl
    · have g1 : ((z : Int) > ((B.length - i : Nat) : Int)) = False := eq_false (by omega)
      have ht : tk B z (i, 0) = (nv ((B.drop i).take z) 0, (i + z, 0)) := by simp [tk, h1]
      have wz : IntKind.i64.wrap ((i : Int) + (z : Int)) = ((i + z : Nat) : Int) := by
        rw [show (i : Int) + (z : Int) = ((i + z : Nat) : Int) by omega, IntKind.wrap_i64]; omega
      have k1 : (i ≤ i + z) = True := eq_true (by omega)
      have k2 : (i + z ≤ B.length) = True := eq_true (by omega)
      have k3 : i + z - i = z := by omega
      rw [ht]
      simp only [rdO, byO]
      simp only [go_sem, T_3, T_5, T_22, T_24, T_57, T_90, T_139, eqPr, nilCheckR, List.map_cons, List.map_nil, wl, g1, e1, wz, natOf_cast, sliceR, cutS, optNat, k1, k2, k3, Option.isSome_none, Option.isNone_none, Option.isNone_some, Option.map_none, Bool.and_true, Nat.zero_le, Nat.zero_add]
      repeat (refine ⟨by kernel_rfl, ?_⟩)
      refine loop_rule (ι := Nat × Nat) (S := fun p => ⟨[(0, .ptr 0 0 0), (1, .int .i64 z), (5, .int .u64 (p.2 : Nat)), (46, .ms 1 1 i z none), (47, .int .i64 z), (48, .int .i64 (p.1 : Nat))], [some (.buf 3 [[.ms 1 1 0 B.length none, .int .i64 i, .int .i64 (0 : Nat)]] false false), some (.buf 1 (eb B) false true)]⟩) (m := fun p => z + 1 - p.1)
        (I := fun p => p.1 ≤ z ∧ p.2 < 256 ^ p.1 ∧ nv ((B.drop (i + p.1)).take (z - p.1)) p.2 = nv ((B.drop i).take z) 0) ?_ (0, 0) _ ⟨by omega, by simp, by simp⟩ rfl
      rintro ⟨j, x⟩ ⟨hj, hx, hg⟩
      simp only at hj hx hg ⊢
      by_cases hlt : j < z
      · have hlt' : ((j : Int) < (z : Int)) := by omega
        have hij : i + j < B.length := by omega
        rw [List.drop_eq_getElem_cons hij, show z - j = (z - (j + 1)) + 1 by omega, List.take_succ_cons, nv] at hg
        have hbi := hb B[i + j] (List.getElem_mem _)
        have hxi : B[i + j]? = some B[i + j] := List.getElem?_eq_getElem hij
        obtain ⟨c, hc⟩ := Int.eq_ofNat_of_zero_le hbi.1
        rw [hc] at hxi hbi hg
        have hx2 : x < 72057594037927936 := Nat.lt_of_lt_of_le hx (by
          have : 256 ^ j ≤ 256 ^ 4 := Nat.pow_le_pow_right (by decide) (by omega)
          omega)
        have o1 := or64 hx2 (show c < 256 by omega)
        have wc := wu64 (show c < 18446744073709551616 by omega)
        simp only [IntKind.bits] at o1
        simp only [go_sem, T_3, T_5, T_22, T_24, T_57, T_90, T_139, hlt, hlt', hxi, eb_enc, wc, o1, le08, hij, wrap_i64s (show j < 1000000000000000000 by omega)]
        exact ⟨(j + 1, x * 256 + c), ⟨by simp only; omega, by simp only [Nat.pow_succ]; omega, hg⟩, by simp only; omega, rfl⟩
      · have : j = z := by omega
        subst this
        rw [Nat.sub_self, List.take_zero, nv] at hg
        rw [← hg]
        simp only [go_sem, T_3, T_5, T_22, T_24, T_57, T_90, T_139, hlt, wz, eqPr, nilCheckR]
        show _ = _
        kernel_rfl
  · have e1 : ((e : Int) != 0) = true := by simp; omega
    have ht : tk B z (i, e) = (0, (i, e)) := by simp [tk, h0]
    rw [ht]
    simp only [rdO, byO]
    simp only [go_sem, T_3, T_5, T_22, T_24, T_57, T_90, T_139, eqPr, nilCheckR, List.map_cons, List.map_nil, e1, h0]
    show _ = _
    kernel_rfl
theorem call109 (B : List Int) (hb : Bytes B) (hl : B.length < 1000000000000) (z : Nat) (hz : z ≤ 4) (s : Nat × Nat) (hs : s.1 ≤ B.length) (he : s.2 < 100) (n : Nat) (hn : 2 ≤ n) (rest : Heap) : (callV (LX T fns) n (.clo 109 []) [.ptr 0 0 0, .int .i64 z]).run (some (rdO B.length s.1 s.2) :: some (byO B) :: rest) [] =
    some ((.int .u64 (tk B z s).1, [(0, some (rdO B.length (tk B z s).2.1 (tk B z s).2.2)), (1, some (byO B))]), [1, 0]) := by
  have h := lim109 B hb hl z hz s hs he
  simp only [rdO, byO] at h ⊢
  have hf : fns 109 = some fn109 := rfl
  unfold callV
  simp only [hf]
  unfold callR
  simp only [fn109, List.cons_append, List.nil_append, List.append_nil, frzArgs, frz, frzAll, frzG, frzGAll, ms2, msUp, List.tail]
  simp only [V.allIds, V.ids, List.append_nil, List.nil_append, collect, List.map_nil, List.contains_nil, Bool.false_eq_true, if_false, Rd.run, Heap.at?, Ob.ids, rowsIds, List.map_cons, List.cons_append, List.contains_cons, Nat.reduceBEq, Bool.or_self, Bool.or_false, Bool.false_or, Bool.or_true, Bool.true_or, if_true]
  unfold withR
  simp only [List.map_cons, List.map_nil, upd1, List.all_nil, List.all_cons, show 0 < n by omega, show 1 < n by omega, decide_true, Bool.and_self, if_true, V.reAll, V.re, idx, Nat.beq, cond_true, cond_false, Option.bind_some, Option.map_some, pullObs, Ob.re, reRows, Nat.reduceAdd, h, List.length_cons, List.length_nil, Nat.le_refl]
  unfold afterR
  simp only [V.re, V.reAll, pushObs, back, nth, Ob.re, reRows, Option.bind_some, Option.map_some, List.isEmpty_cons, Bool.false_and, Bool.false_eq_true, if_false, Rd.run, List.append_nil, Nat.reduceAdd]
theorem nv_lt : ∀ (l : List Int) (n k : Nat), Bytes l → n < 256 ^ k → nv l n < 256 ^ (k + l.length)
  | [], n, k, _, h => by simpa [nv] using h
  | c :: l, n, k, hb, h => by
    have hc := hb c (by simp)
    have := nv_lt l (n * 256 + c.toNat) (k + 1) (fun x hx => hb x (by simp [hx])) (by rw [Nat.pow_succ]; omega)
    rw [nv, List.length_cons, show k + (l.length + 1) = k + 1 + l.length by omega]
    exact this
theorem bytes_drop {b : List Int} (h : Bytes b) (n : Nat) : Bytes (b.drop n) := fun c hc => h c (List.mem_of_mem_drop hc)
theorem tk_lt {B : List Int} (hb : Bytes B) (z : Nat) (s : Nat × Nat) : (tk B z s).1 < 256 ^ z := by
  have hp : 0 < 256 ^ z := Nat.pow_pos (by decide)
  unfold tk
  split
  · exact hp
  · split
    · exact hp
    · have := nv_lt ((B.drop s.1).take z) 0 0 (bytes_take (bytes_drop hb _) _) (by decide)
      refine Nat.lt_of_lt_of_le this (Nat.pow_le_pow_right (by decide) ?_)
      simp; omega
theorem tk_at {B : List Int} {z : Nat} {s : Nat × Nat} (hs : s.1 ≤ B.length) (he : s.2 < 100) : (tk B z s).2.1 ≤ B.length ∧ (tk B z s).2.2 < 100 := by
  unfold tk
  split
  · exact ⟨hs, he⟩
  · split
    · exact ⟨hs, by simp⟩
    · exact ⟨by simp only; omega, by simp⟩
theorem lim64 (B : List Int) (hb : Bytes B) (hl : B.length < 1000000000000) (s : Nat × Nat) (hs : s.1 ≤ B.length) (he : s.2 < 100) : lim T fns 64 [.ptr 0 0 0] [rdO B.length s.1 s.2, byO B] =
    some (.int .u8 (tk B 1 s).1, [some (rdO B.length (tk B 1 s).2.1 (tk B 1 s).2.2), some (byO B)]) := by
  refine fn_rule (fn := fn64) rfl rfl (by simp [fn64]) ?_
  unfold fn64
  simp only [Tryz.f64, Option.getD_some, argEnv, List.map_nil, List.length_nil]
  have hc := fun (n : Nat) (hn : 2 ≤ n) (rest : Heap) => call109 B hb hl 1 (by decide) s hs he n hn rest
  have h1 := tk_lt hb 1 s
  have w : IntKind.u8.wrap ((tk B 1 s).1 : Int) = (tk B 1 s).1 := by rw [wu8]; omega
  simp only [rdO, byO, show ((1 : Nat) : Int) = 1 from rfl] at hc ⊢
  simp only [go_sem, T_3, T_5, T_57, T_90, hc, w, List.map_cons, List.map_nil]
  show _ = _
  kernel_rfl
theorem call64 (B : List Int) (hb : Bytes B) (hl : B.length < 1000000000000) (s : Nat × Nat) (hs : s.1 ≤ B.length) (he : s.2 < 100) (n : Nat) (hn : 2 ≤ n) (rest : Heap) : (callV (LX T fns) n (.clo 64 []) [.ptr 0 0 0]).run (some (rdO B.length s.1 s.2) :: some (byO B) :: rest) [] =
    some ((.int .u8 (tk B 1 s).1, [(0, some (rdO B.length (tk B 1 s).2.1 (tk B 1 s).2.2)), (1, some (byO B))]), [1, 0]) := by
  have h := lim64 B hb hl s hs he
  simp only [rdO, byO] at h ⊢
  have hf : fns 64 = some fn64 := rfl
  unfold callV
  simp only [hf]
  unfold callR
  simp only [fn64, List.cons_append, List.nil_append, List.append_nil, frzArgs, frz, frzAll, frzG, frzGAll, ms2, msUp, List.tail]
  simp only [V.allIds, V.ids, List.append_nil, List.nil_append, collect, List.map_nil, List.contains_nil, Bool.false_eq_true, if_false, Rd.run, Heap.at?, Ob.ids, rowsIds, List.map_cons, List.cons_append, List.contains_cons, Nat.reduceBEq, Bool.or_self, Bool.or_false, Bool.false_or, Bool.or_true, Bool.true_or, if_true]
  unfold withR
  simp only [List.map_cons, List.map_nil, upd1, List.all_nil, List.all_cons, show 0 < n by omega, show 1 < n by omega, decide_true, Bool.and_self, if_true, V.reAll, V.re, idx, Nat.beq, cond_true, cond_false, Option.bind_some, Option.map_some, pullObs, Ob.re, reRows, Nat.reduceAdd, h, List.length_cons, List.length_nil, Nat.le_refl]
  unfold afterR
  simp only [V.re, V.reAll, pushObs, back, nth, Ob.re, reRows, Option.bind_some, Option.map_some, List.isEmpty_cons, Bool.false_and, Bool.false_eq_true, if_false, Rd.run, List.append_nil, Nat.reduceAdd]
theorem lim67 (B : List Int) (hb : Bytes B) (hl : B.length < 1000000000000) (s : Nat × Nat) (hs : s.1 ≤ B.length) (he : s.2 < 100) : lim T fns 67 [.ptr 0 0 0] [rdO B.length s.1 s.2, byO B] =
    some (.int .u32 (tk B 4 s).1, [some (rdO B.length (tk B 4 s).2.1 (tk B 4 s).2.2), some (byO B)]) := by
  refine fn_rule (fn := fn67) rfl rfl (by simp [fn67]) ?_
  unfold fn67
  simp only [Tryz.f67, Option.getD_some, argEnv, List.map_nil, List.length_nil]
  have hc := fun (n : Nat) (hn : 2 ≤ n) (rest : Heap) => call109 B hb hl 4 (by decide) s hs he n hn rest
  have h1 := tk_lt hb 4 s
  have w : IntKind.u32.wrap ((tk B 4 s).1 : Int) = (tk B 4 s).1 := wu32 (by omega)
  simp only [rdO, byO, show ((4 : Nat) : Int) = 4 from rfl] at hc ⊢
  simp only [go_sem, T_3, T_41, T_57, T_90, hc, w, List.map_cons, List.map_nil]
  show _ = _
  kernel_rfl
theorem call67 (B : List Int) (hb : Bytes B) (hl : B.length < 1000000000000) (s : Nat × Nat) (hs : s.1 ≤ B.length) (he : s.2 < 100) (n : Nat) (hn : 2 ≤ n) (rest : Heap) : (callV (LX T fns) n (.clo 67 []) [.ptr 0 0 0]).run (some (rdO B.length s.1 s.2) :: some (byO B) :: rest) [] =
    some ((.int .u32 (tk B 4 s).1, [(0, some (rdO B.length (tk B 4 s).2.1 (tk B 4 s).2.2)), (1, some (byO B))]), [1, 0]) := by
  have h := lim67 B hb hl s hs he
  simp only [rdO, byO] at h ⊢
  have hf : fns 67 = some fn67 := rfl
  unfold callV
  simp only [hf]
  unfold callR
  simp only [fn67, List.cons_append, List.nil_append, List.append_nil, frzArgs, frz, frzAll, frzG, frzGAll, ms2, msUp, List.tail]
  simp only [V.allIds, V.ids, List.append_nil, List.nil_append, collect, List.map_nil, List.contains_nil, Bool.false_eq_true, if_false, Rd.run, Heap.at?, Ob.ids, rowsIds, List.map_cons, List.cons_append, List.contains_cons, Nat.reduceBEq, Bool.or_self, Bool.or_false, Bool.false_or, Bool.or_true, Bool.true_or, if_true]
  unfold withR
  simp only [List.map_cons, List.map_nil, upd1, List.all_nil, List.all_cons, show 0 < n by omega, show 1 < n by omega, decide_true, Bool.and_self, if_true, V.reAll, V.re, idx, Nat.beq, cond_true, cond_false, Option.bind_some, Option.map_some, pullObs, Ob.re, reRows, Nat.reduceAdd, h, List.length_cons, List.length_nil, Nat.le_refl]
  unfold afterR
  simp only [V.re, V.reAll, pushObs, back, nth, Ob.re, reRows, Option.bind_some, Option.map_some, List.isEmpty_cons, Bool.false_and, Bool.false_eq_true, if_false, Rd.run, List.append_nil, Nat.reduceAdd]
theorem lim68 (B : List Int) (hl : B.length < 1000000000000) (s : Nat × Nat) (hs : s.1 ≤ B.length) : lim T fns 68 [.ptr 0 0 0] [rdO B.length s.1 s.2, byO B] =
    some (.int .i64 (B.length - s.1 : Nat), [some (rdO B.length s.1 s.2), some (byO B)]) := by
  refine fn_rule (fn := fn68) rfl rfl (by simp [fn68]) ?_
  unfold fn68
  simp only [Tryz.f68, Option.getD_some, argEnv, List.map_nil, List.length_nil]
  have wl : IntKind.i64.wrap ((B.length : Int) - (s.1 : Int)) = ((B.length - s.1 : Nat) : Int) := by
    rw [show (B.length : Int) - (s.1 : Int) = ((B.length - s.1 : Nat) : Int) by omega, IntKind.wrap_i64] <;> omega
  simp only [rdO, byO]
  simp only [go_sem, T_3, T_5, T_22, T_24, T_90, T_139, eqPr, nilCheckR, wl, List.map_cons, List.map_nil]
  repeat (refine ⟨by kernel_rfl, ?_⟩)
  show _ = _
  kernel_rfl
theorem call68 (B : List Int) (hl : B.length < 1000000000000) (s : Nat × Nat) (hs : s.1 ≤ B.length) (n : Nat) (hn : 2 ≤ n) (rest : Heap) : (callV (LX T fns) n (.clo 68 []) [.ptr 0 0 0]).run (some (rdO B.length s.1 s.2) :: some (byO B) :: rest) [] =
    some ((.int .i64 (B.length - s.1 : Nat), [(0, some (rdO B.length s.1 s.2)), (1, some (byO B))]), [1, 0]) := by
  have h := lim68 B hl s hs
  simp only [rdO, byO] at h ⊢
  have hf : fns 68 = some fn68 := rfl
  unfold callV
  simp only [hf]
  unfold callR
  simp only [fn68, List.cons_append, List.nil_append, List.append_nil, frzArgs, frz, frzAll, frzG, frzGAll, ms2, msUp, List.tail]
  simp only [V.allIds, V.ids, List.append_nil, List.nil_append, collect, List.map_nil, List.contains_nil, Bool.false_eq_true, if_false, Rd.run, Heap.at?, Ob.ids, rowsIds, List.map_cons, List.cons_append, List.contains_cons, Nat.reduceBEq, Bool.or_self, Bool.or_false, Bool.false_or, Bool.or_true, Bool.true_or, if_true]
  unfold withR
  simp only [List.map_cons, List.map_nil, upd1, List.all_nil, List.all_cons, show 0 < n by omega, show 1 < n by omega, decide_true, Bool.and_self, if_true, V.reAll, V.re, idx, Nat.beq, cond_true, cond_false, Option.bind_some, Option.map_some, pullObs, Ob.re, reRows, Nat.reduceAdd, h, List.length_cons, List.length_nil, Nat.le_refl]
  unfold afterR
  simp only [V.re, V.reAll, pushObs, back, nth, Ob.re, reRows, Option.bind_some, Option.map_some, List.isEmpty_cons, Bool.false_and, Bool.false_eq_true, if_false, Rd.run, List.append_nil, Nat.reduceAdd]
/-- The reader's end. -/
def endR (L : Nat) (s : Nat × Nat) : Nat := if s.2 = 0 ∧ s.1 < L then 4 else s.2
theorem lim31 (B : List Int) (hl : B.length < 1000000000000) (s : Nat × Nat) (hs : s.1 ≤ B.length) : lim T fns 31 [.ptr 0 0 0] [rdO B.length s.1 s.2, byO B] =
    some (.int .i64 (endR B.length s), [some (rdO B.length s.1 s.2), some (byO B)]) := by
  refine fn_rule (fn := fn31) rfl rfl (by simp [fn31]) ?_
  unfold fn31
  simp only [Tryz.f31, Option.getD_some, argEnv, List.map_nil, List.length_nil]
  obtain ⟨i, e⟩ := s
  simp only at hs
  simp only [rdO, byO, endR]
  by_cases h0 : e = 0
  · subst h0
    have e1 : ((((0 : Nat) : Int)) == 0) = true := rfl
    by_cases h1 : i < B.length
    · have g1 : ((i : Int) < (B.length : Int)) = True := eq_true (by omega)
      simp only [go_sem, T_3, T_5, T_22, T_24, T_90, T_139, eqPr, nilCheckR, e1, g1, h1, List.map_cons, List.map_nil]
      repeat (refine ⟨by kernel_rfl, ?_⟩)
      show _ = _
      kernel_rfl
    · have g1 : ((i : Int) < (B.length : Int)) = False := eq_false (by omega)
      simp only [go_sem, T_3, T_5, T_22, T_24, T_90, T_139, eqPr, nilCheckR, e1, g1, h1, List.map_cons, List.map_nil]
      repeat (refine ⟨by kernel_rfl, ?_⟩)
      show _ = _
      kernel_rfl
  · have e1 : ((e : Int) == 0) = false := by simp; omega
    simp only [go_sem, T_3, T_5, T_22, T_24, T_90, T_139, eqPr, nilCheckR, e1, h0, List.map_cons, List.map_nil]
    repeat (refine ⟨by kernel_rfl, ?_⟩)
    show _ = _
    kernel_rfl
/-- An error is noted, if there's none. -/
def failR (x : Nat) (s : Nat × Nat) : Nat × Nat := if s.2 = 0 then (s.1, x) else s
theorem lim65 (B : List Int) (x : Nat) (s : Nat × Nat) : lim T fns 65 [.ptr 0 0 0, .int .i64 x] [rdO B.length s.1 s.2, byO B] =
    some (.tup [], [some (rdO B.length (failR x s).1 (failR x s).2), some (byO B)]) := by
  refine fn_rule (fn := fn65) rfl rfl (by simp [fn65]) ?_
  unfold fn65
  simp only [Tryz.f65, Option.getD_some, argEnv, List.map_nil, List.length_nil]
  obtain ⟨i, e⟩ := s
  simp only [rdO, byO, failR]
  by_cases h0 : e = 0
  · subst h0
    have e1 : ((((0 : Nat) : Int)) == 0) = true := rfl
    simp only [go_sem, T_3, T_5, T_22, T_24, T_90, T_139, eqPr, nilCheckR, e1, List.map_cons, List.map_nil]
    repeat (refine ⟨by kernel_rfl, ?_⟩)
    show _ = _
    kernel_rfl
  · have e1 : ((e : Int) == 0) = false := by simp; omega
    simp only [go_sem, T_3, T_5, T_22, T_24, T_90, T_139, eqPr, nilCheckR, e1, h0, List.map_cons, List.map_nil]
    repeat (refine ⟨by kernel_rfl, ?_⟩)
    show _ = _
    kernel_rfl
theorem call65 (B : List Int) (x : Nat) (s : Nat × Nat) (n : Nat) (hn : 2 ≤ n) (rest : Heap) : (callV (LX T fns) n (.clo 65 []) [.ptr 0 0 0, .int .i64 x]).run (some (rdO B.length s.1 s.2) :: some (byO B) :: rest) [] =
    some ((.tup [], [(0, some (rdO B.length (failR x s).1 (failR x s).2)), (1, some (byO B))]), [1, 0]) := by
  have h := lim65 B x s
  simp only [rdO, byO] at h ⊢
  have hf : fns 65 = some fn65 := rfl
  unfold callV
  simp only [hf]
  unfold callR
  simp only [fn65, List.cons_append, List.nil_append, List.append_nil, frzArgs, frz, frzAll, frzG, frzGAll, ms2, msUp, List.tail]
  simp only [V.allIds, V.ids, List.append_nil, List.nil_append, collect, List.map_nil, List.contains_nil, Bool.false_eq_true, if_false, Rd.run, Heap.at?, Ob.ids, rowsIds, List.map_cons, List.cons_append, List.contains_cons, Nat.reduceBEq, Bool.or_self, Bool.or_false, Bool.false_or, Bool.or_true, Bool.true_or, if_true]
  unfold withR
  simp only [List.map_cons, List.map_nil, upd1, List.all_nil, List.all_cons, show 0 < n by omega, show 1 < n by omega, decide_true, Bool.and_self, if_true, V.reAll, V.re, idx, Nat.beq, cond_true, cond_false, Option.bind_some, Option.map_some, pullObs, Ob.re, reRows, Nat.reduceAdd, h, List.length_cons, List.length_nil, Nat.le_refl]
  unfold afterR
  simp only [V.re, V.reAll, pushObs, back, nth, Ob.re, reRows, Option.bind_some, Option.map_some, List.isEmpty_cons, Bool.false_and, Bool.false_eq_true, if_false, Rd.run, List.append_nil, Nat.reduceAdd]
end Go.Proofs.YteookeenkjpemaaGreat.R
/- Chapter 32's laws: the program's reader takes a text. -/
namespace Go.Proofs.YteookeenkjpemaaGreat.R
open Go Go.Proofs
open Go.Proofs.YteookeenkjpemaaGreat.Q (Bytes)
set_option linter.unusedSimpArgs false
set_option linter.unusedVariables false
set_option maxRecDepth 10000
set_option maxHeartbeats 1000000

def gt (B : List Int) (most : Nat) (s : Nat × Nat) : ByteArray × (Nat × Nat) :=
  if (tk B 1 s).2.2 ≠ 0 then (ByteArray.empty, (tk B 1 s).2)
  else if most < (tk B 1 s).1 then (ByteArray.empty, (s.1, 4))
  else if B.length - (tk B 1 s).2.1 < (tk B 1 s).1 then (ByteArray.empty, (s.1, 2))
  else (txt ((B.drop (tk B 1 s).2.1).take (tk B 1 s).1), ((tk B 1 s).2.1 + (tk B 1 s).1, 0))
theorem n40 : ((4 : Int) != 0) = true := rfl
theorem n20 : ((2 : Int) != 0) = true := rfl
theorem lim66 (B : List Int) (hb : Bytes B) (hl : B.length < 1000000000000) (m : Nat) (hm : m < 1000) (s : Nat × Nat) (hs : s.1 ≤ B.length) (he : s.2 < 100) : lim T fns 66 [.ptr 0 0 0, .int .i64 m] [rdO B.length s.1 s.2, byO B] =
    some (.str (gt B m s).1, [some (rdO B.length (gt B m s).2.1 (gt B m s).2.2), some (byO B)]) := by
  refine fn_rule (fn := fn66) rfl rfl (by simp [fn66]) ?_
  unfold fn66
  simp only [Tryz.f66, Option.getD_some, argEnv, List.map_nil, List.length_nil]
  have hc := fun (n : Nat) (hn : 2 ≤ n) (rest : Heap) => call109 B hb hl 1 (by decide) s hs he n hn rest
  have hk := tk_lt hb 1 s
  have ha := tk_at (z := 1) hs he
  unfold gt
  generalize tk B 1 s = t at *
  obtain ⟨v, i, e⟩ := t
  obtain ⟨i0, e0⟩ := s
  simp only at hk ha hs he hc ⊢
  have wv : IntKind.i64.wrap (v : Int) = (v : Int) := by rw [IntKind.wrap_i64] <;> omega
  have mx : ((m : Int) < 0) = False := eq_false (by omega)
  simp only [rdO, byO, show ((1 : Nat) : Int) = 1 from rfl] at hc ⊢
  by_cases h0 : e = 0
  · subst h0
    have e1 : ((((0 : Nat) : Int)) != 0) = false := rfl
    have ne : ((0 : Nat) ≠ 0) = False := by simp
    simp only [ne, if_false]
    have wl : IntKind.i64.wrap ((B.length : Int) - (i : Int)) = ((B.length - i : Nat) : Int) := by
      rw [show (B.length : Int) - (i : Int) = ((B.length - i : Nat) : Int) by omega, IntKind.wrap_i64] <;> omega
    by_cases h1 : m < v
    · have g1 : ((v : Int) > (m : Int)) = True := eq_true (by omega)
      simp only [go_sem, T_3, T_5, T_9, T_22, T_24, T_57, T_90, T_139, hc, eqPr, nilCheckR, e1, wv, mx, g1, h1, n40, List.map_cons, List.map_nil]
      show _ = _
      kernel_rfl
    · have g1 : ((v : Int) > (m : Int)) = False := eq_false (by omega)
      by_cases h2 : B.length - i < v
      · have g2 : ((v : Int) > ((B.length - i : Nat) : Int)) = True := eq_true (by omega)
        simp only [go_sem, T_3, T_5, T_9, T_22, T_24, T_57, T_90, T_139, hc, eqPr, nilCheckR, e1, wv, mx, g1, h1, wl, g2, h2, n20, List.map_cons, List.map_nil]
        repeat (refine ⟨by kernel_rfl, ?_⟩)
        show _ = _
        kernel_rfl
      · have g2 : ((v : Int) > ((B.length - i : Nat) : Int)) = False := eq_false (by omega)
        have wz : IntKind.i64.wrap ((i : Int) + (v : Int)) = ((i + v : Nat) : Int) := by
          rw [show (i : Int) + (v : Int) = ((i + v : Nat) : Int) by omega, IntKind.wrap_i64]; omega
        have wy : IntKind.i64.wrap (((i + v : Nat) : Int) - (v : Int)) = (i : Int) := by
          rw [show ((i + v : Nat) : Int) - (v : Int) = (i : Int) by omega, IntKind.wrap_i64]; omega
        have k1 : (i ≤ i + v) = True := eq_true (by omega)
        have k2 : (i + v ≤ B.length) = True := eq_true (by omega)
        have k3 : i + v - i = v := by omega
        have bt : bytesOf (eb ((B.drop i).take v)) = _ := bytesOf_eb _
        have tkd : List.take v (List.drop i (eb B)) = eb ((B.drop i).take v) := by simp [eb, List.map_take, List.map_drop]
        simp only [go_sem, T_3, T_5, T_9, T_22, T_24, T_57, T_90, T_139, hc, eqPr, nilCheckR, e1, wv, mx, g1, h1, wl, g2, h2, wz, wy, natOf_cast, sliceR, cutS, optNat, k1, k2, k3, tkd, bt, bytesR, textR, List.map_cons, List.map_nil, Option.isSome_none, Option.isNone_none, Option.isNone_some, Option.map_none, Bool.and_true, Nat.zero_le, Nat.zero_add]
        show _ = _
        kernel_rfl
  · have e1 : ((e : Int) != 0) = true := by simp; omega
    have ne : (e ≠ 0) = True := eq_true h0
    simp only [go_sem, T_3, T_5, T_9, T_22, T_24, T_57, T_90, T_139, hc, eqPr, nilCheckR, e1, ne, wv, List.map_cons, List.map_nil]
    show _ = _
    kernel_rfl
theorem call66 (B : List Int) (hb : Bytes B) (hl : B.length < 1000000000000) (m : Nat) (hm : m < 1000) (s : Nat × Nat) (hs : s.1 ≤ B.length) (he : s.2 < 100) (n : Nat) (hn : 2 ≤ n) (rest : Heap) : (callV (LX T fns) n (.clo 66 []) [.ptr 0 0 0, .int .i64 m]).run (some (rdO B.length s.1 s.2) :: some (byO B) :: rest) [] =
    some ((.str (gt B m s).1, [(0, some (rdO B.length (gt B m s).2.1 (gt B m s).2.2)), (1, some (byO B))]), [1, 0]) := by
  have h := lim66 B hb hl m hm s hs he
  simp only [rdO, byO] at h ⊢
  have hf : fns 66 = some fn66 := rfl
  unfold callV
  simp only [hf]
  unfold callR
  simp only [fn66, List.cons_append, List.nil_append, List.append_nil, frzArgs, frz, frzAll, frzG, frzGAll, ms2, msUp, List.tail]
  simp only [V.allIds, V.ids, List.append_nil, List.nil_append, collect, List.map_nil, List.contains_nil, Bool.false_eq_true, if_false, Rd.run, Heap.at?, Ob.ids, rowsIds, List.map_cons, List.cons_append, List.contains_cons, Nat.reduceBEq, Bool.or_self, Bool.or_false, Bool.false_or, Bool.or_true, Bool.true_or, if_true]
  unfold withR
  simp only [List.map_cons, List.map_nil, upd1, List.all_nil, List.all_cons, show 0 < n by omega, show 1 < n by omega, decide_true, Bool.and_self, if_true, V.reAll, V.re, idx, Nat.beq, cond_true, cond_false, Option.bind_some, Option.map_some, pullObs, Ob.re, reRows, Nat.reduceAdd, h, List.length_cons, List.length_nil, Nat.le_refl]
  unfold afterR
  simp only [V.re, V.reAll, pushObs, back, nth, Ob.re, reRows, Option.bind_some, Option.map_some, List.isEmpty_cons, Bool.false_and, Bool.false_eq_true, if_false, Rd.run, List.append_nil, Nat.reduceAdd]
theorem gt_at {B : List Int} {m : Nat} {s : Nat × Nat} (hs : s.1 ≤ B.length) (he : s.2 < 100) : (gt B m s).2.1 ≤ B.length ∧ (gt B m s).2.2 < 100 := by
  have ha := tk_at (z := 1) hs he
  unfold gt
  split
  · exact ha
  · split
    · exact ⟨hs, by simp⟩
    · split
      · exact ⟨hs, by simp⟩
      · exact ⟨by simp only; omega, by simp⟩
theorem txt_size (b : List Int) : (txt b).size = b.length := by simp [txt, ByteArray.size]
theorem gt_size {B : List Int} {m : Nat} {s : Nat × Nat} (hs : s.1 ≤ B.length) (he : s.2 < 100) : (gt B m s).1.size ≤ m := by
  have ha := tk_at (z := 1) hs he
  unfold gt
  split
  · exact Nat.zero_le _
  · split
    · exact Nat.zero_le _
    · split
      · exact Nat.zero_le _
      · rw [txt_size, List.length_take, List.length_drop]; omega
theorem failR_at {L x : Nat} {s : Nat × Nat} (hs : s.1 ≤ L) (he : s.2 < 100) (hx : x < 100) : (failR x s).1 ≤ L ∧ (failR x s).2 < 100 := by
  unfold failR
  split
  · exact ⟨hs, hx⟩
  · exact ⟨hs, he⟩
/-- A pair that is read behind a key. -/
def prP (B : List Int) (last : ByteArray) (s : Nat × Nat) : S88 × (Nat × Nat) :=
  let t := tk B 1 s
  let u := if last.size < t.1 then (0, failR 3 t.2) else t
  let a := gt B (16 - u.1) u.2
  let v := gt B 32 a.2
  (⟨last.extract 0 u.1 ++ a.1, v.1⟩, v.2)
theorem lim69 (B : List Int) (hb : Bytes B) (hl : B.length < 1000000000000) (last : ByteArray) (hla : last.size ≤ 16) (s : Nat × Nat) (hs : s.1 ≤ B.length) (he : s.2 < 100) : lim T fns 69 [.ptr 0 0 0, .str last] [rdO B.length s.1 s.2, byO B] =
    some (.agg (k88.enc (prP B last s).1), [some (rdO B.length (prP B last s).2.1 (prP B last s).2.2), some (byO B)]) := by
  refine fn_rule (fn := fn69) rfl rfl (by simp [fn69]) ?_
  unfold fn69
  simp only [Tryz.f69, Option.getD_some, argEnv, List.map_nil, List.length_nil]
  have hc := fun (n : Nat) (hn : 2 ≤ n) (rest : Heap) => call64 B hb hl s hs he n hn rest
  have hk := tk_lt hb 1 s
  have ha := tk_at (z := 1) hs he
  unfold prP
  generalize tk B 1 s = t at *
  obtain ⟨v, i, e⟩ := t
  simp only at hk ha hc ⊢
  have wv : IntKind.i64.wrap (v : Int) = (v : Int) := by rw [IntKind.wrap_i64] <;> omega
  by_cases h1 : last.size < v
  · have g1 : ((v : Int) > (last.size : Int)) = True := eq_true (by omega)
    have hf := fun (n : Nat) (hn : 2 ≤ n) (rest : Heap) => call65 B 3 (i, e) n hn rest
    have z16 : IntKind.i64.wrap (16 - 0) = 16 := by decide
    have c0 : (0 ≤ last.size) = True := eq_true (Nat.zero_le _)
    have hfa := failR_at (L := B.length) (s := (i, e)) (x := 3) ha.1 ha.2 (by decide)
    simp only [h1, if_true]
    generalize failR 3 (i, e) = w at *
    obtain ⟨i2, e2⟩ := w
    have ht := fun (n : Nat) (hn : 2 ≤ n) (rest : Heap) => call66 B hb hl 16 (by decide) (i2, e2) hfa.1 hfa.2 n hn rest
    have hta := gt_at (m := 16) hfa.1 hfa.2
    have hsz := gt_size (B := B) (m := 16) (s := (i2, e2)) hfa.1 hfa.2
    simp only [Nat.sub_zero]
    generalize gt B 16 (i2, e2) = w at *
    obtain ⟨x, i3, e3⟩ := w
    have c9 : ((last.extract 0 0).size + x.size ≤ 9223372036854775807) = True := eq_true (by
      have : (last.extract 0 0).size ≤ last.size := by rw [ByteArray.size_extract]; omega
      simp only at hsz; omega)
    have hu := fun (n : Nat) (hn : 2 ≤ n) (rest : Heap) => call66 B hb hl 32 (by decide) (i3, e3) hta.1 hta.2 n hn rest
    generalize gt B 32 (i3, e3) = w at *
    obtain ⟨y, i4, e4⟩ := w
    simp only [rdO, byO, show ((3 : Nat) : Int) = 3 from rfl, show ((16 : Nat) : Int) = 16 from rfl, show ((32 : Nat) : Int) = 32 from rfl] at hc hf ht hu ⊢
    simp only [go_sem, T_3, T_5, T_9, T_24, T_88, T_90, hc, hf, ht, hu, wv, g1, z16, c0, c9, k88_enc, nt0, sliceR, cutS, optNat, List.map_cons, List.map_nil, Option.isSome_none, Option.isNone_none, Option.isNone_some, Option.map_none, Bool.and_true, Nat.zero_le, Nat.zero_add]
    show _ = _
    kernel_rfl
  · have g1 : ((v : Int) > (last.size : Int)) = False := eq_false (by omega)
    have wq : IntKind.i64.wrap (16 - (v : Int)) = ((16 - v : Nat) : Int) := by
      rw [show (16 : Int) - (v : Int) = ((16 - v : Nat) : Int) by omega, IntKind.wrap_i64] <;> omega
    have c0 : (v ≤ last.size) = True := eq_true (by omega)
    have ht := fun (n : Nat) (hn : 2 ≤ n) (rest : Heap) => call66 B hb hl (16 - v) (by omega) (i, e) ha.1 ha.2 n hn rest
    have hta := gt_at (B := B) (m := 16 - v) (s := (i, e)) ha.1 ha.2
    have hsz := gt_size (B := B) (m := 16 - v) (s := (i, e)) ha.1 ha.2
    simp only [h1, if_false]
    generalize gt B (16 - v) (i, e) = w at *
    obtain ⟨x, i3, e3⟩ := w
    have c9 : ((last.extract 0 v).size + x.size ≤ 9223372036854775807) = True := eq_true (by
      have : (last.extract 0 v).size ≤ last.size := by rw [ByteArray.size_extract]; omega
      simp only at hsz; omega)
    have hu := fun (n : Nat) (hn : 2 ≤ n) (rest : Heap) => call66 B hb hl 32 (by decide) (i3, e3) hta.1 hta.2 n hn rest
    generalize gt B 32 (i3, e3) = w at *
    obtain ⟨y, i4, e4⟩ := w
    simp only [rdO, byO, show ((32 : Nat) : Int) = 32 from rfl] at hc ht hu ⊢
    simp only [go_sem, T_3, T_5, T_9, T_24, T_88, T_90, hc, ht, hu, wv, g1, wq, c0, c9, natOf_cast, k88_enc, sliceR, cutS, optNat, List.map_cons, List.map_nil, Option.isSome_none, Option.isNone_none, Option.isNone_some, Option.map_none, Bool.and_true, Nat.zero_le, Nat.zero_add]
    show _ = _
    kernel_rfl
theorem call69 (B : List Int) (hb : Bytes B) (hl : B.length < 1000000000000) (last : ByteArray) (hla : last.size ≤ 16) (s : Nat × Nat) (hs : s.1 ≤ B.length) (he : s.2 < 100) (n : Nat) (hn : 2 ≤ n) (rest : Heap) : (callV (LX T fns) n (.clo 69 []) [.ptr 0 0 0, .str last]).run (some (rdO B.length s.1 s.2) :: some (byO B) :: rest) [] =
    some ((.agg (k88.enc (prP B last s).1), [(0, some (rdO B.length (prP B last s).2.1 (prP B last s).2.2)), (1, some (byO B))]), [1, 0]) := by
  have h := lim69 B hb hl last hla s hs he
  simp only [rdO, byO, k88_enc] at h ⊢
  have hf : fns 69 = some fn69 := rfl
  unfold callV
  simp only [hf]
  unfold callR
  simp only [fn69, List.cons_append, List.nil_append, List.append_nil, frzArgs, frz, frzAll, frzG, frzGAll, ms2, msUp, List.tail]
  simp only [V.allIds, V.ids, List.append_nil, List.nil_append, collect, List.map_nil, List.contains_nil, Bool.false_eq_true, if_false, Rd.run, Heap.at?, Ob.ids, rowsIds, List.map_cons, List.cons_append, List.contains_cons, Nat.reduceBEq, Bool.or_self, Bool.or_false, Bool.false_or, Bool.or_true, Bool.true_or, if_true]
  unfold withR
  simp only [List.map_cons, List.map_nil, upd1, List.all_nil, List.all_cons, show 0 < n by omega, show 1 < n by omega, decide_true, Bool.and_self, if_true, V.reAll, V.re, idx, Nat.beq, cond_true, cond_false, Option.bind_some, Option.map_some, pullObs, Ob.re, reRows, Nat.reduceAdd, h, List.length_cons, List.length_nil, Nat.le_refl]
  unfold afterR
  simp only [V.re, V.reAll, pushObs, back, nth, Ob.re, reRows, Option.bind_some, Option.map_some, List.isEmpty_cons, Bool.false_and, Bool.false_eq_true, if_false, Rd.run, List.append_nil, Nat.reduceAdd]
theorem prP_at {B : List Int} (hb : Bytes B) {last : ByteArray} {s : Nat × Nat} (hla : last.size ≤ 16) (hs : s.1 ≤ B.length) (he : s.2 < 100) : (prP B last s).2.1 ≤ B.length ∧ (prP B last s).2.2 < 100 ∧ (prP B last s).1.f0.size ≤ 16 ∧ (prP B last s).1.f1.size ≤ 32 := by
  have ha := tk_at (z := 1) hs he
  unfold prP
  simp only
  by_cases h1 : last.size < (tk B 1 s).1
  · rw [if_pos h1]
    have hfa := failR_at (L := B.length) (s := (tk B 1 s).2) (x := 3) ha.1 ha.2 (by decide)
    have h2 := gt_at (B := B) (m := 16) hfa.1 hfa.2
    have h3 := gt_size (B := B) (m := 16) hfa.1 hfa.2
    have h4 := gt_at (B := B) (m := 32) h2.1 h2.2
    have h5 := gt_size (B := B) (m := 32) h2.1 h2.2
    refine ⟨h4.1, h4.2, ?_, h5⟩
    rw [ByteArray.size_append, ByteArray.size_extract]
    simp only [Nat.sub_zero]
    omega
  · rw [if_neg h1]
    have h2 := gt_at (B := B) (m := 16 - (tk B 1 s).1) ha.1 ha.2
    have h3 := gt_size (B := B) (m := 16 - (tk B 1 s).1) ha.1 ha.2
    have h4 := gt_at (B := B) (m := 32) h2.1 h2.2
    have h5 := gt_size (B := B) (m := 32) h2.1 h2.2
    refine ⟨h4.1, h4.2, ?_, h5⟩
    rw [ByteArray.size_append, ByteArray.size_extract]
    omega
end Go.Proofs.YteookeenkjpemaaGreat.R
/- Chapter 32's laws: the program reads volumes. -/
namespace Go.Proofs.YteookeenkjpemaaGreat.R
open Go Go.Proofs
open Go.Proofs.YteookeenkjpemaaGreat.Q (Bytes)
set_option linter.unusedSimpArgs false
set_option linter.unusedVariables false
set_option maxRecDepth 10000
set_option maxHeartbeats 1000000

def prs (B : List Int) : Nat → ByteArray → List S88 → Nat × Nat → List S88 × (Nat × Nat)
  | 0, _, ps, s => (ps, s)
  | k + 1, last, ps, s => if B.length - (prP B last s).2.1 = B.length - s.1 then (ps, (prP B last s).2) else prs B k (prP B last s).1.f0 (ps ++ [(prP B last s).1]) (prP B last s).2
def whP (B : List Int) (s : Nat × Nat) : S49 × (Nat × Nat) :=
  let r := prs B (tk B 4 (gt B 16 s).2).1 ByteArray.empty [] (tk B 4 (gt B 16 s).2).2
  (⟨(gt B 16 s).1, r.1⟩, r.2)
def whs (B : List Int) : Nat → List S49 → Nat × Nat → List S49 × (Nat × Nat)
  | 0, l, s => (l, s)
  | k + 1, l, s => whs B k (l ++ [(whP B s).1]) (whP B s).2
def volP (B : List Int) (s : Nat × Nat) : List S49 × (Nat × Nat) :=
  if 16 < (tk B 1 s).1 then ([], failR 13 (tk B 1 s).2) else whs B (tk B 1 s).1 [] (tk B 1 s).2
theorem finish_ms2 {n st : Nat} {c : Option Nat} {rows : List (List V)} {f : Bool} {L a e : Nat} {B : List Int} {rest : Heap} (hl : n = rows.length) :
    finish 2 true (.ms 2 st 0 n c) (some (rdO L a e) :: some (byO B) :: some (.buf st rows f true) :: rest) = some (.fz rows, [some (rdO L a e), some (byO B)]) := by
  subst hl
  unfold finish
  simp only [if_true, frz, frzAll, frzG, frzGAll, ms2, msUp, Rd.run, Heap.at?]
  rw [if_pos ⟨trivial, by omega⟩]
  simp only [Rd.run, List.drop_zero, List.take_length, Option.map_some, Option.bind_some, rdO, byO]
  rfl
theorem frzGAll_51 {α : Type} (ms : Nat → Nat → Nat → Nat → (V → Upd → Rd α) → Rd α) (x : S49) (k : List V → Upd → Rd α) : frzGAll ms (k49.enc x) k = k (k49.enc x) [] := by simp [k49_enc, frzGAll, frzG]
theorem frzGRows_51 {α : Type} (ms : Nat → Nat → Nat → Nat → (V → Upd → Rd α) → Rd α) : ∀ (l : List S49) (r : List (List V)) (k : List (List V) → Upd → Rd α), frzGRows ms (l.map k49.enc ++ r) k = frzGRows ms r (fun rows u => k (l.map k49.enc ++ rows) u)
  | [], r, k => rfl
  | x :: l, r, k => by
    rw [List.map_cons, List.cons_append, frzGRows, frzGAll_51, frzGRows_51 ms l r]
    simp
theorem cells51 (x : S49) : ((k49.enc x).all fun v => v.isCell && !v.hasIds) = true := rfl
theorem allcells51 (l : List S49) : ((l.map k49.enc).all fun r => r.all fun v => v.isCell && !v.hasIds) = true := by
  rw [List.all_eq_true]
  intro r hr
  obtain ⟨x, _, rfl⟩ := List.mem_map.1 hr
  exact cells51 x
theorem soft14 {E : Env} {H : Heap} {p : Nat} {l : List S49} {nm : ByteArray} {ps : List S88} (h3 : lk E 3 = .ms p 2 0 (l.length + 1) none) (hp : H.at? p = some (.buf 2 (l.map k49.enc ++ [[.str nm, .ms 4 2 0 ps.length none]]) false false))
    (h4 : H.at? 4 = some (.buf 2 (ps.map k88.enc) false true)) (hne : (4 != p) = true) :
    soft 3 ⟨E, H⟩ = ⟨E, (H.put 4 (some (.buf 2 (ps.map k88.enc) true true))).put p (some (.buf 2 ((l ++ [S49.mk nm ps]).map k49.enc) false true))⟩ := by
  have hs : softOb 3 ⟨E, H⟩ = some (p, .buf 2 ((l ++ [S49.mk nm ps]).map k49.enc) false true, [(4, some (.buf 2 (ps.map k88.enc) true true))]) := by
    unfold softOb
    simp only [h3, hp]
    rw [frzGRows_51]
    simp only [frzGRows, frzGAll, frzG, ms1, msUp, Rd.run, h4, List.length_map, Nat.zero_add, Nat.le_refl, and_self, if_true, List.drop_zero]
    rw [List.take_of_length_le (by simp)]
    have ha : (((l ++ [S49.mk nm ps]).map k49.enc).all fun r => r.all fun v => v.isCell && !v.hasIds) = true := allcells51 _
    have he : l.map k49.enc ++ [[.str nm, .fz (ps.map k88.enc)]] = (l ++ [S49.mk nm ps]).map k49.enc := by rw [List.map_append]; rfl
    simp only [List.nil_append, List.append_nil, he, ha, List.all_cons, List.all_nil, hne, Bool.and_self, if_true]
  unfold soft
  rw [hs]
  rfl
theorem head14 {E : Env} {H : Heap} {p : Nat} {l : List S49} {nm : ByteArray} {ps : List S88} (h3 : lk E 3 = .ms p 2 0 (l.length + 1) none) (hp : H.at? p = some (.buf 2 (l.map k49.enc ++ [[.str nm, .ms 4 2 0 ps.length none]]) false false))
    (h4 : H.at? 4 = some (.buf 2 (ps.map k88.enc) false true)) (hne : (4 != p) = true) (t : St) (hg : gc 2 [0, 3, 18, 19] ⟨E, (H.put 4 (some (.buf 2 (ps.map k88.enc) true true))).put p (some (.buf 2 ((l ++ [S49.mk nm ps]).map k49.enc) false true))⟩ = some t) :
    head 2 (some ⟨0, [0, 3, 18, 19], [(3, none, 2), (3, some 1000000, 0)]⟩) ⟨E, H⟩ = some t := by
  unfold head
  simp only [thaw, h3, if_true, soft14 h3 hp h4 hne]
  exact hg
theorem lim30 (B : List Int) (hb : Bytes B) (hl : B.length < 1000000000000) (s : Nat × Nat) (hs : s.1 ≤ B.length) (he : s.2 < 100) : lim T fns 30 [.ptr 0 0 0] [rdO B.length s.1 s.2, byO B] =
    some (.fz ((volP B s).1.map k49.enc), [some (rdO B.length (volP B s).2.1 (volP B s).2.2), some (byO B)]) := by
  refine fn_rule (fn := fn30) rfl rfl (by simp [fn30]) ?_
  unfold fn30
  simp only [Tryz.f30, Option.getD_some, argEnv, List.map_nil, List.length_nil]
  have hc := fun (n : Nat) (hn : 2 ≤ n) (rest : Heap) => call64 B hb hl s hs he n hn rest
  have hk := tk_lt hb 1 s
  have ha := tk_at (z := 1) hs he
  unfold volP
  generalize tk B 1 s = t at *
  obtain ⟨v, s1⟩ := t
  simp only at hk ha hc ⊢
  have wv : IntKind.i64.wrap (v : Int) = (v : Int) := by rw [IntKind.wrap_i64] <;> omega
  by_cases h1 : 16 < v
  · have g1 : ((v : Int) > 16) = True := eq_true (by omega)
    have hf := fun (n : Nat) (hn : 2 ≤ n) (rest : Heap) => call65 B 13 s1 n hn rest
    simp only [h1, if_true]
    simp only [rdO, byO, show ((13 : Nat) : Int) = 13 from rfl] at hc hf ⊢
    simp only [go_sem, T_1, T_3, T_5, T_9, T_24, T_29, T_41, T_45, T_49, T_88, T_90, hc, hf, wv, g1, List.map_cons, List.map_nil]
    show _ = _
    kernel_rfl
  · have g1 : ((v : Int) > 16) = False := eq_false (by omega)
    simp only [h1, if_false]
    simp only [rdO, byO] at hc ⊢
    simp only [go_sem, T_1, T_3, T_5, T_9, T_24, T_29, T_41, T_45, T_49, T_88, T_90, hc, wv, g1, List.map_cons, List.map_nil]
    refine loop_rule (ι := Nat × List S49 × (Nat × Nat)) (S := fun p => ⟨[(0, .ptr 0 0 0), (3, .ms 2 2 0 p.2.1.length none), (18, .int .i64 v), (19, .int .i64 (p.1 : Nat))], [some (rdO B.length p.2.2.1 p.2.2.2), some (byO B), some (.buf 2 (p.2.1.map k49.enc) false true)]⟩) (m := fun p => v + 1 - p.1)
      (I := fun p => p.1 ≤ v ∧ p.2.1.length = p.1 ∧ p.2.2.1 ≤ B.length ∧ p.2.2.2 < 100 ∧ whs B (v - p.1) p.2.1 p.2.2 = whs B v [] s1) ?_ (0, [], s1) _ ⟨by omega, rfl, ha.1, ha.2, rfl⟩ rfl
    rintro ⟨i, l, s2⟩ ⟨hi, hlen, hs2, he2, hg⟩
    simp only at hi hlen hs2 he2 hg ⊢
    by_cases hlt : i < v
    · have hlt' : ((i : Int) < (v : Int)) := by omega
      rw [show v - i = (v - (i + 1)) + 1 by omega, whs] at hg
      have hc1 := fun (n : Nat) (hn : 2 ≤ n) (rest : Heap) => call66 B hb hl 16 (by decide) s2 hs2 he2 n hn rest
      have hs3 := gt_at (B := B) (m := 16) hs2 he2
      have hn1 := gt_size (B := B) (m := 16) hs2 he2
      unfold whP at hg
      generalize gt B 16 s2 = t at *
      obtain ⟨nm, s3⟩ := t
      simp only at hs3 hg hc1 hn1
      have hc2 := fun (n : Nat) (hn : 2 ≤ n) (rest : Heap) => call67 B hb hl s3 hs3.1 hs3.2 n hn rest
      have hs4 := tk_at (B := B) (z := 4) hs3.1 hs3.2
      have hm4 := tk_lt hb 4 s3
      generalize tk B 4 s3 = t at *
      obtain ⟨m, s4⟩ := t
      simp only at hs4 hg hc2 hm4
      simp only [rdO, byO, show ((16 : Nat) : Int) = 16 from rfl] at hc1 hc2 ⊢
      simp only [go_sem, T_1, T_3, T_5, T_9, T_24, T_29, T_41, T_45, T_49, T_88, T_90, hlt', hc1, hc2]
      refine loop_rule (ι := Nat × ByteArray × List S88 × (Nat × Nat)) (S := fun p => ⟨[(0, .ptr 0 0 0), (3, .ms 2 2 0 l.length none), (5, .ptr 3 0 0), (6, .str p.2.1), (7, .int .u32 (p.1 : Nat)), (18, .int .i64 v), (19, .int .i64 i)], [some (rdO B.length p.2.2.2.1 p.2.2.2.2), some (byO B), some (.buf 2 (l.map k49.enc) false true), some (.buf 2 [[.str nm, .ms 4 2 0 p.2.2.1.length none]] false false), some (.buf 2 (p.2.2.1.map k88.enc) false true)]⟩) (m := fun p => p.1)
        (I := fun p => p.1 ≤ m ∧ p.2.1.size ≤ 16 ∧ p.2.2.1.length ≤ m - p.1 ∧ p.2.2.2.1 ≤ B.length ∧ p.2.2.2.2 < 100 ∧ prs B p.1 p.2.1 p.2.2.1 p.2.2.2 = prs B m ByteArray.empty [] s4) ?_ (m, ByteArray.empty, [], s4) _ ⟨by omega, Nat.zero_le _, by simp, hs4.1, hs4.2, rfl⟩ rfl
      rintro ⟨k, last, ps, s5⟩ ⟨hk1, hla, hpl, hs5, he5, hh⟩
      simp only at hk1 hla hpl hs5 he5 hh ⊢
      cases k with
      | zero =>
        have g0 : ((((0 : Nat) : Int)) > 0) = False := by simp
        rw [prs] at hh
        rw [← hh] at hg
        simp only [rdO, byO]
        simp only [go_sem, T_1, T_3, T_5, T_9, T_24, T_29, T_41, T_45, T_49, T_88, T_90, g0, appL_some, show (l.length + 1) * 40 ≤ 140737488355328 by omega, show l.length + 1 ≤ 140737488355328 by omega, wrap_i64s (show i < 1000000000000000000 by omega)]
        refine ⟨(i + 1, l ++ [⟨nm, ps⟩], s5), ⟨by simp only; omega, by simp [hlen], hs5, he5, hg⟩, by simp only; omega, ?_⟩
        exact head14 rfl rfl rfl rfl _ (by simp only [List.length_append, List.length_cons, List.length_nil]; kernel_rfl)
      | succ k =>
        have g0 : ((((k + 1 : Nat) : Int)) > 0) = True := eq_true (by omega)
        rw [prs] at hh
        have hc3 := fun (n : Nat) (hn : 2 ≤ n) (rest : Heap) => call68 B hl s5 hs5 n hn rest
        have hc4 := fun (n : Nat) (hn : 2 ≤ n) (rest : Heap) => call69 B hb hl last hla s5 hs5 he5 n hn rest
        have hs6 := prP_at hb hla hs5 he5
        generalize prP B last s5 = t at *
        obtain ⟨pr, s6⟩ := t
        simp only at hs6 hh hc4
        have hc5 := fun (n : Nat) (hn : 2 ≤ n) (rest : Heap) => call68 B hl s6 hs6.1 n hn rest
        by_cases hq : B.length - s6.1 = B.length - s5.1
        · rw [if_pos hq] at hh
          have gq : (((B.length - s6.1 : Nat) : Int) == ((B.length - s5.1 : Nat) : Int)) = true := by simp [hq]
          simp only [rdO, byO] at hc3 hc4 hc5 ⊢
          simp only [go_sem, T_1, T_3, T_5, T_9, T_24, T_29, T_41, T_45, T_49, T_88, T_90, g0, hc3, hc4, hc5, gq, k88_enc, appL_some, show (l.length + 1) * 40 ≤ 140737488355328 by omega, show l.length + 1 ≤ 140737488355328 by omega, wrap_i64s (show i < 1000000000000000000 by omega)]
          rw [← hh] at hg
          refine ⟨(i + 1, l ++ [⟨nm, ps⟩], s6), ⟨by simp only; omega, by simp [hlen], hs6.1, hs6.2.1, hg⟩, by simp only; omega, ?_⟩
          exact head14 rfl rfl rfl rfl _ (by simp only [List.length_append, List.length_cons, List.length_nil]; kernel_rfl)
        · rw [if_neg hq] at hh
          have wk : IntKind.u32.wrap (((k + 1 : Nat) : Int) - 1) = (k : Int) := by
            rw [show ((k + 1 : Nat) : Int) - 1 = (k : Int) by omega]; exact wu32 (by omega)
          have gq : (((B.length - s6.1 : Nat) : Int) == ((B.length - s5.1 : Nat) : Int)) = false := by
            simp only [beq_eq_false_iff_ne, ne_eq]; omega
          simp only [rdO, byO] at hc3 hc4 hc5 ⊢
          simp only [go_sem, T_1, T_3, T_5, T_9, T_24, T_29, T_41, T_45, T_49, T_88, T_90, g0, hc3, hc4, hc5, gq, k88_enc, wk, appL_some, show (ps.length + 1) * 32 ≤ 140737488355328 by omega, show ps.length + 1 ≤ 140737488355328 by omega]
          refine ⟨(k, pr.f0, ps ++ [pr], s6), ⟨by simp only; omega, hs6.2.2.1, by simp only [List.length_append, List.length_cons, List.length_nil]; omega, hs6.1, hs6.2.1, hh⟩, by simp only; omega, ?_⟩
          simp only [List.length_append, List.length_cons, List.length_nil, List.map_append, List.map_cons, List.map_nil, k88_enc]
          show _ = _
          kernel_rfl
    · have : i = v := by omega
      subst this
      rw [Nat.sub_self, whs] at hg
      rw [← hg]
      have gi : ((i : Int) < (i : Int)) = False := by simp
      simp only [go_sem, T_1, T_3, T_5, T_9, T_24, T_29, T_41, T_45, T_49, T_88, T_90, gi]
      rw [finish_ms2 (by simp)]
      rfl
end Go.Proofs.YteookeenkjpemaaGreat.R
/- Chapter 32's laws: the document's reader. -/
namespace Go.Proofs.YteookeenkjpemaaGreat.R
open Go Go.Proofs
open Go.Proofs.YteookeenkjpemaaGreat.Q (Bytes)
set_option linter.unusedSimpArgs false
set_option linter.unusedVariables false
set_option maxRecDepth 10000
set_option maxHeartbeats 1000000

def docR (B : List Int) (s : Nat × Nat) : V := .agg [.fz (eb B), .int .i64 (s.1 : Nat), .int .i64 (s.2 : Nat)]
theorem lim15 (B : List Int) (hb : Bytes B) (hl : B.length < 1000000000000) (z : Nat) (hz : z ≤ 4) (s : Nat × Nat) (hs : s.1 ≤ B.length) (he : s.2 < 100) : lim T fns 15 [docR B s, .int .i64 z] [] = some (.tup [.int .u64 (tk B z s).1, docR B (tk B z s).2], []) := by
  refine fn_rule (fn := fn15) rfl rfl (by simp [fn15]) ?_
  unfold fn15
  simp only [Tryz.f15, Option.getD_some, argEnv, List.map_nil, List.length_nil]
  obtain ⟨i, e⟩ := s
  simp only at hs he
  by_cases h0 : e = 0
  · subst h0
    have wl : IntKind.i64.wrap ((B.length : Int) - (i : Int)) = ((B.length - i : Nat) : Int) := by
      rw [show (B.length : Int) - (i : Int) = ((B.length - i : Nat) : Int) by omega, IntKind.wrap_i64] <;> omega
    have e1 : ((((0 : Nat) : Int)) != 0) = false := rfl
    by_cases h1 : B.length < i + z
    · have g1 : (((B.length - i : Nat) : Int) < (z : Int)) = True := eq_true (by omega)
      have ht : tk B z (i, 0) = (0, (i, 2)) := by simp [tk, h1]
      rw [ht]
      simp only [docR]
      simp only [go_sem, T_3, T_5, T_22, T_57, T_59, ebl, wl, g1, e1, List.map_cons, List.map_nil]
      repeat (refine ⟨by kernel_rfl, ?_⟩)
      show _ = _
      kernel_rfl
    · have g1 : (((B.length - i : Nat) : Int) < (z : Int)) = False := eq_false (by omega)
      have ht : tk B z (i, 0) = (nv ((B.drop i).take z) 0, (i + z, 0)) := by simp [tk, h1]
      have wz : IntKind.i64.wrap ((i : Int) + (z : Int)) = ((i + z : Nat) : Int) := by
        rw [show (i : Int) + (z : Int) = ((i + z : Nat) : Int) by omega, IntKind.wrap_i64]; omega
      rw [ht]
      simp only [docR]
      simp only [go_sem, T_3, T_5, T_22, T_57, T_59, ebl, wl, g1, e1, List.map_cons, List.map_nil]
      repeat (refine ⟨by kernel_rfl, ?_⟩)
      refine loop_rule (ι := Nat × Nat) (S := fun p => ⟨[(1, .int .i64 z), (2, .ptr 0 0 0), (5, .ptr 1 0 0), (6, .int .u64 (p.2 : Nat)), (7, .int .i64 (p.1 : Nat))], [some (.buf 3 [[.fz (eb B), .int .i64 i, .int .i64 (0 : Nat)]] false true), some (.buf 3 [[.nils, .int .i64 0, .int .i64 0]] false true)]⟩) (m := fun p => z + 1 - p.1)
        (I := fun p => p.1 ≤ z ∧ p.2 < 256 ^ p.1 ∧ nv ((B.drop (i + p.1)).take (z - p.1)) p.2 = nv ((B.drop i).take z) 0) ?_ (0, 0) _ ⟨by omega, by simp, by simp⟩ rfl
      rintro ⟨j, x⟩ ⟨hj, hx, hg⟩
      simp only at hj hx hg ⊢
      by_cases hlt : j < z
      · have hlt' : ((j : Int) < (z : Int)) := by omega
        have hij : i + j < B.length := by omega
        rw [List.drop_eq_getElem_cons hij, show z - j = (z - (j + 1)) + 1 by omega, List.take_succ_cons, nv] at hg
        have hbi := hb B[i + j] (List.getElem_mem _)
        have hxi : B[i + j]? = some B[i + j] := List.getElem?_eq_getElem hij
        obtain ⟨c, hc⟩ := Int.eq_ofNat_of_zero_le hbi.1
        rw [hc] at hxi hbi hg
        have hx2 : x < 72057594037927936 := Nat.lt_of_lt_of_le hx (by
          have : 256 ^ j ≤ 256 ^ 4 := Nat.pow_le_pow_right (by decide) (by omega)
          omega)
        have wc := wu64 (show c < 18446744073709551616 by omega)
        have wij : IntKind.i64.wrap ((i : Int) + (j : Int)) = ((i + j : Nat) : Int) := by
          rw [show (i : Int) + (j : Int) = ((i + j : Nat) : Int) by omega, IntKind.wrap_i64]; omega
        have m1 : IntKind.u64.wrap (256 * (x : Int)) = ((x * 256 : Nat) : Int) := by
          rw [show (256 * (x : Int)) = ((x * 256 : Nat) : Int) by omega]; exact wu64 (by omega)
        have m2 : IntKind.u64.wrap (((x * 256 : Nat) : Int) + (c : Int)) = ((x * 256 + c : Nat) : Int) := by
          rw [show (((x * 256 : Nat) : Int) + (c : Int)) = ((x * 256 + c : Nat) : Int) by omega]; exact wu64 (by omega)
        simp only [go_sem, T_3, T_5, T_22, T_57, T_59, hlt, hlt', wij, hxi, eb_enc, alleb, wc, m1, m2, hij, ebl, wrap_i64s (show j < 1000000000000000000 by omega)]
        exact ⟨(j + 1, x * 256 + c), ⟨by simp only; omega, by simp only [Nat.pow_succ]; omega, hg⟩, by simp only; omega, rfl⟩
      · have : j = z := by omega
        subst this
        rw [Nat.sub_self, List.take_zero, nv] at hg
        rw [← hg]
        have gj : ((j : Int) < (j : Int)) = False := by simp
        simp only [go_sem, T_3, T_5, T_22, T_57, T_59, gj, wz]
  · have e1 : ((e : Int) != 0) = true := by simp; omega
    have ht : tk B z (i, e) = (0, (i, e)) := by simp [tk, h0]
    rw [ht]
    simp only [docR]
    simp only [go_sem, T_3, T_5, T_22, T_57, T_59, List.map_cons, List.map_nil, e1, h0]
    repeat (refine ⟨by kernel_rfl, ?_⟩)
    show _ = _
    kernel_rfl
theorem call15 (B : List Int) (hb : Bytes B) (hl : B.length < 1000000000000) (z : Nat) (hz : z ≤ 4) (s : Nat × Nat) (hs : s.1 ≤ B.length) (he : s.2 < 100) (n : Nat) : callV (LX T fns) n (.clo 15 []) [docR B s, .int .i64 z] = .pure (.tup [.int .u64 (tk B z s).1, docR B (tk B z s).2], []) :=
  callV_plain (fn := fn15) rfl rfl rfl (lim15 B hb hl z hz s hs he) n
theorem lim17 (B : List Int) (hl : B.length < 1000000000000) (s : Nat × Nat) : lim T fns 17 [docR B s] [] = some (.int .i64 (endR B.length s), []) := by
  refine fn_rule (fn := fn17) rfl rfl (by simp [fn17]) ?_
  unfold fn17
  simp only [Tryz.f17, Option.getD_some, argEnv, List.map_nil, List.length_nil]
  obtain ⟨i, e⟩ := s
  simp only [docR, endR]
  by_cases h0 : e = 0
  · subst h0
    have e1 : ((((0 : Nat) : Int)) == 0) = true := rfl
    by_cases h1 : i < B.length
    · have g1 : ((i : Int) < (B.length : Int)) = True := eq_true (by omega)
      simp only [go_sem, T_3, T_5, T_22, T_59, ebl, e1, g1, h1, List.map_cons, List.map_nil]
      rfl
    · have g1 : ((i : Int) < (B.length : Int)) = False := eq_false (by omega)
      simp only [go_sem, T_3, T_5, T_22, T_59, ebl, e1, g1, h1, List.map_cons, List.map_nil]
  · have e1 : ((e : Int) == 0) = false := by simp; omega
    simp only [go_sem, T_3, T_5, T_22, T_59, e1, h0, List.map_cons, List.map_nil]
    rw [if_neg (by simp)]
theorem call17 (B : List Int) (hl : B.length < 1000000000000) (s : Nat × Nat) (n : Nat) : callV (LX T fns) n (.clo 17 []) [docR B s] = .pure (.int .i64 (endR B.length s), []) := callV_plain (fn := fn17) rfl rfl rfl (lim17 B hl s) n
theorem lim44 (B : List Int) (hb : Bytes B) (hl : B.length < 1000000000000) (m : Nat) (hm : m < 1000) (s : Nat × Nat) (hs : s.1 ≤ B.length) (he : s.2 < 100) : lim T fns 44 [docR B s, .int .i64 m] [] = some (.tup [.str (gt B m s).1, docR B (gt B m s).2], []) := by
  refine fn_rule (fn := fn44) rfl rfl (by simp [fn44]) ?_
  unfold fn44
  simp only [Tryz.f44, Option.getD_some, argEnv, List.map_nil, List.length_nil]
  have hc := fun (n : Nat) => call15 B hb hl 1 (by decide) s hs he n
  have hk := tk_lt hb 1 s
  have ha := tk_at (z := 1) hs he
  unfold gt
  generalize tk B 1 s = t at *
  obtain ⟨v, i, e⟩ := t
  obtain ⟨i0, e0⟩ := s
  simp only at hk ha hs he hc ⊢
  have wv : IntKind.i64.wrap (v : Int) = (v : Int) := by rw [IntKind.wrap_i64] <;> omega
  have mx : ((m : Int) < 0) = False := eq_false (by omega)
  simp only [docR, show ((1 : Nat) : Int) = 1 from rfl] at hc ⊢
  by_cases h0 : e = 0
  · subst h0
    have e1 : ((((0 : Nat) : Int)) != 0) = false := rfl
    have ne : ((0 : Nat) ≠ 0) = False := by simp
    simp only [ne, if_false]
    have wl : IntKind.i64.wrap ((B.length : Int) - (i : Int)) = ((B.length - i : Nat) : Int) := by
      rw [show (B.length : Int) - (i : Int) = ((B.length - i : Nat) : Int) by omega, IntKind.wrap_i64] <;> omega
    by_cases h1 : m < v
    · have g1 : ((v : Int) > (m : Int)) = True := eq_true (by omega)
      simp only [go_sem, T_3, T_5, T_9, T_22, T_57, T_59, hc, e1, wv, mx, g1, h1, n40, List.map_cons, List.map_nil]
      repeat (refine ⟨by kernel_rfl, ?_⟩)
      show _ = _
      kernel_rfl
    · have g1 : ((v : Int) > (m : Int)) = False := eq_false (by omega)
      by_cases h2 : B.length - i < v
      · have g2 : ((v : Int) > ((B.length - i : Nat) : Int)) = True := eq_true (by omega)
        simp only [go_sem, T_3, T_5, T_9, T_22, T_57, T_59, hc, e1, wv, mx, g1, h1, wl, g2, h2, n20, ebl, List.map_cons, List.map_nil]
        repeat (refine ⟨by kernel_rfl, ?_⟩)
        show _ = _
        kernel_rfl
      · have g2 : ((v : Int) > ((B.length - i : Nat) : Int)) = False := eq_false (by omega)
        have wz : IntKind.i64.wrap ((i : Int) + (v : Int)) = ((i + v : Nat) : Int) := by
          rw [show (i : Int) + (v : Int) = ((i + v : Nat) : Int) by omega, IntKind.wrap_i64]; omega
        have k1 : (i ≤ i + v) = True := eq_true (by omega)
        have k2 : (i + v ≤ B.length) = True := eq_true (by omega)
        have k3 : i + v - i = v := by omega
        have bt := bytesR_eb ((B.drop i).take v)
        have tkd : List.take v (List.drop i (eb B)) = eb ((B.drop i).take v) := by simp [eb, List.map_take, List.map_drop]
        simp only [go_sem, T_3, T_5, T_9, T_22, T_57, T_59, hc, e1, wv, mx, g1, h1, wl, g2, h2, wz, natOf_cast, sliceR, cutS, optNat, k1, k2, k3, tkd, bt, ebl, alleb, List.map_cons, List.map_nil, Option.isSome_none, Option.isNone_none, Option.isNone_some, Option.map_none, Bool.and_true, Nat.zero_le, Nat.zero_add]
  · have e1 : ((e : Int) != 0) = true := by simp; omega
    have ne : (e ≠ 0) = True := eq_true h0
    simp only [go_sem, T_3, T_5, T_9, T_22, T_57, T_59, hc, e1, ne, wv, List.map_cons, List.map_nil]
    repeat (refine ⟨by kernel_rfl, ?_⟩)
    show _ = _
    kernel_rfl
theorem call44 (B : List Int) (hb : Bytes B) (hl : B.length < 1000000000000) (m : Nat) (hm : m < 1000) (s : Nat × Nat) (hs : s.1 ≤ B.length) (he : s.2 < 100) (n : Nat) : callV (LX T fns) n (.clo 44 []) [docR B s, .int .i64 m] = .pure (.tup [.str (gt B m s).1, docR B (gt B m s).2], []) :=
  callV_plain (fn := fn44) rfl rfl rfl (lim44 B hb hl m hm s hs he) n
def orn (B : List Int) : Nat → ByteArray → List S88 → Nat × Nat → List S88 × (Nat × Nat)
  | 0, _, ps, s => (ps, s)
  | k + 1, last, ps, s => if s.2 ≠ 0 then (ps, s) else
    if (tk B 1 s).2.2 = 0 ∧ last.size < (tk B 1 s).1 then (ps, ((tk B 1 s).2.1, 3)) else
    if (tk B 1 s).2.2 ≠ 0 then (ps, (tk B 1 s).2) else
    let a := gt B (16 - (tk B 1 s).1) (tk B 1 s).2
    let v := gt B 32 a.2
    orn B k (last.extract 0 (tk B 1 s).1 ++ a.1) (ps ++ [⟨last.extract 0 (tk B 1 s).1 ++ a.1, v.1⟩]) v.2
def oneP (B : List Int) (s : Nat × Nat) : S49 × (Nat × Nat) :=
  let r := orn B (tk B 4 (gt B 16 s).2).1 ByteArray.empty [] (tk B 4 (gt B 16 s).2).2
  (⟨(gt B 16 s).1, r.1⟩, r.2)
theorem finish19 {H : Heap} {nm : ByteArray} {ps : List S88} {B : List Int} {a e : Nat} (hat : H.at? 4 = some (.buf 2 (ps.map k88.enc) false true)) :
    finish 0 true (.tup [.agg [.str nm, .ms 4 2 0 ps.length none], .agg [.fz (eb B), .int .i64 a, .int .i64 e]]) H = some (.tup [.agg (k49.enc ⟨nm, ps⟩), .agg [.fz (eb B), .int .i64 a, .int .i64 e]], []) := by
  refine finish_fz ?_
  simp only [frz, frzAll, frzG, frzGAll, ms2, msUp, Rd.run, hat, List.length_map, Nat.zero_add, Nat.le_refl, and_self, if_true, FZ, pl_tup, pl_agg, pl_cons, pl_nil, pl_int, pl_str, pl_fz, Bool.and_self, List.drop_zero]
  rw [List.take_of_length_le (by simp)]
  rfl
theorem lim16 (B : List Int) (hb : Bytes B) (hl : B.length < 1000000000000) (s : Nat × Nat) (hs : s.1 ≤ B.length) (he : s.2 < 100) : lim T fns 16 [docR B s] [] =
    some (.tup [.agg (k49.enc (oneP B s).1), docR B (oneP B s).2], []) := by
  refine fn_rule (fn := fn16) rfl rfl (by simp [fn16]) ?_
  unfold fn16
  simp only [Tryz.f16, Option.getD_some, argEnv, List.map_nil, List.length_nil]
  have hc1 := fun (n : Nat) => call44 B hb hl 16 (by decide) s hs he n
  have hs3 := gt_at (B := B) (m := 16) hs he
  have hn1 := gt_size (B := B) (m := 16) hs he
  unfold oneP
  generalize gt B 16 s = t at *
  obtain ⟨nm, s3⟩ := t
  simp only at hs3 hc1 hn1 ⊢
  have hc2 := fun (n : Nat) => call15 B hb hl 4 (by decide) s3 hs3.1 hs3.2 n
  have hs4 := tk_at (B := B) (z := 4) hs3.1 hs3.2
  have hm4 := tk_lt hb 4 s3
  generalize tk B 4 s3 = t at *
  obtain ⟨m, s4⟩ := t
  simp only at hs4 hc2 hm4 ⊢
  simp only [docR, show ((16 : Nat) : Int) = 16 from rfl, show ((4 : Nat) : Int) = 4 from rfl] at hc1 hc2 ⊢
  simp only [go_sem, T_1, T_3, T_5, T_9, T_22, T_45, T_49, T_57, T_59, T_88, hc1, hc2, List.map_cons, List.map_nil]
  repeat (refine ⟨by kernel_rfl, ?_⟩)
  refine loop_rule (ι := Nat × ByteArray × List S88 × (Nat × Nat)) (S := fun p => ⟨[(1, .ptr 0 0 0), (2, .ptr 1 0 0), (3, .ptr 2 0 0), (5, .int .u64 (p.1 : Nat)), (6, .ptr 3 0 0), (7, .str p.2.1)], [some (.buf 3 [[.fz (eb B), .int .i64 p.2.2.2.1, .int .i64 p.2.2.2.2]] false true), some (.buf 2 [[.str ByteArray.empty, .nils]] false true), some (.buf 3 [[.nils, .int .i64 0, .int .i64 0]] false true), some (.buf 2 [[.str nm, .ms 4 2 0 p.2.2.1.length none]] false false), some (.buf 2 (p.2.2.1.map k88.enc) false true)]⟩) (m := fun p => p.1)
    (I := fun p => p.1 ≤ m ∧ p.2.1.size ≤ 16 ∧ p.2.2.1.length ≤ m - p.1 ∧ p.2.2.2.1 ≤ B.length ∧ p.2.2.2.2 < 100 ∧ orn B p.1 p.2.1 p.2.2.1 p.2.2.2 = orn B m ByteArray.empty [] s4) ?_ (m, ByteArray.empty, [], s4) _ ⟨by omega, Nat.zero_le _, by simp, hs4.1, hs4.2, rfl⟩ rfl
  rintro ⟨k, last, ps, i5, e5⟩ ⟨hk1, hla, hpl, hs5, he5, hh⟩
  simp only at hk1 hla hpl hs5 he5 hh ⊢
  cases k with
  | zero =>
    have g0 : ((((0 : Nat) : Int)) > 0) = False := by simp
    rw [orn] at hh
    rw [← hh]
    simp only [go_sem, T_1, T_3, T_5, T_9, T_22, T_45, T_49, T_57, T_59, T_88, g0]
    exact finish19 rfl
  | succ k =>
    have g0 : ((((k + 1 : Nat) : Int)) > 0) = True := eq_true (by omega)
    rw [orn] at hh
    by_cases h5 : e5 = 0
    · subst h5
      have e1 : ((((0 : Nat) : Int)) == 0) = true := rfl
      have e2 : ((((0 : Nat) : Int)) != 0) = false := rfl
      have n30 : ((3 : Int) != 0) = true := rfl
      have wk : IntKind.u64.wrap (((k + 1 : Nat) : Int) - 1) = (k : Int) := by
        rw [show ((k + 1 : Nat) : Int) - 1 = (k : Int) by omega]; exact wu64 (by omega)
      rw [if_neg (by simp)] at hh
      have hc3 := fun (n : Nat) => call15 B hb hl 1 (by decide) (i5, 0) hs5 he5 n
      have hs6 := tk_at (B := B) (z := 1) (s := (i5, 0)) hs5 he5
      have hv := tk_lt hb 1 (i5, 0)
      generalize tk B 1 (i5, 0) = t at *
      obtain ⟨v, i6, e6⟩ := t
      simp only at hs6 hc3 hv hh
      have wv : IntKind.i64.wrap (v : Int) = (v : Int) := by rw [IntKind.wrap_i64] <;> omega
      by_cases h6 : e6 = 0
      · subst h6
        by_cases h7 : last.size < v
        · have g7 : ((v : Int) > (last.size : Int)) = True := eq_true (by omega)
          rw [if_pos ⟨rfl, h7⟩] at hh
          rw [← hh]
          simp only [docR, show ((1 : Nat) : Int) = 1 from rfl] at hc3
          simp only [go_sem, T_1, T_3, T_5, T_9, T_22, T_45, T_49, T_57, T_59, T_88, g0, hc3, wk, e1, e2, n30, g7, wv]
          repeat (refine ⟨by kernel_rfl, ?_⟩)
          exact finish19 rfl
        · have g7 : ((v : Int) > (last.size : Int)) = False := eq_false (by omega)
          rw [if_neg (by simp [h7]), if_neg (by simp)] at hh
          have wq : IntKind.i64.wrap (16 - (v : Int)) = ((16 - v : Nat) : Int) := by
            rw [show (16 : Int) - (v : Int) = ((16 - v : Nat) : Int) by omega, IntKind.wrap_i64] <;> omega
          have c0 : (v ≤ last.size) = True := eq_true (by omega)
          have ht := fun (n : Nat) => call44 B hb hl (16 - v) (by omega) (i6, 0) hs6.1 hs6.2 n
          have hta := gt_at (B := B) (m := 16 - v) (s := (i6, 0)) hs6.1 hs6.2
          have hsz := gt_size (B := B) (m := 16 - v) (s := (i6, 0)) hs6.1 hs6.2
          generalize gt B (16 - v) (i6, 0) = w at *
          obtain ⟨x, s7⟩ := w
          simp only at hta hsz hh ht
          have hu := fun (n : Nat) => call44 B hb hl 32 (by decide) s7 hta.1 hta.2 n
          have hua := gt_at (B := B) (m := 32) (s := s7) hta.1 hta.2
          generalize gt B 32 s7 = w at *
          obtain ⟨y, s8⟩ := w
          simp only at hua hh hu
          have hk9 : (last.extract 0 v ++ x).size ≤ 16 := by
            rw [ByteArray.size_append, ByteArray.size_extract]
            omega
          have c9 : ((last.extract 0 v).size + x.size ≤ 9223372036854775807) = True := eq_true (by
            have : (last.extract 0 v).size ≤ last.size := by rw [ByteArray.size_extract]; omega
            omega)
          simp only [docR, show ((1 : Nat) : Int) = 1 from rfl, show ((32 : Nat) : Int) = 32 from rfl] at hc3 ht hu
          simp only [go_sem, T_1, T_3, T_5, T_9, T_22, T_45, T_49, T_57, T_59, T_88, g0, hc3, wk, e1, e2, g7, wv, wq, c0, c9, ht, hu, natOf_cast, sliceR, cutS, optNat, List.map_cons, List.map_nil, Option.isSome_none, Option.isNone_none, Option.isNone_some, Option.map_none, Bool.and_true, Nat.zero_le, Nat.zero_add, appL_some, show (ps.length + 1) * 32 ≤ 140737488355328 by omega, show ps.length + 1 ≤ 140737488355328 by omega]
          refine ⟨(k, last.extract 0 v ++ x, ps ++ [⟨last.extract 0 v ++ x, y⟩], s8), ⟨by simp only; omega, hk9, by simp only [List.length_append, List.length_cons, List.length_nil]; omega, hua.1, hua.2, hh⟩, by simp only; omega, ?_⟩
          simp only [List.length_append, List.length_cons, List.length_nil, List.map_append, List.map_cons, List.map_nil, k88_enc]
          show _ = _
          kernel_rfl
      · have e3 : ((e6 : Int) == 0) = false := by simp; omega
        have e4 : ((e6 : Int) != 0) = true := by simp; omega
        rw [if_neg (by simp [h6]), if_pos h6] at hh
        rw [← hh]
        simp only [docR, show ((1 : Nat) : Int) = 1 from rfl] at hc3
        simp only [go_sem, T_1, T_3, T_5, T_9, T_22, T_45, T_49, T_57, T_59, T_88, g0, hc3, wk, e1, e2, e3, e4, wv]
        repeat (refine ⟨by kernel_rfl, ?_⟩)
        exact finish19 rfl
    · have e1 : ((e5 : Int) == 0) = false := by simp; omega
      rw [if_pos h5] at hh
      rw [← hh]
      simp only [go_sem, T_1, T_3, T_5, T_9, T_22, T_45, T_49, T_57, T_59, T_88, g0, e1]
      repeat (refine ⟨by kernel_rfl, ?_⟩)
      exact finish19 rfl
theorem call16 (B : List Int) (hb : Bytes B) (hl : B.length < 1000000000000) (s : Nat × Nat) (hs : s.1 ≤ B.length) (he : s.2 < 100) (n : Nat) : callV (LX T fns) n (.clo 16 []) [docR B s] = .pure (.tup [.agg (k49.enc (oneP B s).1), docR B (oneP B s).2], []) :=
  callV_plain (fn := fn16) rfl rfl rfl (lim16 B hb hl s hs he) n
end Go.Proofs.YteookeenkjpemaaGreat.R
/- Chapter 32's laws: what two keys have in common. -/
namespace Go.Proofs.YteookeenkjpemaaGreat.R
open Go Go.Proofs
open Go.Proofs.YteookeenkjpemaaGreat.Q (Bytes)
set_option linter.unusedSimpArgs false
set_option linter.unusedVariables false
set_option maxRecDepth 10000
set_option maxHeartbeats 1000000

def cmnL : List UInt8 → List UInt8 → Nat
  | x :: a, y :: b => if x = y then cmnL a b + 1 else 0
  | _, _ => 0
theorem cmnL_le : ∀ a b, cmnL a b ≤ a.length ∧ cmnL a b ≤ b.length
  | [], _ => by simp [cmnL]
  | _ :: _, [] => by simp [cmnL]
  | x :: a, y :: b => by
    unfold cmnL
    have := cmnL_le a b
    split
    · simp; omega
    · simp
theorem cmnL_take : ∀ (a b : List UInt8) (n : Nat), n ≤ a.length → ((n ≤ b.length ∧ b.take n = a.take n) ↔ n ≤ cmnL a b)
  | a, b, 0, _ => by simp
  | [], b, n + 1, h => by simp at h
  | x :: a, [], n + 1, h => by simp [cmnL]
  | x :: a, y :: b, n + 1, h => by
    have ih := cmnL_take a b n (by simpa using h)
    unfold cmnL
    by_cases e : x = y
    · subst e
      simp only [List.length_cons, Nat.add_le_add_iff_right, List.take_succ_cons, List.cons.injEq, true_and, if_true]
      exact ih
    · rw [if_neg e]
      simp only [List.length_cons, List.take_succ_cons, List.cons.injEq]
      constructor
      · rintro ⟨_, h2, _⟩; exact absurd h2.symm e
      · intro h3; omega
def cmn (a b : ByteArray) : Nat := cmnL a.data.toList b.data.toList
theorem cmn_le (a b : ByteArray) : cmn a b ≤ a.size ∧ cmn a b ≤ b.size := cmnL_le _ _
theorem toList_ext (s : ByteArray) (n : Nat) : (s.extract 0 n).data.toList = s.data.toList.take n := by
  rw [ByteArray.data_extract, Array.toList_extract]; simp
theorem cmn_iff {a b : ByteArray} {n : Nat} (h : n ≤ a.size) : (n ≤ b.size ∧ b.extract 0 n = a.extract 0 n) ↔ n ≤ cmn a b := by
  unfold cmn
  rw [← cmnL_take a.data.toList b.data.toList n h]
  refine and_congr Iff.rfl ?_
  rw [← toList_ext, ← toList_ext]
  constructor
  · intro e; rw [e]
  · intro e
    have : (b.extract 0 n).data = (a.extract 0 n).data := by
      apply Array.toList_inj.1; exact e
    exact ByteArray.ext this
theorem cmnL_drop {a b : List UInt8} {n : Nat} (ha : n < a.length) (hb : n < b.length) : cmnL (a.drop n) (b.drop n) = if a[n] = b[n] then cmnL (a.drop (n + 1)) (b.drop (n + 1)) + 1 else 0 := by
  rw [List.drop_eq_getElem_cons ha, List.drop_eq_getElem_cons hb, cmnL]
theorem lim53 (a b : ByteArray) (ha : a.size < 1000000000) (hb : b.size < 1000000000) : lim T fns 53 [.str a, .str b] [] = some (.str (a.extract 0 (cmn a b)), []) := by
  refine fn_rule (fn := fn53) rfl rfl (by simp [fn53]) ?_
  unfold fn53
  simp only [Tryz.f53, Option.getD_some, argEnv, List.map_nil, List.length_nil]
  simp only [go_sem, T_3, T_5, T_9]
  refine loop_rule (ι := Nat) (S := fun n => ⟨[(0, .str a), (1, .str b), (5, .int .i64 n)], []⟩) (m := fun n => a.size - n) (I := fun n => n ≤ a.size ∧ n ≤ b.size ∧ n + cmnL (a.data.toList.drop n) (b.data.toList.drop n) = cmn a b) ?_ 0 _ ⟨by omega, by omega, by simp [cmn]⟩ rfl
  intro n ⟨h1, h2, h3⟩
  by_cases hm : n < a.size ∧ n < b.size
  · obtain ⟨h4, h5⟩ := hm
    have hxa : a[n]? = some a[n] := getElem?_pos a n h4
    have hxb : b[n]? = some b[n] := getElem?_pos b n h5
    rw [cmnL_drop h4 h5] at h3
    by_cases he : a[n] = b[n]
    · have ge : ((a[n].toNat : Int) == (b[n].toNat : Int)) = true := by rw [he]; simp
      rw [if_pos (by exact he)] at h3
      by_cases hba : b.size < a.size
      · simp only [go_sem, T_3, T_5, T_9, hba, h4, h5, indexR, natOf_cast, hxa, hxb, ge, wrap_i64s (show n < 1000000000000000000 by omega)]
        exact ⟨n + 1, ⟨by omega, by omega, by omega⟩, by simp only; omega, rfl⟩
      · simp only [go_sem, T_3, T_5, T_9, hba, h4, h5, indexR, natOf_cast, hxa, hxb, ge, wrap_i64s (show n < 1000000000000000000 by omega)]
        exact ⟨n + 1, ⟨by omega, by omega, by omega⟩, by simp only; omega, rfl⟩
    · have ge : ((a[n].toNat : Int) == (b[n].toNat : Int)) = false := by
        simp only [beq_eq_false_iff_ne, ne_eq]
        intro e
        exact he (UInt8.toNat_inj.1 (by omega))
      rw [if_neg (by exact he)] at h3
      have c0 : (n ≤ a.size) = True := eq_true h1
      have e3 : cmn a b = n := by omega
      rw [e3]
      by_cases hba : b.size < a.size
      · simp only [go_sem, T_3, T_5, T_9, hba, h4, h5, indexR, natOf_cast, hxa, hxb, ge, c0, sliceR, cutS, optNat, Option.isSome_none, Option.isNone_none, Option.isNone_some, Option.map_none, Bool.and_true, Nat.zero_le, Nat.zero_add]
      · simp only [go_sem, T_3, T_5, T_9, hba, h4, h5, indexR, natOf_cast, hxa, hxb, ge, c0, sliceR, cutS, optNat, Option.isSome_none, Option.isNone_none, Option.isNone_some, Option.map_none, Bool.and_true, Nat.zero_le, Nat.zero_add]
  · have e0 : cmnL (a.data.toList.drop n) (b.data.toList.drop n) = 0 := by
      have h7 := cmnL_le (a.data.toList.drop n) (b.data.toList.drop n)
      have h8 : a.data.toList.length = a.size := Array.length_toList
      have h9 : b.data.toList.length = b.size := Array.length_toList
      simp only [List.length_drop] at h7
      omega
    have c0 : (n ≤ a.size) = True := eq_true h1
    have e3 : cmn a b = n := by omega
    rw [e3]
    by_cases hba : b.size < a.size
    · have g1 : (n < b.size) = False := eq_false (by omega)
      simp only [go_sem, T_3, T_5, T_9, hba, g1, c0, natOf_cast, sliceR, cutS, optNat, Option.isSome_none, Option.isNone_none, Option.isNone_some, Option.map_none, Bool.and_true, Nat.zero_le, Nat.zero_add]
    · have g1 : (n < a.size) = False := eq_false (by omega)
      simp only [go_sem, T_3, T_5, T_9, hba, g1, c0, natOf_cast, sliceR, cutS, optNat, Option.isSome_none, Option.isNone_none, Option.isNone_some, Option.map_none, Bool.and_true, Nat.zero_le, Nat.zero_add]
theorem call53 (a b : ByteArray) (ha : a.size < 1000000000) (hb : b.size < 1000000000) (n : Nat) : callV (LX T fns) n (.clo 53 []) [.str a, .str b] = .pure (.str (a.extract 0 (cmn a b)), []) := callV_plain (fn := fn53) rfl rfl rfl (lim53 a b ha hb) n
/-- Does a text begin so? -/
def hasP (k p : ByteArray) : Bool := decide (p.size ≤ k.size ∧ k.extract 0 p.size = p)
theorem beq_tl (x y : ByteArray) : (x.toList == y.toList) = decide (x = y) := beq_txt x y
theorem lim96 (k p : ByteArray) (hk : k.size < 1000000000) (hp : p.size < 1000000000) : lim T fns 96 [.str k, .str p] [] = some (.bool (hasP k p), []) := by
  refine fn_rule (fn := fn96) rfl rfl (by simp [fn96]) ?_
  unfold fn96
  simp only [Tryz.f96, Option.getD_some, argEnv, List.map_nil, List.length_nil]
  by_cases h : p.size ≤ k.size
  · have g : ((k.size : Int) ≥ (p.size : Int)) = True := eq_true (by omega)
    simp only [go_sem, T_3, T_9, g, h, natOf_cast, sliceR, cutS, optNat, Option.isSome_none, Option.isNone_none, Option.isNone_some, Option.map_none, Bool.and_true, Nat.zero_le, Nat.zero_add, beq_tl, hasP]
  · have g : ((k.size : Int) ≥ (p.size : Int)) = False := eq_false (by omega)
    simp only [go_sem, T_3, T_9, g, hasP, h, false_and]
theorem call96 (k p : ByteArray) (hk : k.size < 1000000000) (hp : p.size < 1000000000) (n : Nat) : callV (LX T fns) n (.clo 96 []) [.str k, .str p] = .pure (.bool (hasP k p), []) := callV_plain (fn := fn96) rfl rfl rfl (lim96 k p hk hp) n
theorem lim62 (k p : ByteArray) (hk : k.size < 1000000000) (hp : p.size < 1000000000) : lim T fns 62 [.str k, .str p] [] = some (.bool (hasP k p), []) := by
  refine fn_rule (fn := fn62) rfl rfl (by simp [fn62]) ?_
  unfold fn62
  simp only [Tryz.f62, Option.getD_some, argEnv, List.map_nil, List.length_nil]
  by_cases h : p.size ≤ k.size
  · have g : ((k.size : Int) ≥ (p.size : Int)) = True := eq_true (by omega)
    simp only [go_sem, T_3, T_9, g, h, natOf_cast, sliceR, cutS, optNat, Option.isSome_none, Option.isNone_none, Option.isNone_some, Option.map_none, Bool.and_true, Nat.zero_le, Nat.zero_add, beq_tl, hasP]
  · have g : ((k.size : Int) ≥ (p.size : Int)) = False := eq_false (by omega)
    simp only [go_sem, T_3, T_9, g, hasP, h, false_and]
theorem call62 (k p : ByteArray) (hk : k.size < 1000000000) (hp : p.size < 1000000000) (n : Nat) : callV (LX T fns) n (.clo 62 []) [.str k, .str p] = .pure (.bool (hasP k p), []) := callV_plain (fn := fn62) rfl rfl rfl (lim62 k p hk hp) n
theorem lim28 (k p : ByteArray) (hk : k.size < 1000000000) (hp : p.size < 1000000000) : lim T fns 28 [.str k, .str p] [] = some (.bool (hasP k p), []) := by
  refine fn_rule (fn := fn28) rfl rfl (by simp [fn28]) ?_
  unfold fn28
  simp only [Tryz.f28, Option.getD_some, argEnv, List.map_nil, List.length_nil]
  simp only [go_sem, T_9, call62 k p hk hp]
theorem call28 (k p : ByteArray) (hk : k.size < 1000000000) (hp : p.size < 1000000000) (n : Nat) : callV (LX T fns) n (.clo 28 []) [.str k, .str p] = .pure (.bool (hasP k p), []) := callV_plain (fn := fn28) rfl rfl rfl (lim28 k p hk hp) n
theorem ext_size (a : ByteArray) {n : Nat} (h : n ≤ a.size) : (a.extract 0 n).size = n := by rw [ByteArray.size_extract]; omega
theorem lim48 (a b : ByteArray) (ha : a.size < 1000000000) (hb : b.size < 1000000000) : lim T fns 48 [.str a, .str b] [] = some (.str (a.extract 0 (cmn a b)), []) := by
  refine fn_rule (fn := fn48) rfl rfl (by simp [fn48]) ?_
  unfold fn48
  simp only [Tryz.f48, Option.getD_some, argEnv, List.map_nil, List.length_nil]
  simp only [go_sem, T_3, T_9]
  refine loop_rule (ι := Nat) (S := fun n => ⟨[(0, .str a), (1, .str b), (5, .int .i64 n)], []⟩) (m := fun n => n) (I := fun n => n ≤ a.size ∧ cmn a b ≤ n) ?_ a.size _ ⟨Nat.le_refl _, (cmn_le a b).1⟩ rfl
  intro n ⟨h1, h2⟩
  cases n with
  | zero =>
    have g0 : ((((0 : Nat) : Int)) > 0) = False := by simp
    have e : cmn a b = 0 := by omega
    have ee : a.extract 0 0 = (⟨#[]⟩ : ByteArray) := by apply ByteArray.ext; simp
    simp only [go_sem, T_3, T_9, g0, e, ee]
  | succ n =>
    have g0 : ((((n + 1 : Nat) : Int)) > 0) = True := eq_true (by omega)
    have c0 : (n + 1 ≤ a.size) = True := eq_true h1
    have wn : IntKind.i64.wrap (((n + 1 : Nat) : Int) - 1) = (n : Int) := by
      rw [show ((n + 1 : Nat) : Int) - 1 = (n : Int) by omega, IntKind.wrap_i64]; omega
    have hs := ext_size a h1
    have hc := fun k => call96 b (a.extract 0 (n + 1)) hb (by rw [hs]; omega) k
    by_cases hq : n + 1 ≤ cmn a b
    · have e3 : cmn a b = n + 1 := by omega
      have hp : hasP b (a.extract 0 (n + 1)) = true := by
        unfold hasP
        rw [hs, decide_eq_true_eq]
        exact (cmn_iff h1).2 hq
      simp only [hp] at hc
      simp only [go_sem, T_3, T_9, g0, c0, hc, e3, natOf_cast, sliceR, cutS, optNat, Option.isSome_none, Option.isNone_none, Option.isNone_some, Option.map_none, Bool.and_true, Nat.zero_le, Nat.zero_add]
    · have hp : hasP b (a.extract 0 (n + 1)) = false := by
        unfold hasP
        rw [hs, decide_eq_false_iff_not]
        exact fun h => hq ((cmn_iff h1).1 h)
      simp only [hp] at hc
      simp only [go_sem, T_3, T_9, g0, c0, hc, wn, natOf_cast, sliceR, cutS, optNat, Option.isSome_none, Option.isNone_none, Option.isNone_some, Option.map_none, Bool.and_true, Nat.zero_le, Nat.zero_add]
      exact ⟨n, ⟨by omega, by omega⟩, by simp only; omega, rfl⟩
theorem call48 (a b : ByteArray) (ha : a.size < 1000000000) (hb : b.size < 1000000000) (n : Nat) : callV (LX T fns) n (.clo 48 []) [.str a, .str b] = .pure (.str (a.extract 0 (cmn a b)), []) := callV_plain (fn := fn48) rfl rfl rfl (lim48 a b ha hb) n
theorem lim97 (s : ByteArray) : lim T fns 97 [.str s] [] = some (.bool (decide (1 ≤ s.size) && decide (s.size ≤ 16)), []) := by
  refine fn_rule (fn := fn97) rfl rfl (by simp [fn97]) ?_
  unfold fn97
  simp only [Tryz.f97, Option.getD_some, argEnv, List.map_nil, List.length_nil]
  by_cases h1 : 1 ≤ s.size
  · have e1 : ((s.size : Int) ≥ 1) = True := by simp; omega
    by_cases h2 : s.size ≤ 16
    · have e2 : ((s.size : Int) ≤ 16) = True := by simp; omega
      simp only [go_sem, T_3, T_9, e1, e2, h1, h2]
    · have e2 : ((s.size : Int) ≤ 16) = False := by simp; omega
      simp only [go_sem, T_3, T_9, e1, e2, h1, h2]
  · have e1 : ((s.size : Int) ≥ 1) = False := by simp; omega
    simp only [go_sem, T_3, T_9, e1, h1]
theorem call97 (s : ByteArray) (n : Nat) : callV (LX T fns) n (.clo 97 []) [.str s] = .pure (.bool (decide (1 ≤ s.size) && decide (s.size ≤ 16)), []) := callV_plain (fn := fn97) rfl rfl rfl (lim97 s) n
end Go.Proofs.YteookeenkjpemaaGreat.R
/- Chapter 32's laws: which volumes may be dumped. -/
namespace Go.Proofs.YteookeenkjpemaaGreat.R
open Go Go.Proofs
open Go.Proofs.YteookeenkjpemaaGreat.Q (Bytes)
set_option linter.unusedSimpArgs false
set_option linter.unusedVariables false
set_option maxRecDepth 10000
set_option maxHeartbeats 1000000

def leB (a b : ByteArray) : Bool := Op.bytesLess a.toList b.toList || a.toList == b.toList
def ri (o : Option ByteArray) : List S88 → Bool
  | [] => true
  | p :: ps => (o.all fun q => !leB p.f0 q) && ri (some p.f0) ps
def szP (p : S88) : Bool := decide (p.f0.size ≤ 16) && decide (p.f1.size ≤ 32)
theorem lim95 (ps : List S88) (hl : ps.length < 1000000000) : lim T fns 95 [.fz (ps.map k88.enc)] [] = some (.bool (ri none ps), []) := by
  refine fn_rule (fn := fn95) rfl rfl (by simp [fn95]) ?_
  unfold fn95
  simp only [Tryz.f95, Option.getD_some, argEnv, List.map_nil, List.length_nil]
  simp only [go_sem, T_3, T_9, T_45, T_88]
  by_cases h0 : ps = []
  · subst h0
    refine loop_rule (ι := Unit) (S := fun _ => ⟨[(0, .fz (([] : List S88).map k88.enc)), (3, .int .i64 1)], []⟩) (m := fun _ => 0) (I := fun _ => True) ?_ () _ trivial rfl
    intro _ _
    have g : ((1 : Int) < (((0 : Nat)) : Int)) = False := by simp
    simp only [go_sem, T_3, T_9, T_45, T_88, g, ri]
  · have hpos : 0 < ps.length := List.length_pos_iff.2 h0
    refine loop_rule (ι := Nat) (S := fun i => ⟨[(0, .fz (ps.map k88.enc)), (3, .int .i64 (i + 1 : Nat))], []⟩) (m := fun i => ps.length - i) (I := fun i => ∃ h : i < ps.length, ri (some ps[i].f0) (ps.drop (i + 1)) = ri none ps) ?_ 0 _ ⟨hpos, by
        obtain ⟨p, r, rfl⟩ : ∃ p r, ps = p :: r := List.exists_cons_of_ne_nil h0
        simp [ri]⟩ rfl
    intro i ⟨hi, hg⟩
    by_cases hlt : i + 1 < ps.length
    · have g : (((i + 1 : Nat) : Int) < ((ps.length : Nat) : Int)) = True := eq_true (by omega)
      have x0 : ps[i]? = some ps[i] := List.getElem?_eq_getElem hi
      have x1 : ps[i + 1]? = some ps[i + 1] := List.getElem?_eq_getElem hlt
      have w1 : IntKind.i64.wrap (((i + 1 : Nat) : Int) - 1) = (i : Int) := by
        rw [show ((i + 1 : Nat) : Int) - 1 = (i : Int) by omega, IntKind.wrap_i64]; omega
      rw [List.drop_eq_getElem_cons hlt, ri] at hg
      simp only [Option.all_some] at hg
      cases hle : leB ps[i + 1].f0 ps[i].f0 with
      | true =>
        have hle' : (Op.bytesLess ps[i + 1].f0.toList ps[i].f0.toList || ps[i + 1].f0.toList == ps[i].f0.toList) = true := hle
        rw [hle] at hg
        simp only [go_sem, T_3, T_9, T_45, T_88, g, x0, x1, w1, hlt, hi, all88, k88_enc, hle']
        rw [← hg]
        rfl
      | false =>
        have hle' : (Op.bytesLess ps[i + 1].f0.toList ps[i].f0.toList || ps[i + 1].f0.toList == ps[i].f0.toList) = false := hle
        rw [hle] at hg
        simp only [go_sem, T_3, T_9, T_45, T_88, g, x0, x1, w1, hlt, hi, all88, k88_enc, hle', wrap_i64s (show i + 1 < 1000000000000000000 by omega)]
        exact ⟨i + 1, ⟨hlt, by simpa using hg⟩, by simp only; omega, rfl⟩
    · have g : (((i + 1 : Nat) : Int) < ((ps.length : Nat) : Int)) = False := eq_false (by omega)
      rw [List.drop_eq_nil_of_le (by omega), ri] at hg
      rw [← hg]
      simp only [go_sem, T_3, T_9, T_45, T_88, g, hlt]
theorem call95 (ps : List S88) (hl : ps.length < 1000000000) (n : Nat) : callV (LX T fns) n (.clo 95 []) [.fz (ps.map k88.enc)] = .pure (.bool (ri none ps), []) := callV_plain (fn := fn95) rfl rfl rfl (lim95 ps hl) n
def wholeP (last : ByteArray) (w : S49) : Bool := decide (1 ≤ w.f0.size) && decide (w.f0.size ≤ 16) && !leB w.f0 last && (ri none w.f1 && w.f1.all szP)
def prv (ps : List S88) : Nat → Option ByteArray
  | 0 => none
  | i + 1 => ps[i]?.map (·.f0)
theorem lim49 (w : S49) (last : ByteArray) (hl : w.f1.length < 1000000000) : lim T fns 49 [.agg (k49.enc w), .str last] [] = some (.bool (wholeP last w), []) := by
  refine fn_rule (fn := fn49) rfl rfl (by simp [fn49]) ?_
  unfold fn49
  simp only [Tryz.f49, Option.getD_some, argEnv, List.map_nil, List.length_nil]
  obtain ⟨nm, ps⟩ := w
  simp only at hl
  have hc := fun n => call97 nm n
  unfold wholeP
  simp only [k49_enc]
  by_cases hnm : (decide (1 ≤ nm.size) && decide (nm.size ≤ 16)) = true
  · rw [hnm] at hc ⊢
    cases hle : leB nm last with
    | true =>
      have hle' : (Op.bytesLess nm.toList last.toList || nm.toList == last.toList) = true := hle
      simp only [go_sem, T_3, T_4, T_9, T_45, T_49, T_88, hc, hle']
    | false =>
      have hle' : (Op.bytesLess nm.toList last.toList || nm.toList == last.toList) = false := hle
      simp only [go_sem, T_3, T_4, T_9, T_45, T_49, T_88, hc, hle']
      refine loop_rule (ι := Nat) (S := fun i => ⟨[(2, .ptr 0 0 0), (18, .fz (ps.map k88.enc)), (19, .int .i64 ps.length), (20, .int .i64 i)], [some (.buf 2 [[.str nm, .fz (ps.map k88.enc)]] false true)]⟩) (m := fun i => ps.length + 1 - i) (I := fun i => i ≤ ps.length ∧ (ri (prv ps i) (ps.drop i) && (ps.drop i).all szP) = (ri none ps && ps.all szP)) ?_ 0 _ ⟨by omega, rfl⟩ rfl
      intro i ⟨hi, hg⟩
      by_cases hlt : i < ps.length
      · have x0 : ps[i]? = some ps[i] := List.getElem?_eq_getElem hlt
        have hlt' : ((i : Int) < (ps.length : Int)) := by omega
        rw [List.drop_eq_getElem_cons hlt, ri, List.all_cons] at hg
        by_cases g1 : ps[i].f0.size ≤ 16
        · have f1 : ((ps[i].f0.size : Int) > 16) = False := eq_false (by omega)
          by_cases g2 : ps[i].f1.size ≤ 32
          · have f2 : ((ps[i].f1.size : Int) > 32) = False := eq_false (by omega)
            have hz : szP ps[i] = true := by simp [szP, g1, g2]
            rw [hz, Bool.true_and] at hg
            cases i with
            | zero =>
              have f3 : ((((0 : Nat) : Int)) > 0) = False := by simp
              simp only [go_sem, T_3, T_4, T_9, T_45, T_49, T_88, hlt, hlt', x0, all88, k88_enc, f1, f2, f3, wrap_i64s (show 0 < 1000000000000000000 by omega)]
              exact ⟨1, ⟨by omega, by simpa [prv, x0] using hg⟩, by simp only; omega, rfl⟩
            | succ i =>
              have f3 : ((((i + 1 : Nat) : Int)) > 0) = True := eq_true (by omega)
              have hi2 : i < ps.length := by omega
              have x1 : ps[i]? = some ps[i] := List.getElem?_eq_getElem hi2
              have w1 : IntKind.i64.wrap (((i + 1 : Nat) : Int) - 1) = (i : Int) := by
                rw [show ((i + 1 : Nat) : Int) - 1 = (i : Int) by omega, IntKind.wrap_i64]; omega
              simp only [prv, x1, Option.map_some, Option.all_some] at hg
              cases hq : leB ps[i + 1].f0 ps[i].f0 with
              | true =>
                have hq' : (Op.bytesLess ps[i + 1].f0.toList ps[i].f0.toList || ps[i + 1].f0.toList == ps[i].f0.toList) = true := hq
                rw [hq] at hg
                simp only [go_sem, T_3, T_4, T_9, T_45, T_49, T_88, hlt, hlt', hi2, x0, x1, w1, all88, k88_enc, f1, f2, f3, hq']
                rw [← hg]
                rfl
              | false =>
                have hq' : (Op.bytesLess ps[i + 1].f0.toList ps[i].f0.toList || ps[i + 1].f0.toList == ps[i].f0.toList) = false := hq
                rw [hq] at hg
                simp only [go_sem, T_3, T_4, T_9, T_45, T_49, T_88, hlt, hlt', hi2, x0, x1, w1, all88, k88_enc, f1, f2, f3, hq', wrap_i64s (show i + 1 < 1000000000000000000 by omega)]
                exact ⟨i + 1 + 1, ⟨by omega, by simpa [prv, x0] using hg⟩, by simp only; omega, rfl⟩
          · have f2 : ((ps[i].f1.size : Int) > 32) = True := eq_true (by omega)
            have hz : szP ps[i] = false := by simp [szP, g1, g2]
            rw [hz] at hg
            simp only [go_sem, T_3, T_4, T_9, T_45, T_49, T_88, hlt, hlt', x0, all88, k88_enc, f1, f2]
            rw [← hg, Bool.false_and, Bool.and_false]
        · have f1 : ((ps[i].f0.size : Int) > 16) = True := eq_true (by omega)
          have hz : szP ps[i] = false := by simp [szP, g1]
          rw [hz] at hg
          simp only [go_sem, T_3, T_4, T_9, T_45, T_49, T_88, hlt, hlt', x0, all88, k88_enc, f1]
          rw [← hg, Bool.false_and, Bool.and_false]
      · have : i = ps.length := by omega
        subst this
        rw [List.drop_eq_nil_of_le (by omega), ri, List.all_nil] at hg
        rw [← hg]
        simp only [go_sem, T_3, T_4, T_9, T_45, T_49, T_88, hlt]
  · have hnm' : (decide (1 ≤ nm.size) && decide (nm.size ≤ 16)) = false := by simpa using hnm
    rw [hnm'] at hc ⊢
    simp only [go_sem, T_3, T_4, T_9, T_45, T_49, T_88, hc]
theorem call49 (w : S49) (last : ByteArray) (hl : w.f1.length < 1000000000) (n : Nat) : callV (LX T fns) n (.clo 49 []) [.agg (k49.enc w), .str last] = .pure (.bool (wholeP last w), []) := callV_plain (fn := fn49) rfl rfl rfl (lim49 w last hl) n
def vOK (last : ByteArray) : List S49 → Bool
  | [] => true
  | w :: l => wholeP last w && vOK w.f0 l
def mayP (l : List S49) : Bool := vOK ByteArray.empty l && decide (l.length ≤ 16)
def few (l : List S49) : Prop := l.length < 1000000000 ∧ ∀ w ∈ l, w.f1.length < 1000000
theorem lim19 (l : List S49) (hf : few l) : lim T fns 19 [.fz (l.map k49.enc)] [] = some (.bool (mayP l), []) := by
  refine fn_rule (fn := fn19) rfl rfl (by simp [fn19]) ?_
  unfold fn19
  simp only [Tryz.f19, Option.getD_some, argEnv, List.map_nil, List.length_nil]
  have hl := hf.1
  simp only [go_sem, T_3, T_4, T_9, T_29, T_45, T_49, T_88]
  refine loop_rule (ι := Nat × ByteArray) (S := fun p => ⟨[(0, .fz (l.map k49.enc)), (3, .str p.2), (6, .fz (l.map k49.enc)), (7, .int .i64 l.length), (8, .int .i64 (p.1 : Nat))], []⟩) (m := fun p => l.length + 1 - p.1) (I := fun p => p.1 ≤ l.length ∧ vOK p.2 (l.drop p.1) = vOK ByteArray.empty l) ?_ (0, ByteArray.empty) _ ⟨by omega, rfl⟩ rfl
  rintro ⟨i, last⟩ ⟨hi, hg⟩
  simp only at hi hg ⊢
  by_cases hlt : i < l.length
  · have x0 : l[i]? = some l[i] := List.getElem?_eq_getElem hlt
    have hlt' : ((i : Int) < (l.length : Int)) := by omega
    rw [List.drop_eq_getElem_cons hlt, vOK] at hg
    have hc := fun n => call49 l[i] last (by have := hf.2 l[i] (List.getElem_mem _); omega) n
    cases hw : wholeP last l[i] with
    | true =>
      rw [hw] at hc hg
      simp only [k49_enc] at hc
      simp only [go_sem, T_3, T_4, T_9, T_29, T_45, T_49, T_88, hlt, hlt', x0, all49, k49_enc, hc, wrap_i64s (show i < 1000000000000000000 by omega)]
      exact ⟨(i + 1, l[i].f0), ⟨by simp only; omega, by simpa using hg⟩, by simp only; omega, rfl⟩
    | false =>
      rw [hw] at hc hg
      simp only [k49_enc] at hc
      simp only [go_sem, T_3, T_4, T_9, T_29, T_45, T_49, T_88, hlt, hlt', x0, all49, k49_enc, hc]
      unfold mayP
      rw [← hg]
      rfl
  · have : i = l.length := by omega
    subst this
    rw [List.drop_eq_nil_of_le (by omega), vOK] at hg
    unfold mayP
    rw [← hg]
    by_cases h16 : l.length ≤ 16
    · have f1 : ((l.length : Int) ≤ 16) = True := eq_true (by omega)
      simp only [go_sem, T_3, T_4, T_9, T_29, T_45, T_49, T_88, hlt, f1, h16]
    · have f1 : ((l.length : Int) ≤ 16) = False := eq_false (by omega)
      simp only [go_sem, T_3, T_4, T_9, T_29, T_45, T_49, T_88, hlt, f1, h16]
theorem call19 (l : List S49) (hf : few l) (n : Nat) : callV (LX T fns) n (.clo 19 []) [.fz (l.map k49.enc)] = .pure (.bool (mayP l), []) := callV_plain (fn := fn19) rfl rfl rfl (lim19 l hf) n
theorem leB_empty {s : ByteArray} (h : 1 ≤ s.size) : leB s ByteArray.empty = false := by
  unfold leB
  have e : ByteArray.empty.toList = [] := by rw [Go.Lib.toList_data]; rfl
  have hs : s.toList ≠ [] := by
    intro e
    have := congrArg List.length e
    rw [Go.Lib.toList_data, Array.length_toList] at this
    have h2 : s.data.size = s.size := rfl
    rw [List.length_nil] at this
    omega
  rw [e]
  cases hq : s.toList with
  | nil => exact absurd hq hs
  | cons x r => rfl
def prW (l : List S49) : Nat → ByteArray
  | 0 => ByteArray.empty
  | i + 1 => match l[i]? with
    | some w => w.f0
    | none => ByteArray.empty
theorem eqE (s : ByteArray) : (s.toList == (⟨#[]⟩ : ByteArray).toList) = decide (s.size = 0) := by
  rw [beq_txt]
  by_cases h : s.size = 0
  · have : s = ⟨#[]⟩ := by
      apply ByteArray.ext
      exact Array.eq_empty_of_size_eq_zero h
    simp only [h, this, decide_true]
    rfl
  · have : s ≠ ⟨#[]⟩ := fun e => h (by rw [e]; rfl)
    simp [h, this]
theorem lim45 (l : List S49) (hf : few l) : lim T fns 45 [.fz (l.map k49.enc)] [] = some (.bool (mayP l), []) := by
  refine fn_rule (fn := fn45) rfl rfl (by simp [fn45]) ?_
  unfold fn45
  simp only [Tryz.f45, Option.getD_some, argEnv, List.map_nil, List.length_nil]
  have hl := hf.1
  by_cases h16 : l.length ≤ 16
  · have f0 : ((l.length : Int) > 16) = False := eq_false (by omega)
    have hm : mayP l = vOK ByteArray.empty l := by simp [mayP, h16]
    rw [hm]
    simp only [go_sem, T_3, T_4, T_9, T_29, T_45, T_49, T_88, f0]
    refine loop_rule (ι := Nat) (S := fun i => ⟨[(0, .fz (l.map k49.enc)), (10, .int .i64 l.length), (11, .int .i64 i)], []⟩) (m := fun i => l.length + 1 - i) (I := fun i => i ≤ l.length ∧ vOK (prW l i) (l.drop i) = vOK ByteArray.empty l) ?_ 0 _ ⟨by omega, rfl⟩ rfl
    intro i ⟨hi, hg⟩
    by_cases hlt : i < l.length
    · have x0 : l[i]? = some l[i] := List.getElem?_eq_getElem hlt
      have hlt' : ((i : Int) < (l.length : Int)) := by omega
      rw [List.drop_eq_getElem_cons hlt, vOK] at hg
      have hpl := hf.2 l[i] (List.getElem_mem _)
      have hc := fun n => call95 l[i].f1 (by omega) n
      have hnx : prW l (i + 1) = l[i].f0 := by simp [prW, x0]
      by_cases hz : l[i].f0.size = 0
      · have hE : (l[i].f0.toList == (⟨#[]⟩ : ByteArray).toList) = true := by rw [eqE]; simp [hz]
        have hw : wholeP (prW l i) l[i] = false := by simp [wholeP, hz]
        rw [hw] at hg
        simp only [go_sem, T_3, T_4, T_9, T_29, T_45, T_49, T_88, hlt, hlt', x0, all49, k49_enc, hE]
        rw [← hg]
        rfl
      · have hE : (l[i].f0.toList == (⟨#[]⟩ : ByteArray).toList) = false := by rw [eqE]; simp [hz]
        by_cases g1 : l[i].f0.size ≤ 16
        · have f1 : ((l[i].f0.size : Int) > 16) = False := eq_false (by omega)
          cases i with
          | zero =>
            have f3 : ((((0 : Nat) : Int)) > 0) = False := by simp
            have hle : leB l[0].f0 ByteArray.empty = false := leB_empty (by omega)
            cases hr : ri none l[0].f1 with
            | false =>
              have hw : wholeP (prW l 0) l[0] = false := by simp [wholeP, hr]
              rw [hw] at hg
              rw [hr] at hc
              simp only [go_sem, T_3, T_4, T_9, T_29, T_45, T_49, T_88, hlt, hlt', x0, all49, k49_enc, hE, f1, f3, hc]
              rw [← hg]
              rfl
            | true =>
              have hw : wholeP (prW l 0) l[0] = l[0].f1.all szP := by simp [wholeP, hr, prW, hle, g1]; omega
              rw [hw] at hg
              rw [hr] at hc
              simp only [go_sem, T_3, T_4, T_9, T_29, T_45, T_49, T_88, hlt, hlt', x0, all49, k49_enc, hE, f1, f3, hc]
              refine loop_rule (ι := Nat) (S := fun k => ⟨[(0, .fz (l.map k49.enc)), (4, .ptr 0 0 0), (10, .int .i64 l.length), (11, .int .i64 (0 : Nat)), (50, .int .i64 l[0].f1.length), (51, .int .i64 k)], [some (.buf 2 [[.str l[0].f0, .fz (l[0].f1.map k88.enc)]] false true)]⟩) (m := fun k => l[0].f1.length + 1 - k) (I := fun k => k ≤ l[0].f1.length ∧ (l[0].f1.drop k).all szP = l[0].f1.all szP) ?_ 0 _ ⟨by omega, by simp⟩ rfl
              intro k ⟨hk, hh⟩
              by_cases hkl : k < l[0].f1.length
              · have y0 : l[0].f1[k]? = some l[0].f1[k] := List.getElem?_eq_getElem hkl
                have hkl' : ((k : Int) < (l[0].f1.length : Int)) := by omega
                rw [List.drop_eq_getElem_cons hkl, List.all_cons] at hh
                by_cases g2 : l[0].f1[k].f0.size ≤ 16
                · have e1 : ((l[0].f1[k].f0.size : Int) > 16) = False := eq_false (by omega)
                  by_cases g3 : l[0].f1[k].f1.size ≤ 32
                  · have e2 : ((l[0].f1[k].f1.size : Int) > 32) = False := eq_false (by omega)
                    have hs : szP l[0].f1[k] = true := by simp [szP, g2, g3]
                    rw [hs, Bool.true_and] at hh
                    simp only [go_sem, T_3, T_4, T_9, T_29, T_45, T_49, T_88, hkl, hkl', y0, all88, k88_enc, e1, e2, wrap_i64s (show k < 1000000000000000000 by omega)]
                    exact ⟨k + 1, ⟨by omega, hh⟩, by simp only; omega, rfl⟩
                  · have e2 : ((l[0].f1[k].f1.size : Int) > 32) = True := eq_true (by omega)
                    have hs : szP l[0].f1[k] = false := by simp [szP, g3]
                    rw [hs, Bool.false_and] at hh
                    rw [← hh, Bool.false_and] at hg
                    simp only [go_sem, T_3, T_4, T_9, T_29, T_45, T_49, T_88, hkl, hkl', y0, all88, k88_enc, e1, e2]
                    rw [← hg]
                · have e1 : ((l[0].f1[k].f0.size : Int) > 16) = True := eq_true (by omega)
                  have hs : szP l[0].f1[k] = false := by simp [szP, g2]
                  rw [hs, Bool.false_and] at hh
                  rw [← hh, Bool.false_and] at hg
                  simp only [go_sem, T_3, T_4, T_9, T_29, T_45, T_49, T_88, hkl, hkl', y0, all88, k88_enc, e1]
                  rw [← hg]
              · have : k = l[0].f1.length := by omega
                subst this
                rw [List.drop_eq_nil_of_le (by omega), List.all_nil] at hh
                rw [← hh, Bool.true_and] at hg
                simp only [go_sem, T_3, T_4, T_9, T_29, T_45, T_49, T_88, hkl, wrap_i64s (show 0 < 1000000000000000000 by omega)]
                exact ⟨0 + 1, ⟨by omega, by rw [hnx]; exact hg⟩, by simp only; omega, rfl⟩
          | succ i =>
            have f3 : ((((i + 1 : Nat) : Int)) > 0) = True := eq_true (by omega)
            have hi2 : i < l.length := by omega
            have x1 : l[i]? = some l[i] := List.getElem?_eq_getElem hi2
            have hpv : prW l (i + 1) = l[i].f0 := by simp [prW, x1]
            have w1 : IntKind.i64.wrap (((i + 1 : Nat) : Int) - 1) = (i : Int) := by
              rw [show ((i + 1 : Nat) : Int) - 1 = (i : Int) by omega, IntKind.wrap_i64]; omega
            cases hq : leB l[i + 1].f0 l[i].f0 with
            | true =>
              have hq' : (Op.bytesLess l[i + 1].f0.toList l[i].f0.toList || l[i + 1].f0.toList == l[i].f0.toList) = true := hq
              have hw : wholeP (prW l (i + 1)) l[i + 1] = false := by simp [wholeP, hpv, hq]
              rw [hw] at hg
              simp only [go_sem, T_3, T_4, T_9, T_29, T_45, T_49, T_88, hlt, hlt', hi2, x0, x1, w1, all49, k49_enc, hE, f1, f3, hq']
              rw [← hg]
              rfl
            | false =>
              have hq' : (Op.bytesLess l[i + 1].f0.toList l[i].f0.toList || l[i + 1].f0.toList == l[i].f0.toList) = false := hq
              cases hr : ri none l[i + 1].f1 with
              | false =>
                have hw : wholeP (prW l (i + 1)) l[i + 1] = false := by simp [wholeP, hr]
                rw [hw] at hg
                rw [hr] at hc
                simp only [go_sem, T_3, T_4, T_9, T_29, T_45, T_49, T_88, hlt, hlt', hi2, x0, x1, w1, all49, k49_enc, hE, f1, f3, hq', hc]
                rw [← hg]
                rfl
              | true =>
                have hw : wholeP (prW l (i + 1)) l[i + 1] = l[i + 1].f1.all szP := by simp [wholeP, hr, hpv, hq, g1]; omega
                rw [hw] at hg
                rw [hr] at hc
                simp only [go_sem, T_3, T_4, T_9, T_29, T_45, T_49, T_88, hlt, hlt', hi2, x0, x1, w1, all49, k49_enc, hE, f1, f3, hq', hc]
                refine loop_rule (ι := Nat) (S := fun k => ⟨[(0, .fz (l.map k49.enc)), (4, .ptr 0 0 0), (10, .int .i64 l.length), (11, .int .i64 (i + 1 : Nat)), (50, .int .i64 l[i + 1].f1.length), (51, .int .i64 k)], [some (.buf 2 [[.str l[i + 1].f0, .fz (l[i + 1].f1.map k88.enc)]] false true)]⟩) (m := fun k => l[i + 1].f1.length + 1 - k) (I := fun k => k ≤ l[i + 1].f1.length ∧ (l[i + 1].f1.drop k).all szP = l[i + 1].f1.all szP) ?_ 0 _ ⟨by omega, by simp⟩ rfl
                intro k ⟨hk, hh⟩
                by_cases hkl : k < l[i + 1].f1.length
                · have y0 : l[i + 1].f1[k]? = some l[i + 1].f1[k] := List.getElem?_eq_getElem hkl
                  have hkl' : ((k : Int) < (l[i + 1].f1.length : Int)) := by omega
                  rw [List.drop_eq_getElem_cons hkl, List.all_cons] at hh
                  by_cases g2 : l[i + 1].f1[k].f0.size ≤ 16
                  · have e1 : ((l[i + 1].f1[k].f0.size : Int) > 16) = False := eq_false (by omega)
                    by_cases g3 : l[i + 1].f1[k].f1.size ≤ 32
                    · have e2 : ((l[i + 1].f1[k].f1.size : Int) > 32) = False := eq_false (by omega)
                      have hs : szP l[i + 1].f1[k] = true := by simp [szP, g2, g3]
                      rw [hs, Bool.true_and] at hh
                      simp only [go_sem, T_3, T_4, T_9, T_29, T_45, T_49, T_88, hkl, hkl', y0, all88, k88_enc, e1, e2, wrap_i64s (show k < 1000000000000000000 by omega)]
                      exact ⟨k + 1, ⟨by omega, hh⟩, by simp only; omega, rfl⟩
                    · have e2 : ((l[i + 1].f1[k].f1.size : Int) > 32) = True := eq_true (by omega)
                      have hs : szP l[i + 1].f1[k] = false := by simp [szP, g3]
                      rw [hs, Bool.false_and] at hh
                      rw [← hh, Bool.false_and] at hg
                      simp only [go_sem, T_3, T_4, T_9, T_29, T_45, T_49, T_88, hkl, hkl', y0, all88, k88_enc, e1, e2]
                      rw [← hg]
                  · have e1 : ((l[i + 1].f1[k].f0.size : Int) > 16) = True := eq_true (by omega)
                    have hs : szP l[i + 1].f1[k] = false := by simp [szP, g2]
                    rw [hs, Bool.false_and] at hh
                    rw [← hh, Bool.false_and] at hg
                    simp only [go_sem, T_3, T_4, T_9, T_29, T_45, T_49, T_88, hkl, hkl', y0, all88, k88_enc, e1]
                    rw [← hg]
                · have : k = l[i + 1].f1.length := by omega
                  subst this
                  rw [List.drop_eq_nil_of_le (by omega), List.all_nil] at hh
                  rw [← hh, Bool.true_and] at hg
                  simp only [go_sem, T_3, T_4, T_9, T_29, T_45, T_49, T_88, hkl, wrap_i64s (show i + 1 < 1000000000000000000 by omega)]
                  exact ⟨i + 1 + 1, ⟨by omega, by rw [hnx]; exact hg⟩, by simp only; omega, rfl⟩
        · have f1 : ((l[i].f0.size : Int) > 16) = True := eq_true (by omega)
          have hw : wholeP (prW l i) l[i] = false := by simp [wholeP, g1]
          rw [hw] at hg
          simp only [go_sem, T_3, T_4, T_9, T_29, T_45, T_49, T_88, hlt, hlt', x0, all49, k49_enc, hE, f1]
          rw [← hg]
          rfl
    · have : i = l.length := by omega
      subst this
      rw [List.drop_eq_nil_of_le (by omega), vOK] at hg
      rw [← hg]
      simp only [go_sem, T_3, T_4, T_9, T_29, T_45, T_49, T_88, hlt]
  · have f0 : ((l.length : Int) > 16) = True := eq_true (by omega)
    have hm : mayP l = false := by simp [mayP, h16]
    rw [hm]
    simp only [go_sem, T_3, T_4, T_9, T_29, T_45, T_49, T_88, f0]
theorem call45 (l : List S49) (hf : few l) (n : Nat) : callV (LX T fns) n (.clo 45 []) [.fz (l.map k49.enc)] = .pure (.bool (mayP l), []) := callV_plain (fn := fn45) rfl rfl rfl (lim45 l hf) n
end Go.Proofs.YteookeenkjpemaaGreat.R
/- Chapter 32's laws: volumes compared, bytes compared. -/
namespace Go.Proofs.YteookeenkjpemaaGreat.R
open Go Go.Proofs
open Go.Proofs.YteookeenkjpemaaGreat.Q (Bytes)
set_option linter.unusedSimpArgs false
set_option linter.unusedVariables false
set_option maxRecDepth 10000
set_option maxHeartbeats 1000000

theorem lim32 (a b : List Int) (ha : a.length < 1000000000000) (hb : b.length < 1000000000000) : lim T fns 32 [.fz (eb a), .fz (eb b)] [] = some (.bool (decide (a = b)), []) := by
  refine fn_rule (fn := fn32) rfl rfl (by simp [fn32]) ?_
  unfold fn32
  simp only [Tryz.f32, Option.getD_some, argEnv, List.map_nil, List.length_nil]
  by_cases hlen : a.length = b.length
  · have e0 : (((a.length : Nat) : Int) != ((b.length : Nat) : Int)) = false := by simp [hlen]
    simp only [go_sem, T_3, T_5, T_22, ebl, e0]
    refine loop_rule (ι := Nat) (S := fun i => ⟨[(0, .fz (eb a)), (1, .fz (eb b)), (12, .int .i64 a.length), (13, .int .i64 i)], []⟩) (m := fun i => a.length + 1 - i) (I := fun i => i ≤ a.length ∧ (a.drop i = b.drop i ↔ a = b)) ?_ 0 _ ⟨Nat.zero_le _, by simp⟩ rfl
    intro i ⟨hi, hg⟩
    by_cases hlt : i < a.length
    · have hlb : i < b.length := by omega
      have x0 : a[i]? = some a[i] := List.getElem?_eq_getElem hlt
      have x1 : b[i]? = some b[i] := List.getElem?_eq_getElem hlb
      have hlt' : ((i : Int) < (a.length : Int)) := by omega
      rw [List.drop_eq_getElem_cons hlt, List.drop_eq_getElem_cons hlb, List.cons.injEq] at hg
      by_cases hq : a[i] = b[i]
      · have e1 : (a[i] != b[i]) = false := by simp [hq]
        simp only [hq, true_and] at hg
        simp only [go_sem, T_3, T_5, T_22, hlt, hlt', hlb, x0, x1, alleb, eb_enc, ebl, e1, wrap_i64s (show i < 1000000000000000000 by omega)]
        exact ⟨i + 1, ⟨by omega, hg⟩, by simp only; omega, rfl⟩
      · have e1 : (a[i] != b[i]) = true := by simp [hq]
        have hne : ¬ a = b := fun e => hq (hg.2 e).1
        simp only [go_sem, T_3, T_5, T_22, hlt, hlt', hlb, x0, x1, alleb, eb_enc, ebl, e1, hne]
    · have : i = a.length := by omega
      subst this
      have he : a = b := hg.1 (by rw [List.drop_eq_nil_of_le (Nat.le_refl _), List.drop_eq_nil_of_le (by omega)])
      have hd : decide (a = b) = true := by simp [he]
      rw [hd]
      simp only [go_sem, T_3, T_5, T_22, hlt]
  · have e0 : (((a.length : Nat) : Int) != ((b.length : Nat) : Int)) = true := by simp; omega
    have hne : ¬ a = b := fun e => hlen (by rw [e])
    simp only [go_sem, T_3, T_5, T_22, ebl, e0, hne]
theorem call32 (a b : List Int) (ha : a.length < 1000000000000) (hb : b.length < 1000000000000) (n : Nat) : callV (LX T fns) n (.clo 32 []) [.fz (eb a), .fz (eb b)] = .pure (.bool (decide (a = b)), []) := callV_plain (fn := fn32) rfl rfl rfl (lim32 a b ha hb) n
end Go.Proofs.YteookeenkjpemaaGreat.R
/- Chapter 32's laws: a volume's writing. -/
namespace Go.Proofs.YteookeenkjpemaaGreat.R
open Go Go.Proofs
open Go.Proofs.YteookeenkjpemaaGreat.Q (Bytes)
set_option linter.unusedSimpArgs false
set_option linter.unusedVariables false
set_option maxRecDepth 10000
set_option maxHeartbeats 1000000

theorem callV_nils {T : TT} {fns : FuncId → Option AFn} {g : FuncId} {fn : AFn} (hfn : fns g = some fn) {m : List Bool} (hp : fn.pfz = true :: m) (args : List V) (n : Nat) : callV (LX T fns) n (.clo g []) (.nils :: args) = callV (LX T fns) n (.clo g []) (.fz [] :: args) := by
  unfold callV
  simp only [hfn]
  unfold callR
  simp only [hp, List.append_nil, frzArgs, frz, frzAll, frzG, frzGAll, ms2, msUp, frzG]
/-- A call that is handed bytes of an object: they are frozen. -/
theorem callV_msF {T : TT} {fns : FuncId → Option AFn} {g : FuncId} {fn : AFn} (hfn : fns g = some fn) {m : List Bool} (hp : fn.pfz = true :: m) {args : List V} {rows : List (List V)} {c : Option Nat} {p l n : Nat} {h : Heap} {tr : List Nat} {r : V} {f : Bool} (hat : h.at? p = some (.buf 1 rows f true)) (hl : l = rows.length) (ha : V.allPlain args = true)
    (hr : r.plain = true) (hf : r.noFz = false) (hlim : lim T fns g (.fz rows :: args) [] = some (r, [])) : (callV (LX T fns) n (.clo g []) (.ms p 1 0 l c :: args)).run h tr = some ((r, [(p, some (.buf 1 rows true true))]), p :: tr) := by
  subst hl
  unfold callV
  simp only [hfn]
  unfold callR
  simp only [hp, List.append_nil, frzArgs, frz, frzAll, frzG, frzGAll, ms2, msUp, frzG, ms2, msUp, Rd.run, hat]
  rw [if_pos ⟨trivial, by omega⟩]
  simp only [List.drop_zero, List.take_length]
  rw [plainArgs_frz _ _ _ ha]
  have ha' : V.allPlain (.fz rows :: args) = true := by simpa [V.allPlain, V.plain] using ha
  rw [plainAll_ids _ ha']
  show (withR (lim T fns g) n (.fz rows :: args) ([(p, some (Ob.buf 1 rows true true))] ++ []) []).run h (p :: tr) = _
  unfold withR
  simp only [List.map_nil, upd1, List.contains_nil, Bool.not_false, List.all_nil, List.all_cons, Bool.and_self, Bool.and_true, plainAll_re _ _ ha', pullObs, hlim, List.length_nil, Nat.le_refl, if_true, List.append_nil]
  unfold afterR
  simp [plain_re _ _ hr, pushObs, hf, Rd.run]
/-- The same, of a function that answers bytes of its own. -/
theorem callV_msN {T : TT} {fns : FuncId → Option AFn} {g : FuncId} {fn : AFn} (hfn : fns g = some fn) {m : List Bool} (hp : fn.pfz = true :: m) {args : List V} {rows rows' : List (List V)} {c : Option Nat} {p l l' n : Nat} {h : Heap} {tr : List Nat} {f : Bool} (hat : h.at? p = some (.buf 1 rows f true)) (hl : l = rows.length) (ha : V.allPlain args = true)
    (hlim : lim T fns g (.fz rows :: args) [] = some (.ms 0 1 0 l' none, [some (.buf 1 rows' false true)])) : (callV (LX T fns) n (.clo g []) (.ms p 1 0 l c :: args)).run h tr = some ((.ms n 1 0 l' none, [(n, some (.buf 1 rows' false true)), (p, some (.buf 1 rows true true))]), p :: tr) := by
  subst hl
  unfold callV
  simp only [hfn]
  unfold callR
  simp only [hp, List.append_nil, frzArgs, frz, frzAll, frzG, frzGAll, ms2, msUp, frzG, ms2, msUp, Rd.run, hat]
  rw [if_pos ⟨trivial, by omega⟩]
  simp only [List.drop_zero, List.take_length]
  rw [plainArgs_frz _ _ _ ha]
  have ha' : V.allPlain (.fz rows :: args) = true := by simpa [V.allPlain, V.plain] using ha
  rw [plainAll_ids _ ha']
  show (withR (lim T fns g) n (.fz rows :: args) ([(p, some (Ob.buf 1 rows true true))] ++ []) []).run h (p :: tr) = _
  unfold withR
  simp only [List.map_nil, upd1, List.contains_nil, Bool.not_false, List.all_nil, List.all_cons, Bool.and_self, Bool.and_true, plainAll_re _ _ ha', pullObs, hlim, List.length_nil, Nat.zero_le, if_true, List.append_nil]
  unfold afterR
  simp only [List.length_cons, List.length_nil, Nat.zero_add, V.re, back, nth, Nat.lt_one_iff, if_true, Option.map_some, pushObs, Ob.re, Option.bind_some, List.isEmpty_cons, Bool.and_false, Bool.false_and, Bool.false_eq_true, if_false, Nat.sub_self, Nat.add_zero, List.append_nil, Rd.run]
  rfl
/-- What stands for a text behind its length. -/
def tx (s : ByteArray) : List Int := (s.size : Int) :: tb s
/-- A pair behind a key. -/
def pb (last : ByteArray) (p : S88) : List Int := (cmn last p.f0 : Int) :: (tx (p.f0.extract (cmn last p.f0) p.f0.size) ++ tx p.f1)
def psb : ByteArray → List S88 → List Int
  | _, [] => []
  | last, p :: ps => pb last p ++ psb p.f0 ps
def wb (w : S49) : List Int := tx w.f0 ++ be4 w.f1.length ++ psb ByteArray.empty w.f1
theorem txl (s : ByteArray) : (tx s).length = s.size + 1 := by simp [tx, tbl]
theorem pbl (last : ByteArray) (p : S88) : (pb last p).length ≤ 3 + p.f0.size + p.f1.size := by
  simp only [pb, List.length_cons, List.length_append, txl, ByteArray.size_extract]; omega
theorem lim21 (w : S49) (hn : w.f0.size ≤ 16) (hz : w.f1.all szP = true) (hl : w.f1.length < 1000000) : lim T fns 21 [.agg (k49.enc w)] [] = some (.fz (eb (wb w)), []) := by
  obtain ⟨nm, ps⟩ := w
  simp only at hn hz hl
  unfold wb
  simp only [k49_enc]
  refine fn_rule (fn := fn21) rfl rfl (by simp [fn21]) ?_
  unfold fn21
  simp only [Tryz.f21, Option.getD_some, argEnv, List.map_nil, List.length_nil]
  have hc1 : ∀ n, callV (LX T fns) n (.clo 52 []) [.nils, .str nm] = .pure (.fz (eb (tx nm)), []) := fun (n : Nat) => (callV_nils (T := T) (fns := fns) (g := 52) (fn := fn52) rfl (m := [true]) rfl [.str nm] n).trans (call52 [] nm (by omega) (by decide) n)
  have hc2 := fun (n : Nat) => call51 (tx nm) ps.length (by omega) (by rw [txl]; omega) n
  have w1 : IntKind.u32.wrap ((ps.length : Nat) : Int) = (ps.length : Int) := wu32 (by omega)
  simp only [go_sem, T_3, T_5, T_9, T_22, T_41, T_45, T_49, T_88, hc1, hc2, w1]
  repeat (refine ⟨by kernel_rfl, ?_⟩)
  refine loop_rule (ι := Nat × ByteArray × List Int × Nat) (S := fun p => ⟨[(3, .ms 0 1 0 p.2.2.2 none), (4, .str p.2.1), (18, .fz (ps.map k88.enc)), (19, .int .i64 ps.length), (20, .int .i64 (p.1 : Nat))], [some (.buf 1 (eb p.2.2.1) false true)]⟩) (m := fun p => ps.length + 1 - p.1)
    (I := fun p => p.1 ≤ ps.length ∧ p.2.1.size ≤ 16 ∧ p.2.2.2 = p.2.2.1.length ∧ p.2.2.1.length ≤ 60 + 60 * p.1 ∧ p.2.2.1 ++ psb p.2.1 (ps.drop p.1) = tx nm ++ be4 ps.length ++ psb ByteArray.empty ps) ?_ (0, ByteArray.empty, tx nm ++ be4 ps.length, (tx nm).length + 1 + 1 + 1 + 1) _ ⟨by omega, Nat.zero_le _, by simp [be4], by simp [be4, txl]; omega, rfl⟩ rfl
  rintro ⟨i, last, X, L⟩ ⟨hi, hla, hL, hX, hg⟩
  simp only at hi hla hL hX hg ⊢
  subst hL
  by_cases hlt : i < ps.length
  · have x0 : ps[i]? = some ps[i] := List.getElem?_eq_getElem hlt
    have hlt' : ((i : Int) < (ps.length : Int)) := by omega
    rw [List.drop_eq_getElem_cons hlt, psb] at hg
    have hs0 : szP ps[i] = true := (List.all_eq_true.1 hz) _ (List.getElem_mem _)
    have hpb := pbl last ps[i]
    generalize ps[i] = pr at *
    obtain ⟨ky, vl⟩ := pr
    simp only [szP, Bool.and_eq_true, decide_eq_true_eq] at hs0 hpb hg
    obtain ⟨hs1, hs2⟩ := hs0
    have hc3 := fun n => call53 last ky (by omega) (by omega) n
    have hcm := cmn_le last ky
    have hsz := ext_size last hcm.1
    obtain ⟨c, hc⟩ : ∃ c, c = cmn last ky := ⟨_, rfl⟩
    have hpbe : pb last ⟨ky, vl⟩ = ((c : Int) :: tx (ky.extract c ky.size)) ++ tx vl := by simp [pb, hc]
    rw [← hc] at hc3 hcm hsz
    have w8 : IntKind.u8.wrap (c : Int) = c := by rw [wu8]; omega
    have hre : (ky.extract c ky.size).size < 256 := by rw [ByteArray.size_extract]; omega
    have hc4 : ∀ n, callV (LX T fns) n (.clo 20 []) [.nils, .int .u8 c] = .pure (.ms n 1 0 1 none, [(n, some (.buf 1 (eb [(c : Int)]) false true))]) := fun n => (callV_nils (T := T) (fns := fns) (g := 20) (fn := fn20) rfl (m := [true]) rfl [.int .u8 c] n).trans (call20 [] c (by omega) (by decide) n)
    have hc5 : ∀ (n : Nat) (a b x y : Option Ob) (h : Heap) (tr : List Nat), (callV (LX T fns) n (.clo 52 []) [.ms 4 1 0 1 none, .str (ky.extract c ky.size)]).run (a :: b :: x :: y :: some (.buf 1 (eb [(c : Int)]) false true) :: h) tr = some ((.fz (eb ((c : Int) :: tx (ky.extract c ky.size))), [(4, some (.buf 1 (eb [(c : Int)]) true true))]), 4 :: tr) :=
      fun n a b x y h tr => callV_msF (fn := fn52) rfl (m := [true]) rfl rfl rfl rfl rfl rfl (lim52 [(c : Int)] (ky.extract c ky.size) hre (by simp))
    have hc6 : ∀ n, callV (LX T fns) n (.clo 52 []) [.fz (eb ((c : Int) :: tx (ky.extract c ky.size))), .str vl] = .pure (.fz (eb (pb last ⟨ky, vl⟩)), []) := fun n => by
      rw [hpbe]
      exact call52 _ vl (by omega) (by simp [txl]; omega) n
    have c0 : (c ≤ ky.size) = True := eq_true hcm.2
    have hpl : 0 < (pb last ⟨ky, vl⟩).length := by simp [pb]
    have ap := fun (m : Nat) (h : Heap) (hat : h.at? 0 = some (.buf 1 (eb X) false true)) (tr : List Nat) => append_own (ti := { kd := TK.int IntKind.u8, size := 1, bytes := 1, zero := V.int IntKind.u8 0 }) (n := m) (new := eb (pb last ⟨ky, vl⟩)) (tr := tr) (q := true) rfl rfl hat (l := X.length) (ebl X) (by rw [ebl]; omega) (by rw [ebl]; omega)
    simp only [go_sem, T_3, T_5, T_9, T_22, T_41, T_45, T_49, T_88, hlt, hlt', x0, all88, k88_enc, hc3, hsz, w8, hc4, hc5, hc6, c0, Nat.le_refl, natOf_cast, sliceR, cutS, optNat, Option.isSome_none, Option.isNone_none, Option.isNone_some, Option.map_none, Bool.and_true, Nat.zero_le, Nat.zero_add]
    repeat (refine ⟨by kernel_rfl, ?_⟩)
    rw [ap _ _ rfl]
    simp only [go_sem, T_3, T_5, T_9, T_22, T_41, T_45, T_49, T_88, ebl, wrap_i64s (show i < 1000000000000000000 by omega)]
    refine ⟨(i + 1, ky, X ++ pb last ⟨ky, vl⟩, X.length + (pb last ⟨ky, vl⟩).length), ⟨by simp only; omega, by simp only; omega, by simp, by simp only [List.length_append]; omega, by simp only [List.append_assoc]; simpa using hg⟩, by simp only; omega, ?_⟩
    simp only [eb_append]
    show _ = _
    kernel_rfl
  · have : i = ps.length := by omega
    subst this
    rw [List.drop_eq_nil_of_le (by omega), psb, List.append_nil] at hg
    rw [← hg]
    simp only [go_sem, T_3, T_5, T_9, T_22, T_41, T_45, T_49, T_88, hlt]
    rw [finish_ms rfl (ebl X).symm]
theorem call21 (w : S49) (hn : w.f0.size ≤ 16) (hz : w.f1.all szP = true) (hl : w.f1.length < 1000000) (n : Nat) : callV (LX T fns) n (.clo 21 []) [.agg (k49.enc w)] = .pure (.fz (eb (wb w)), []) := callV_plain (fn := fn21) rfl rfl rfl (lim21 w hn hz hl) n
def wsb : List S49 → List Int
  | [] => []
  | w :: l => wb w ++ wsb l
def body (l : List S49) : List Int := [109, 114, 99, 116, (l.length : Int)] ++ wsb l
theorem bytes_app {a b : List Int} (ha : Bytes a) (hb : Bytes b) : Bytes (a ++ b) := fun c hc => (List.mem_append.1 hc).elim (ha c) (hb c)
theorem bytes_tx {s : ByteArray} (h : s.size < 256) : Bytes (tx s) := fun c hc => by
  rcases List.mem_cons.1 hc with rfl | hc
  · omega
  · exact bytes_tb s c hc
theorem bytes_be4 (n : Nat) : Bytes (be4 n) := fun c hc => by
  simp only [be4, List.mem_cons, List.not_mem_nil, or_false] at hc
  rcases hc with rfl | rfl | rfl | rfl <;> omega
theorem bytes_pb {last : ByteArray} {p : S88} (h : szP p = true) : Bytes (pb last p) := by
  simp only [szP, Bool.and_eq_true, decide_eq_true_eq] at h
  intro c hc
  have h2 := (cmn_le last p.f0).2
  rcases List.mem_cons.1 hc with rfl | hc
  · omega
  · exact bytes_app (bytes_tx (by rw [ByteArray.size_extract]; omega)) (bytes_tx (by omega)) c hc
theorem bytes_psb : ∀ (ps : List S88) (last : ByteArray), ps.all szP = true → Bytes (psb last ps) ∧ (psb last ps).length ≤ 60 * ps.length
  | [], last, _ => ⟨fun c hc => by simp [psb] at hc, by simp [psb]⟩
  | p :: ps, last, h => by
    simp only [List.all_cons, Bool.and_eq_true] at h
    obtain ⟨h1, h2⟩ := bytes_psb ps p.f0 h.2
    refine ⟨bytes_app (bytes_pb h.1) h1, ?_⟩
    have h3 := pbl last p
    have h4 := h.1
    simp only [szP, Bool.and_eq_true, decide_eq_true_eq] at h4
    simp only [psb, List.length_append, List.length_cons]; omega
theorem bytes_wb {w : S49} (hn : w.f0.size ≤ 16) (hz : w.f1.all szP = true) (hl : w.f1.length < 1000000) : Bytes (wb w) ∧ (wb w).length ≤ 60001000 := by
  obtain ⟨h1, h2⟩ := bytes_psb w.f1 ByteArray.empty hz
  refine ⟨bytes_app (bytes_app (bytes_tx (by omega)) (bytes_be4 _)) h1, ?_⟩
  simp only [wb, List.length_append, txl, be4, List.length_cons, List.length_nil]; omega
theorem vOK_mem : ∀ {l : List S49} {last : ByteArray}, vOK last l = true → ∀ w ∈ l, w.f0.size ≤ 16 ∧ w.f1.all szP = true
  | [], _, _, w, hw => by simp at hw
  | x :: l, last, h, w, hw => by
    simp only [vOK, wholeP, Bool.and_eq_true, decide_eq_true_eq] at h
    rcases List.mem_cons.1 hw with rfl | hw
    · exact ⟨h.1.1.1.2, h.1.2.2⟩
    · exact vOK_mem h.2 w hw
theorem bytes_wsb : ∀ (l : List S49), (∀ w ∈ l, w.f0.size ≤ 16 ∧ w.f1.all szP = true ∧ w.f1.length < 1000000) → Bytes (wsb l) ∧ (wsb l).length ≤ 60001000 * l.length
  | [], _ => ⟨fun c hc => by simp [wsb] at hc, by simp [wsb]⟩
  | w :: l, h => by
    obtain ⟨h1, h2⟩ := bytes_wsb l fun x hx => h x (by simp [hx])
    have hw := h w (by simp)
    obtain ⟨h3, h4⟩ := bytes_wb hw.1 hw.2.1 hw.2.2
    refine ⟨bytes_app h3 h1, ?_⟩
    simp only [wsb, List.length_append, List.length_cons]; omega
theorem may_mem {l : List S49} (hf : few l) (h : mayP l = true) : l.length ≤ 16 ∧ ∀ w ∈ l, w.f0.size ≤ 16 ∧ w.f1.all szP = true ∧ w.f1.length < 1000000 := by
  simp only [mayP, Bool.and_eq_true, decide_eq_true_eq] at h
  exact ⟨h.2, fun w hw => ⟨(vOK_mem h.1 w hw).1, (vOK_mem h.1 w hw).2, hf.2 w hw⟩⟩
theorem bytes_body {l : List S49} (hf : few l) (h : mayP l = true) : Bytes (body l) ∧ (body l).length < 2000000000 := by
  obtain ⟨h1, h2⟩ := may_mem hf h
  obtain ⟨h3, h4⟩ := bytes_wsb l h2
  refine ⟨bytes_app (fun c hc => ?_) h3, ?_⟩
  · simp only [List.mem_cons, List.not_mem_nil, or_false] at hc
    rcases hc with rfl | rfl | rfl | rfl | rfl <;> omega
  · simp only [body, List.length_append, List.length_cons, List.length_nil]; omega
end Go.Proofs.YteookeenkjpemaaGreat.R
/- Chapter 32's laws: Put of both sides. -/
namespace Go.Proofs.YteookeenkjpemaaGreat.R
open Go Go.Proofs
open Go.Proofs.YteookeenkjpemaaGreat.Q (Bytes)
set_option linter.unusedSimpArgs false
set_option linter.unusedVariables false
set_option maxRecDepth 10000
set_option maxHeartbeats 1000000

/-- What Put answers: the bytes, the error. -/
def putP (l : List S49) : List Int × Nat := if mayP l then (markB (body l), 0) else ([], 1)
theorem lim8 (l : List S49) (hf : few l) : lim T fns 8 [.fz (l.map k49.enc)] [] = some (.tup [.fz (eb (putP l).1), .int .i64 (putP l).2], []) := by
  refine fn_rule (fn := fn8) rfl rfl (by simp [fn8]) ?_
  unfold fn8
  simp only [Tryz.f8, Option.getD_some, argEnv, List.map_nil, List.length_nil]
  have hc := fun n => call19 l hf n
  unfold putP
  cases hm : mayP l with
  | false =>
    rw [hm] at hc
    simp only [go_sem, T_3, T_4, T_5, T_9, T_22, T_29, T_45, T_49, T_88, hc]
    show _ = _
    kernel_rfl
  | true =>
    rw [hm] at hc
    obtain ⟨h16, hmem⟩ := may_mem hf hm
    obtain ⟨hbb, hbl⟩ := bytes_body hf hm
    have w8 : IntKind.u8.wrap (l.length : Int) = l.length := by rw [wu8]; omega
    have hc2 : ∀ (n : Nat) (h : Heap) (tr : List Nat), (callV (LX T fns) n (.clo 20 []) [.ms 0 1 0 4 none, .int .u8 l.length]).run (some (.buf 1 [[.int .u8 109], [.int .u8 114], [.int .u8 99], [.int .u8 116]] false true) :: h) tr = some ((.ms n 1 0 5 none, [(n, some (.buf 1 (eb [109, 114, 99, 116, (l.length : Int)]) false true)), (0, some (.buf 1 [[.int .u8 109], [.int .u8 114], [.int .u8 99], [.int .u8 116]] true true))]), 0 :: tr) :=
      fun n h tr => callV_msN (fn := fn20) rfl (m := [true]) rfl rfl rfl rfl (lim20 [109, 114, 99, 116] l.length (by omega) (by decide))
    simp only [go_sem, T_3, T_4, T_5, T_9, T_22, T_29, T_45, T_49, T_88, hc, hc2, w8, List.set_cons_zero, List.set_cons_succ]
    refine loop_rule (ι := Nat × List Int × Nat) (S := fun p => ⟨[(4, .ms 0 1 0 p.2.2 none), (16, .fz (l.map k49.enc)), (17, .int .i64 l.length), (18, .int .i64 (p.1 : Nat))], [some (.buf 1 (eb p.2.1) false true)]⟩) (m := fun p => l.length + 1 - p.1)
      (I := fun p => p.1 ≤ l.length ∧ p.2.2 = p.2.1.length ∧ p.2.1.length ≤ 5 + 60001000 * p.1 ∧ p.2.1 ++ wsb (l.drop p.1) = body l) ?_ (0, [109, 114, 99, 116, (l.length : Int)], 5) _ ⟨by omega, rfl, by simp, rfl⟩ rfl
    rintro ⟨i, X, L⟩ ⟨hi, hL, hX, hg⟩
    simp only at hi hL hX hg ⊢
    subst hL
    by_cases hlt : i < l.length
    · have x0 : l[i]? = some l[i] := List.getElem?_eq_getElem hlt
      have hlt' : ((i : Int) < (l.length : Int)) := by omega
      rw [List.drop_eq_getElem_cons hlt, wsb] at hg
      obtain ⟨m1, m2, m3⟩ := hmem l[i] (List.getElem_mem _)
      have hw := (bytes_wb m1 m2 m3).2
      have hc3 := fun n => call21 l[i] m1 m2 m3 n
      simp only [k49_enc] at hc3
      have hpos : (wb l[i]).length ≠ 0 := by simp [wb, tx]
      have ap := fun (m : Nat) (h : Heap) (hat : h.at? 0 = some (.buf 1 (eb X) false true)) (tr : List Nat) => append_own (ti := { kd := TK.int IntKind.u8, size := 1, bytes := 1, zero := V.int IntKind.u8 0 }) (n := m) (new := eb (wb l[i])) (tr := tr) (q := true) rfl rfl hat (l := X.length) (ebl X) (by rw [ebl]; omega) (by rw [ebl]; exact hpos)
      simp only [go_sem, T_3, T_4, T_5, T_9, T_22, T_29, T_45, T_49, T_88, hlt, hlt', x0, all49, k49_enc, hc3]
      rw [ap _ _ rfl]
      simp only [go_sem, T_3, T_4, T_5, T_9, T_22, T_29, T_45, T_49, T_88, ebl, wrap_i64s (show i < 1000000000000000000 by omega)]
      refine ⟨(i + 1, X ++ wb l[i], X.length + (wb l[i]).length), ⟨by simp only; omega, by simp, by simp only [List.length_append]; omega, by simp only [List.append_assoc]; exact hg⟩, by simp only; omega, ?_⟩
      simp only [eb_append]
      show _ = _
      kernel_rfl
    · have : i = l.length := by omega
      subst this
      rw [List.drop_eq_nil_of_le (by omega), wsb, List.append_nil] at hg
      subst hg
      have hc4 : ∀ (n : Nat) (h : Heap) (tr : List Nat), (callV (LX T fns) n (.clo 22 []) [.ms 0 1 0 (body l).length none]).run (some (.buf 1 (eb (body l)) false true) :: h) tr = some ((.fz (eb (markB (body l))), [(0, some (.buf 1 (eb (body l)) true true))]), 0 :: tr) :=
        fun n h tr => callV_msF (fn := fn22) rfl (m := []) rfl rfl (ebl _).symm rfl rfl rfl (lim22 (body l) hbb (by omega))
      simp only [go_sem, T_3, T_4, T_5, T_9, T_22, T_29, T_45, T_49, T_88, hlt, hc4]
      show _ = _
      kernel_rfl
theorem call8 (l : List S49) (hf : few l) (n : Nat) : callV (LX T fns) n (.clo 8 []) [.fz (l.map k49.enc)] = .pure (.tup [.fz (eb (putP l).1), .int .i64 (putP l).2], []) := callV_plain (fn := fn8) rfl rfl rfl (lim8 l hf) n
theorem lim18 (l : List S49) (hf : few l) : lim T fns 18 [.fz (l.map k49.enc)] [] = some (.tup [.fz (eb (putP l).1), .int .i64 (putP l).2], []) := by
  refine fn_rule (fn := fn18) rfl rfl (by simp [fn18]) ?_
  unfold fn18
  simp only [Tryz.f18, Option.getD_some, argEnv, List.map_nil, List.length_nil]
  have hc := fun n => call45 l hf n
  unfold putP
  cases hm : mayP l with
  | false =>
    rw [hm] at hc
    simp only [go_sem, T_1, T_3, T_4, T_5, T_9, T_22, T_29, T_45, T_49, T_57, T_88, hc]
    show _ = _
    kernel_rfl
  | true =>
    rw [hm] at hc
    obtain ⟨h16, hmem⟩ := may_mem hf hm
    obtain ⟨hbb, hbl⟩ := bytes_body hf hm
    have w8 : IntKind.u8.wrap (l.length : Int) = l.length := by rw [wu8]; omega
    simp only [go_sem, T_1, T_3, T_4, T_5, T_9, T_22, T_29, T_45, T_49, T_57, T_88, hc, w8, List.set_cons_zero, List.set_cons_succ]
    refine loop_rule (ι := Nat × List Int × Nat) (S := fun p => ⟨[(0, .fz (l.map k49.enc)), (4, .ms 0 1 0 p.2.2 none), (19, .int .i64 l.length), (20, .int .i64 (p.1 : Nat))], [some (.buf 1 (eb p.2.1) false true)]⟩) (m := fun p => l.length + 1 - p.1)
      (I := fun p => p.1 ≤ l.length ∧ p.2.2 = p.2.1.length ∧ p.2.1.length ≤ 5 + 60001000 * p.1 ∧ p.2.1 ++ wsb (l.drop p.1) = body l) ?_ (0, [109, 114, 99, 116, (l.length : Int)], 5) _ ⟨by omega, rfl, by simp, rfl⟩ rfl
    rintro ⟨i, X, L⟩ ⟨hi, hL, hX, hg⟩
    simp only at hi hL hX hg ⊢
    subst hL
    by_cases hlt : i < l.length
    · have x0 : l[i]? = some l[i] := List.getElem?_eq_getElem hlt
      have hlt' : ((i : Int) < (l.length : Int)) := by omega
      rw [List.drop_eq_getElem_cons hlt, wsb] at hg
      obtain ⟨m1, m2, m3⟩ := hmem l[i] (List.getElem_mem _)
      have hw := (bytes_wb m1 m2 m3).2
      generalize hli : l[i] = w at *
      obtain ⟨nm, ps⟩ := w
      simp only at m1 m2 m3
      have hc2 : ∀ (n : Nat) (h : Heap) (tr : List Nat), (callV (LX T fns) n (.clo 46 []) [.ms 0 1 0 X.length none, .str nm]).run (some (.buf 1 (eb X) false true) :: h) tr = some ((.ms n 1 0 (X.length + 1 + nm.size) none, [(n, some (.buf 1 (eb (X ++ tx nm)) false true)), (0, some (.buf 1 (eb X) true true))]), 0 :: tr) :=
        fun n h tr => callV_msN (fn := fn46) rfl (m := [true]) rfl rfl (ebl X).symm rfl (lim46 X nm (by omega) (by omega))
      have hc3 : ∀ (n : Nat) (a : Option Ob) (h : Heap) (tr : List Nat), (callV (LX T fns) n (.clo 47 []) [.ms 1 1 0 (X.length + 1 + nm.size) none, .int .u64 ps.length, .int .i64 4]).run (a :: some (.buf 1 (eb (X ++ tx nm)) false true) :: h) tr = some ((.ms n 1 0 (X.length + 1 + nm.size + 4) none, [(n, some (.buf 1 (eb (X ++ tx nm ++ be4 ps.length)) false true)), (1, some (.buf 1 (eb (X ++ tx nm)) true true))]), 1 :: tr) :=
        fun n a h tr => callV_msN (fn := fn47) rfl (m := [true, true]) rfl rfl (by rw [ebl, List.length_append, txl]; omega) rfl (by
          have := lim47 (X ++ tx nm) ps.length 4 (by omega) (.inr rfl) (by rw [List.length_append, txl]; omega)
          rw [be_4, List.length_append, txl] at this
          rw [show X.length + 1 + nm.size + 4 = X.length + (nm.size + 1) + 4 by omega]
          exact this)
      have w64 := wu64 (show ps.length < 18446744073709551616 by omega)
      have hwl : wb ⟨nm, ps⟩ = tx nm ++ be4 ps.length ++ psb ByteArray.empty ps := rfl
      have hpsl := (bytes_psb ps ByteArray.empty m2).2
      simp only [go_sem, T_1, T_3, T_4, T_5, T_9, T_22, T_29, T_45, T_49, T_57, T_88, hlt, hlt', x0, all49, k49_enc, hc2, hc3, w64]
      refine loop_rule (ι := Nat × ByteArray × List Int × Nat) (S := fun p => ⟨[(0, .fz (l.map k49.enc)), (4, .ms 0 1 0 p.2.2.2 none), (5, .int .i64 i), (6, .str p.2.1), (19, .int .i64 l.length), (20, .int .i64 i), (44, .int .i64 ps.length), (45, .int .i64 (p.1 : Nat))], [some (.buf 1 (eb p.2.2.1) false true)]⟩) (m := fun p => ps.length + 1 - p.1)
        (I := fun p => p.1 ≤ ps.length ∧ p.2.1.size ≤ 16 ∧ p.2.2.2 = p.2.2.1.length ∧ p.2.2.1.length ≤ X.length + 60 + 60 * p.1 ∧ p.2.2.1 ++ psb p.2.1 (ps.drop p.1) = X ++ wb ⟨nm, ps⟩) ?_ (0, ByteArray.empty, X ++ tx nm ++ be4 ps.length, X.length + 1 + nm.size + 4) _ ⟨by omega, Nat.zero_le _, by simp [be4, txl]; omega, by simp [be4, txl]; omega, by rw [hwl]; simp [List.append_assoc]⟩ rfl
      rintro ⟨k, last, Y, L⟩ ⟨hk, hla, hL, hY, hh⟩
      simp only at hk hla hL hY hh ⊢
      subst hL
      by_cases hkl : k < ps.length
      · have y0 : ps[k]? = some ps[k] := List.getElem?_eq_getElem hkl
        have hkl' : ((k : Int) < (ps.length : Int)) := by omega
        rw [List.drop_eq_getElem_cons hkl, psb] at hh
        have hs0 : szP ps[k] = true := (List.all_eq_true.1 m2) _ (List.getElem_mem _)
        have hpb := pbl last ps[k]
        generalize ps[k] = pr at *
        obtain ⟨ky, vl⟩ := pr
        simp only [szP, Bool.and_eq_true, decide_eq_true_eq] at hs0 hpb hh
        obtain ⟨hs1, hs2⟩ := hs0
        have hc5 := fun n => call48 last ky (by omega) (by omega) n
        have hcm := cmn_le last ky
        have hsz := ext_size last hcm.1
        obtain ⟨c, hcc⟩ : ∃ c, c = cmn last ky := ⟨_, rfl⟩
        have hpbe : Y ++ pb last ⟨ky, vl⟩ = Y ++ [(c : Int)] ++ tx (ky.extract c ky.size) ++ tx vl := by simp [pb, hcc, List.append_assoc]
        rw [← hcc] at hc5 hcm hsz
        have w9 : IntKind.u8.wrap (c : Int) = c := by rw [wu8]; omega
        have hrl : (ky.extract c ky.size).size ≤ 16 := by rw [ByteArray.size_extract]; omega
        have c0 : (c ≤ ky.size) = True := eq_true hcm.2
        have hc6 : ∀ (n : Nat) (a b x : Option Ob) (h : Heap) (tr : List Nat), (callV (LX T fns) n (.clo 46 []) [.ms 3 1 0 (Y.length + 1) none, .str (ky.extract c ky.size)]).run (a :: b :: x :: some (.buf 1 (eb Y ++ [[.int .u8 c]]) false true) :: h) tr = some ((.ms n 1 0 (Y.length + 1 + 1 + (ky.extract c ky.size).size) none, [(n, some (.buf 1 (eb (Y ++ [(c : Int)] ++ tx (ky.extract c ky.size))) false true)), (3, some (.buf 1 (eb (Y ++ [(c : Int)])) true true))]), 3 :: tr) :=
          fun n a b x h tr => by
            have e : eb Y ++ [[.int .u8 c]] = eb (Y ++ [(c : Int)]) := by rw [eb_append]; rfl
            rw [e]
            exact callV_msN (fn := fn46) rfl (m := [true]) rfl rfl (by rw [ebl]; simp) rfl (by
              have := lim46 (Y ++ [(c : Int)]) (ky.extract c ky.size) (by omega) (by simp; omega)
              rw [List.length_append] at this
              exact this)
        have hc7 : ∀ (n : Nat) (a b x y : Option Ob) (h : Heap) (tr : List Nat), (callV (LX T fns) n (.clo 46 []) [.ms 4 1 0 (Y.length + 1 + 1 + (ky.extract c ky.size).size) none, .str vl]).run (a :: b :: x :: y :: some (.buf 1 (eb (Y ++ [(c : Int)] ++ tx (ky.extract c ky.size))) false true) :: h) tr = some ((.ms n 1 0 (Y.length + 1 + 1 + (ky.extract c ky.size).size + 1 + vl.size) none, [(n, some (.buf 1 (eb (Y ++ pb last ⟨ky, vl⟩)) false true)), (4, some (.buf 1 (eb (Y ++ [(c : Int)] ++ tx (ky.extract c ky.size))) true true))]), 4 :: tr) :=
          fun n a b x y h tr => callV_msN (fn := fn46) rfl (m := [true]) rfl rfl (by rw [ebl]; simp [txl]; omega) rfl (by
            have := lim46 (Y ++ [(c : Int)] ++ tx (ky.extract c ky.size)) vl (by omega) (by simp [txl]; omega)
            rw [hpbe]
            rw [List.length_append, List.length_append, txl] at this
            rw [show Y.length + 1 + 1 + (ky.extract c ky.size).size + 1 + vl.size = Y.length + [(c : Int)].length + ((ky.extract c ky.size).size + 1) + 1 + vl.size by simp only [List.length_cons, List.length_nil]; omega]
            exact this)
        simp only [go_sem, T_1, T_3, T_4, T_5, T_9, T_22, T_29, T_45, T_49, T_57, T_88, hlt, hlt', x0, hkl, hkl', y0, all49, k49_enc, all88, k88_enc, hc5, hsz, w9, appL_some, show (Y.length + 1) * 1 ≤ 140737488355328 by omega, show Y.length + 1 ≤ 140737488355328 by omega, ebl, hc6, hc7, c0, wrap_i64s (show k < 1000000000000000000 by omega), Nat.le_refl, natOf_cast, sliceR, cutS, optNat, Option.isSome_none, Option.isNone_none, Option.isNone_some, Option.map_none, Bool.and_true, Nat.zero_le, Nat.zero_add]
        refine ⟨(k + 1, ky, Y ++ pb last ⟨ky, vl⟩, Y.length + 1 + 1 + (ky.extract c ky.size).size + 1 + vl.size), ⟨by simp only; omega, by simp only; omega, by rw [hpbe]; simp [txl]; omega, by simp only [List.length_append]; omega, by simp only [List.append_assoc]; exact hh⟩, by simp only; omega, rfl⟩
      · have : k = ps.length := by omega
        subst this
        rw [List.drop_eq_nil_of_le (by omega), psb, List.append_nil] at hh
        subst hh
        simp only [go_sem, T_1, T_3, T_4, T_5, T_9, T_22, T_29, T_45, T_49, T_57, T_88, hkl, wrap_i64s (show i < 1000000000000000000 by omega)]
        refine ⟨(i + 1, X ++ wb ⟨nm, ps⟩, X.length + (wb ⟨nm, ps⟩).length), ⟨by simp only; omega, by simp, by simp only [List.length_append]; omega, by simp only [List.append_assoc]; exact hg⟩, by simp only; omega, rfl⟩
    · have : i = l.length := by omega
      subst this
      rw [List.drop_eq_nil_of_le (by omega), wsb, List.append_nil] at hg
      subst hg
      have hc4 : ∀ (n : Nat) (h : Heap) (tr : List Nat), (callV (LX T fns) n (.clo 43 []) [.ms 0 1 0 (body l).length none]).run (some (.buf 1 (eb (body l)) false true) :: h) tr = some ((.fz (eb (markB (body l))), [(0, some (.buf 1 (eb (body l)) true true))]), 0 :: tr) :=
        fun n h tr => callV_msF (fn := fn43) rfl (m := []) rfl rfl (ebl _).symm rfl rfl rfl (lim43 (body l) hbb (by omega))
      simp only [go_sem, T_1, T_3, T_4, T_5, T_9, T_22, T_29, T_45, T_49, T_57, T_88, hlt, hc4]
      show _ = _
      kernel_rfl
theorem call18 (l : List S49) (hf : few l) (n : Nat) : callV (LX T fns) n (.clo 18 []) [.fz (l.map k49.enc)] = .pure (.tup [.fz (eb (putP l).1), .int .i64 (putP l).2], []) := callV_plain (fn := fn18) rfl rfl rfl (lim18 l hf) n
end Go.Proofs.YteookeenkjpemaaGreat.R
/- Chapter 32's laws: the program's Get. -/
namespace Go.Proofs.YteookeenkjpemaaGreat.R
open Go Go.Proofs
open Go.Proofs.YteookeenkjpemaaGreat.Q (Bytes)
set_option linter.unusedSimpArgs false
set_option linter.unusedVariables false
set_option maxRecDepth 10000
set_option maxHeartbeats 1000000

theorem tk_mono (B : List Int) (z : Nat) (s : Nat × Nat) : s.1 ≤ (tk B z s).2.1 := by
  unfold tk
  split
  · exact Nat.le_refl _
  · split
    · exact Nat.le_refl _
    · simp only; omega
theorem gt_mono (B : List Int) (m : Nat) (s : Nat × Nat) : s.1 ≤ (gt B m s).2.1 := by
  have h := tk_mono B 1 s
  unfold gt
  split
  · exact h
  · split
    · exact Nat.le_refl _
    · split
      · exact Nat.le_refl _
      · simp only; omega
theorem failR_fst (x : Nat) (s : Nat × Nat) : (failR x s).1 = s.1 := by unfold failR; split <;> rfl
theorem prP_mono (B : List Int) (last : ByteArray) (s : Nat × Nat) : s.1 ≤ (prP B last s).2.1 := by
  have h := tk_mono B 1 s
  unfold prP
  simp only
  by_cases h1 : last.size < (tk B 1 s).1
  · rw [if_pos h1]
    have h2 := gt_mono B (16 - 0) (failR 3 (tk B 1 s).2)
    have h3 := gt_mono B 32 (gt B (16 - 0) (failR 3 (tk B 1 s).2)).2
    rw [failR_fst] at h2
    show s.1 ≤ (gt B 32 (gt B (16 - 0) (failR 3 (tk B 1 s).2)).2).2.1
    omega
  · rw [if_neg h1]
    have h2 := gt_mono B (16 - (tk B 1 s).1) (tk B 1 s).2
    have h3 := gt_mono B 32 (gt B (16 - (tk B 1 s).1) (tk B 1 s).2).2
    omega
theorem prs_at {B : List Int} (hb : Bytes B) : ∀ (k : Nat) (last : ByteArray) (ps : List S88) (s : Nat × Nat), last.size ≤ 16 → s.1 ≤ B.length → s.2 < 100 →
    (prs B k last ps s).1.length + s.1 ≤ ps.length + (prs B k last ps s).2.1 ∧ (prs B k last ps s).2.1 ≤ B.length ∧ (prs B k last ps s).2.2 < 100
  | 0, last, ps, s, hl, h1, h2 => ⟨Nat.le_refl _, h1, h2⟩
  | k + 1, last, ps, s, hl, h1, h2 => by
    obtain ⟨a1, a2, a3, _⟩ := prP_at (last := last) hb hl h1 h2
    have h3 := prP_mono B last s
    rw [prs]
    split
    · simp only
      exact ⟨by omega, a1, a2⟩
    · obtain ⟨b1, b2, b3⟩ := prs_at hb k (prP B last s).1.f0 (ps ++ [(prP B last s).1]) (prP B last s).2 a3 a1 a2
      rw [List.length_append, List.length_cons, List.length_nil] at b1
      exact ⟨by omega, b2, b3⟩
theorem whP_at {B : List Int} (hb : Bytes B) {s : Nat × Nat} (h1 : s.1 ≤ B.length) (h2 : s.2 < 100) : (whP B s).2.1 ≤ B.length ∧ (whP B s).2.2 < 100 ∧ (whP B s).1.f1.length ≤ B.length := by
  have a := gt_at (B := B) (m := 16) h1 h2
  have b := tk_at (B := B) (z := 4) a.1 a.2
  obtain ⟨c1, c2, c3⟩ := prs_at hb (tk B 4 (gt B 16 s).2).1 ByteArray.empty [] _ (Nat.zero_le _) b.1 b.2
  unfold whP
  simp only
  refine ⟨c2, c3, ?_⟩
  rw [List.length_nil] at c1
  omega
theorem whs_at {B : List Int} (hb : Bytes B) : ∀ (k : Nat) (l : List S49) (s : Nat × Nat), s.1 ≤ B.length → s.2 < 100 → (∀ w ∈ l, w.f1.length ≤ B.length) →
    (whs B k l s).1.length = l.length + k ∧ (whs B k l s).2.1 ≤ B.length ∧ (whs B k l s).2.2 < 100 ∧ ∀ w ∈ (whs B k l s).1, w.f1.length ≤ B.length
  | 0, l, s, h1, h2, h3 => ⟨rfl, h1, h2, h3⟩
  | k + 1, l, s, h1, h2, h3 => by
    obtain ⟨a1, a2, a3⟩ := whP_at hb h1 h2
    rw [whs]
    obtain ⟨b1, b2, b3, b4⟩ := whs_at hb k (l ++ [(whP B s).1]) (whP B s).2 a1 a2 (fun w hw => by
      rcases List.mem_append.1 hw with hw | hw
      · exact h3 w hw
      · rw [List.mem_singleton] at hw
        rw [hw]; exact a3)
    refine ⟨by rw [b1, List.length_append, List.length_cons, List.length_nil]; omega, b2, b3, b4⟩
theorem volP_at {B : List Int} (hb : Bytes B) {s : Nat × Nat} (h1 : s.1 ≤ B.length) (h2 : s.2 < 100) (hl : B.length < 1000000) : (volP B s).2.1 ≤ B.length ∧ (volP B s).2.2 < 100 ∧ few (volP B s).1 := by
  have a := tk_at (B := B) (z := 1) h1 h2
  have a2 := tk_lt hb 1 s
  unfold volP
  split
  · have := failR_at (L := B.length) (x := 13) a.1 a.2 (by decide)
    exact ⟨this.1, this.2, by simp, fun w hw => by simp at hw⟩
  · obtain ⟨b1, b2, b3, b4⟩ := whs_at hb (tk B 1 s).1 [] (tk B 1 s).2 a.1 a.2 (fun w hw => by simp at hw)
    refine ⟨b2, b3, by rw [b1, List.length_nil]; omega, fun w hw => ?_⟩
    have := b4 w hw
    omega
def fitsP (b : List Int) : Bool := decide (4 ≤ b.length ∧ markB (b.take (b.length - 4)) = b)
def prefP (o : List Int) : Bool := decide (4 ≤ o.length ∧ o.take 4 = [109, 114, 99, 116])
def getP (b : List Int) : List S49 × Nat :=
  if fitsP b = false then ([], 5)
  else if prefP (b.take (b.length - 4)) = false then ([], 7)
  else
    let B := (b.take (b.length - 4)).drop 4
    let r := volP B (0, 0)
    if endR B.length r.2 ≠ 0 then ([], endR B.length r.2)
    else if (putP r.1).2 ≠ 0 ∨ (putP r.1).1 ≠ b then ([], 3)
    else (r.1, 0)
theorem txt_take (o : List Int) (n : Nat) : (txt o).extract 0 n = txt (o.take n) := by
  apply ByteArray.ext
  apply Array.toList_inj.1
  rw [toList_ext]
  simp [txt, List.map_take]
theorem hasP_pref {o : List Int} (ho : Bytes o) : hasP (txt o) ⟨#[109, 114, 99, 116]⟩ = prefP o := by
  unfold hasP prefP
  have e : (⟨#[109, 114, 99, 116]⟩ : ByteArray) = txt [109, 114, 99, 116] := rfl
  have h4 : (⟨#[109, 114, 99, 116]⟩ : ByteArray).size = 4 := rfl
  rw [h4, txt_size, txt_take, e]
  simp only [decide_eq_decide]
  refine and_congr Iff.rfl ?_
  exact txt_inj (bytes_take ho 4) (fun c hc => by
    simp only [List.mem_cons, List.not_mem_nil, or_false] at hc
    rcases hc with rfl | rfl | rfl | rfl <;> omega)
theorem call27 (b : List Int) (hb : Bytes b) (hl : b.length < 1000000000000) (n : Nat) : callV (LX T fns) n (.clo 27 []) [.fz (eb b)] = .pure (.bool (fitsP b), []) := callV_plain (fn := fn27) rfl rfl rfl (lim27 b hb hl) n
theorem call29_0 (B : List Int) (hl : B.length < 1000000000000) : callV (LX T fns) 0 (.clo 29 []) [.fz (eb B)] = .pure (.ptr 0 0 0, [(0, some (rdO B.length 0 0)), (1, some (byO B))]) :=
  callV_new (fn := fn29) rfl rfl (lim29 B hl) rfl rfl rfl
theorem call30 (B : List Int) (hb : Bytes B) (hl : B.length < 1000000000000) (s : Nat × Nat) (hs : s.1 ≤ B.length) (he : s.2 < 100) (n : Nat) (hn : 2 ≤ n) (rest : Heap) : (callV (LX T fns) n (.clo 30 []) [.ptr 0 0 0]).run (some (rdO B.length s.1 s.2) :: some (byO B) :: rest) [] =
    some ((.fz ((volP B s).1.map k49.enc), [(0, some (rdO B.length (volP B s).2.1 (volP B s).2.2)), (1, some (byO B))]), [1, 0]) := by
  have h := lim30 B hb hl s hs he
  simp only [rdO, byO] at h ⊢
  have hf : fns 30 = some fn30 := rfl
  unfold callV
  simp only [hf]
  unfold callR
  simp only [fn30, List.cons_append, List.nil_append, List.append_nil, frzArgs, frz, frzAll, frzG, frzGAll, ms2, msUp, List.tail]
  simp only [V.allIds, V.ids, List.append_nil, List.nil_append, collect, List.map_nil, List.contains_nil, Bool.false_eq_true, if_false, Rd.run, Heap.at?, Ob.ids, rowsIds, List.map_cons, List.cons_append, List.contains_cons, Nat.reduceBEq, Bool.or_self, Bool.or_false, Bool.false_or, Bool.or_true, Bool.true_or, if_true]
  unfold withR
  simp only [List.map_cons, List.map_nil, upd1, List.all_nil, List.all_cons, show 0 < n by omega, show 1 < n by omega, decide_true, Bool.and_self, if_true, V.reAll, V.re, idx, Nat.beq, cond_true, cond_false, Option.bind_some, Option.map_some, pullObs, Ob.re, reRows, Nat.reduceAdd, h, List.length_cons, List.length_nil, Nat.le_refl]
  unfold afterR
  simp only [V.re, V.reAll, pushObs, back, nth, Ob.re, reRows, Option.bind_some, Option.map_some, List.isEmpty_cons, Bool.false_and, Bool.false_eq_true, if_false, Rd.run, List.append_nil, Nat.reduceAdd]
theorem call31 (B : List Int) (hl : B.length < 1000000000000) (s : Nat × Nat) (hs : s.1 ≤ B.length) (n : Nat) (hn : 2 ≤ n) (rest : Heap) : (callV (LX T fns) n (.clo 31 []) [.ptr 0 0 0]).run (some (rdO B.length s.1 s.2) :: some (byO B) :: rest) [] =
    some ((.int .i64 (endR B.length s), [(0, some (rdO B.length s.1 s.2)), (1, some (byO B))]), [1, 0]) := by
  have h := lim31 B hl s hs
  simp only [rdO, byO] at h ⊢
  have hf : fns 31 = some fn31 := rfl
  unfold callV
  simp only [hf]
  unfold callR
  simp only [fn31, List.cons_append, List.nil_append, List.append_nil, frzArgs, frz, frzAll, frzG, frzGAll, ms2, msUp, List.tail]
  simp only [V.allIds, V.ids, List.append_nil, List.nil_append, collect, List.map_nil, List.contains_nil, Bool.false_eq_true, if_false, Rd.run, Heap.at?, Ob.ids, rowsIds, List.map_cons, List.cons_append, List.contains_cons, Nat.reduceBEq, Bool.or_self, Bool.or_false, Bool.false_or, Bool.or_true, Bool.true_or, if_true]
  unfold withR
  simp only [List.map_cons, List.map_nil, upd1, List.all_nil, List.all_cons, show 0 < n by omega, show 1 < n by omega, decide_true, Bool.and_self, if_true, V.reAll, V.re, idx, Nat.beq, cond_true, cond_false, Option.bind_some, Option.map_some, pullObs, Ob.re, reRows, Nat.reduceAdd, h, List.length_cons, List.length_nil, Nat.le_refl]
  unfold afterR
  simp only [V.re, V.reAll, pushObs, back, nth, Ob.re, reRows, Option.bind_some, Option.map_some, List.isEmpty_cons, Bool.false_and, Bool.false_eq_true, if_false, Rd.run, List.append_nil, Nat.reduceAdd]
theorem n00 : ((((0 : Nat) : Int)) != 0) = false := rfl
theorem fits_len {b : List Int} (h : fitsP b = true) : 4 ≤ b.length := (of_decide_eq_true h).1
theorem lim11 (b : List Int) (hb : Bytes b) (hl : b.length < 900000) : lim T fns 11 [.fz (eb b)] [] = some (.tup [.fz ((getP b).1.map k49.enc), .int .i64 (getP b).2], []) := by
  refine fn_rule (fn := fn11) rfl rfl (by simp [fn11]) ?_
  unfold fn11
  simp only [Tryz.f11, Option.getD_some, argEnv, List.map_nil, List.length_nil]
  have hc1 := fun n => call27 b hb (by omega) n
  unfold getP
  cases hf : fitsP b with
  | false =>
    rw [hf] at hc1
    simp only [go_sem, T_3, T_4, T_5, T_9, T_22, T_24, T_29, T_45, T_49, T_88, T_90, hc1]
    show _ = _
    kernel_rfl
  | true =>
    rw [hf] at hc1
    have h4 := fits_len hf
    have w4 : IntKind.i64.wrap ((b.length : Int) - 4) = ((b.length - 4 : Nat) : Int) := by
      rw [show (b.length : Int) - 4 = ((b.length - 4 : Nat) : Int) by omega, IntKind.wrap_i64]; omega
    have c6 : (b.length - 4 ≤ b.length) = True := eq_true (by omega)
    have t1 : List.take (b.length - 4) (eb b) = eb (b.take (b.length - 4)) := by simp [eb, List.map_take]
    have ho := bytes_take hb (b.length - 4)
    have hc2 := fun n => call28 (txt (b.take (b.length - 4))) ⟨#[109, 114, 99, 116]⟩ (by rw [txt_size]; simp; omega) (by decide) n
    simp only [hasP_pref ho] at hc2
    have ft : (true = false) = False := by simp
    cases hp : prefP (b.take (b.length - 4)) with
    | false =>
      simp only [hp] at hc2
      simp only [go_sem, T_3, T_4, T_5, T_9, T_22, T_24, T_29, T_45, T_49, T_88, T_90, hc1, hc2, ebl, alleb, w4, c6, t1, bytesR_eb, natOf_cast, sliceR, cutS, optNat, Option.isSome_none, Option.isNone_none, Option.isNone_some, Option.map_none, Bool.and_true, Nat.zero_le, Nat.zero_add, Nat.sub_zero]
      simp only [ft, if_false, if_true]
      show _ = _
      kernel_rfl
    | true =>
      simp only [hp] at hc2
      have hp2 : 4 ≤ (b.take (b.length - 4)).length := (of_decide_eq_true hp).1
      have hp3 : 4 ≤ b.length - 4 := by rw [List.length_take] at hp2; omega
      simp only [ft, if_false]
      have c7 : (4 ≤ b.length - 4) = True := eq_true hp3
      have e44 : natOf (.int .i64 4) = some 4 := rfl
      have t2 : List.take (b.length - 4 - 4) (List.drop 4 (eb b)) = eb ((b.take (b.length - 4)).drop 4) := by
        rw [List.drop_take, eb, eb, List.map_take, List.map_drop]
      have hB : Bytes ((b.take (b.length - 4)).drop 4) := bytes_drop ho 4
      have hBl : ((b.take (b.length - 4)).drop 4).length < 1000000 := by simp only [List.length_drop, List.length_take]; omega
      generalize (b.take (b.length - 4)).drop 4 = B at *
      have hc3 := call29_0 B (by omega)
      have hc4 := fun (n : Nat) (hn : 2 ≤ n) (rest : Heap) => call30 B hB (by omega) (0, 0) (Nat.zero_le _) (by decide) n hn rest
      obtain ⟨v1, v2, v3⟩ := volP_at (s := (0, 0)) hB (Nat.zero_le _) (by decide) hBl
      generalize volP B (0, 0) = r at *
      obtain ⟨l, s⟩ := r
      simp only at v1 v2 v3 hc4 ⊢
      have hc5 := fun (n : Nat) (hn : 2 ≤ n) (rest : Heap) => call31 B (by omega) s v1 n hn rest
      have hc6 := fun n => call8 l v3 n
      by_cases he : endR B.length s = 0
      · have ne : (endR B.length s ≠ 0) = False := by simp [he]
        rw [he] at hc5
        simp only [ne, if_false]
        by_cases hp0 : (putP l).2 = 0
        · have hpl : (putP l).1.length < 3000000000 := by
            unfold putP
            cases hm : mayP l with
            | true => have := (bytes_body v3 hm).2; simp [markB, tail4]; omega
            | false => simp
          have hc7 := fun n => call32 (putP l).1 b (by omega) (by omega) n
          by_cases hq : (putP l).1 = b
          · rw [hp0] at hc6
            have hd : decide ((putP l).1 = b) = true := by simp [hq]
            rw [hd] at hc7
            have nq : ((putP l).2 ≠ 0 ∨ (putP l).1 ≠ b) = False := by simp [hp0, hq]
            simp only [nq, if_false]
            simp only [rdO, byO] at hc3 hc4 hc5
            simp only [go_sem, T_3, T_4, T_5, T_9, T_22, T_24, T_29, T_45, T_49, T_88, T_90, hc1, hc2, hc3, hc4, hc5, hc6, hc7, n00, ebl, alleb, w4, c6, c7, t1, t2, e44, bytesR_eb, natOf_cast, sliceR, cutS, optNat, Option.isSome_none, Option.isNone_none, Option.isNone_some, Option.map_none, Bool.and_true, Nat.zero_le, Nat.zero_add, Nat.sub_zero]
            rfl
          · rw [hp0] at hc6
            have hd : decide ((putP l).1 = b) = false := by simp [hq]
            rw [hd] at hc7
            have nq : ((putP l).2 ≠ 0 ∨ (putP l).1 ≠ b) = True := by simp [hq]
            simp only [nq, if_true]
            simp only [rdO, byO] at hc3 hc4 hc5
            simp only [go_sem, T_3, T_4, T_5, T_9, T_22, T_24, T_29, T_45, T_49, T_88, T_90, hc1, hc2, hc3, hc4, hc5, hc6, hc7, n00, ebl, alleb, w4, c6, c7, t1, t2, e44, bytesR_eb, natOf_cast, sliceR, cutS, optNat, Option.isSome_none, Option.isNone_none, Option.isNone_some, Option.map_none, Bool.and_true, Nat.zero_le, Nat.zero_add, Nat.sub_zero]
            show _ = _
            kernel_rfl
        · have n33 : (((putP l).2 : Int) != 0) = true := by simp; omega
          have nq : ((putP l).2 ≠ 0 ∨ (putP l).1 ≠ b) = True := by simp [hp0]
          simp only [nq, if_true]
          simp only [rdO, byO] at hc3 hc4 hc5
          simp only [go_sem, T_3, T_4, T_5, T_9, T_22, T_24, T_29, T_45, T_49, T_88, T_90, hc1, hc2, hc3, hc4, hc5, hc6, n00, n33, ebl, alleb, w4, c6, c7, t1, t2, e44, bytesR_eb, natOf_cast, sliceR, cutS, optNat, Option.isSome_none, Option.isNone_none, Option.isNone_some, Option.map_none, Bool.and_true, Nat.zero_le, Nat.zero_add, Nat.sub_zero]
          show _ = _
          kernel_rfl
      · have n30 : ((endR B.length s : Int) != 0) = true := by simp; omega
        have ne : (endR B.length s ≠ 0) = True := eq_true he
        simp only [ne, if_true]
        simp only [rdO, byO] at hc3 hc4 hc5
        simp only [go_sem, T_3, T_4, T_5, T_9, T_22, T_24, T_29, T_45, T_49, T_88, T_90, hc1, hc2, hc3, hc4, hc5, n00, n30, ebl, alleb, w4, c6, c7, t1, t2, e44, bytesR_eb, natOf_cast, sliceR, cutS, optNat, Option.isSome_none, Option.isNone_none, Option.isNone_some, Option.map_none, Bool.and_true, Nat.zero_le, Nat.zero_add, Nat.sub_zero]
        show _ = _
        kernel_rfl
theorem call11 (b : List Int) (hb : Bytes b) (hl : b.length < 900000) (n : Nat) : callV (LX T fns) n (.clo 11 []) [.fz (eb b)] = .pure (.tup [.fz ((getP b).1.map k49.enc), .int .i64 (getP b).2], []) := callV_plain (fn := fn11) rfl rfl rfl (lim11 b hb hl) n
end Go.Proofs.YteookeenkjpemaaGreat.R
/- Chapter 32's laws: the document's Get. -/
namespace Go.Proofs.YteookeenkjpemaaGreat.R
open Go Go.Proofs
open Go.Proofs.YteookeenkjpemaaGreat.Q (Bytes)
set_option linter.unusedSimpArgs false
set_option linter.unusedVariables false
set_option maxRecDepth 10000
set_option maxHeartbeats 1000000

def ors (B : List Int) : Nat → List S49 → Nat × Nat → List S49 × (Nat × Nat)
  | 0, l, s => (l, s)
  | k + 1, l, s => if s.2 ≠ 0 then (l, s) else ors B k (l ++ [(oneP B s).1]) (oneP B s).2
def dgetP (b : List Int) : List S49 × Nat :=
  if fitsP b = false then ([], 5)
  else if prefP (b.take (b.length - 4)) = false then ([], 7)
  else
    let O := b.take (b.length - 4)
    let n := tk O 1 (4, 0)
    if 16 < n.1 then ([], 13)
    else
      let r := ors O n.1 [] n.2
      if endR O.length r.2 ≠ 0 then ([], endR O.length r.2)
      else if (putP r.1).2 ≠ 0 ∨ (putP r.1).1 ≠ b then ([], 3)
      else (r.1, 0)
theorem orn_at {B : List Int} : ∀ (k : Nat) (last : ByteArray) (ps : List S88) (s : Nat × Nat), s.1 ≤ B.length → s.2 < 100 →
    (orn B k last ps s).1.length + s.1 ≤ ps.length + (orn B k last ps s).2.1 ∧ (orn B k last ps s).2.1 ≤ B.length ∧ (orn B k last ps s).2.2 < 100
  | 0, last, ps, s, h1, h2 => ⟨Nat.le_refl _, h1, h2⟩
  | k + 1, last, ps, s, h1, h2 => by
    have a := tk_at (B := B) (z := 1) h1 h2
    have am := tk_mono B 1 s
    rw [orn]
    by_cases c1 : s.2 ≠ 0
    · rw [if_pos c1]; exact ⟨Nat.le_refl _, h1, h2⟩
    rw [if_neg c1]
    by_cases c2 : (tk B 1 s).2.2 = 0 ∧ last.size < (tk B 1 s).1
    · rw [if_pos c2]; exact ⟨by simp only; omega, a.1, by simp⟩
    rw [if_neg c2]
    by_cases c3 : (tk B 1 s).2.2 ≠ 0
    · rw [if_pos c3]; exact ⟨by simp only; omega, a.1, a.2⟩
    rw [if_neg c3]
    have am2 : s.1 + 1 ≤ (tk B 1 s).2.1 := by
      have c1' : s.2 = 0 := by simpa using c1
      have c3' : (tk B 1 s).2.2 = 0 := by simpa using c3
      unfold tk at c3' ⊢
      rw [if_neg (by simp [c1'])] at c3' ⊢
      split at c3'
      · simp at c3'
      · rename_i hh; rw [if_neg hh]; exact Nat.le_refl _
    have b := gt_at (B := B) (m := 16 - (tk B 1 s).1) a.1 a.2
    have bm := gt_mono B (16 - (tk B 1 s).1) (tk B 1 s).2
    have c := gt_at (B := B) (m := 32) b.1 b.2
    have cm := gt_mono B 32 (gt B (16 - (tk B 1 s).1) (tk B 1 s).2).2
    obtain ⟨d1, d2, d3⟩ := orn_at k (last.extract 0 (tk B 1 s).1 ++ (gt B (16 - (tk B 1 s).1) (tk B 1 s).2).1) (ps ++ [⟨last.extract 0 (tk B 1 s).1 ++ (gt B (16 - (tk B 1 s).1) (tk B 1 s).2).1, (gt B 32 (gt B (16 - (tk B 1 s).1) (tk B 1 s).2).2).1⟩]) _ c.1 c.2
    rw [List.length_append, List.length_cons, List.length_nil] at d1
    exact ⟨by simp only; omega, d2, d3⟩
theorem oneP_at {B : List Int} {s : Nat × Nat} (h1 : s.1 ≤ B.length) (h2 : s.2 < 100) : (oneP B s).2.1 ≤ B.length ∧ (oneP B s).2.2 < 100 ∧ (oneP B s).1.f1.length ≤ B.length := by
  have a := gt_at (B := B) (m := 16) h1 h2
  have b := tk_at (B := B) (z := 4) a.1 a.2
  obtain ⟨c1, c2, c3⟩ := orn_at (tk B 4 (gt B 16 s).2).1 ByteArray.empty [] _ b.1 b.2
  unfold oneP
  simp only
  refine ⟨c2, c3, ?_⟩
  rw [List.length_nil] at c1
  omega
/-- A call that is handed bytes of an object: they are frozen. -/
theorem callV_msFs {T : TT} {fns : FuncId → Option AFn} {g : FuncId} {fn : AFn} (hfn : fns g = some fn) {m : List Bool} (hp : fn.pfz = true :: m) {args : List V} {rows : List (List V)} {c : Option Nat} {p l n : Nat} {h : Heap} {tr : List Nat} {r : V} {f : Bool} {st : Nat} (hat : h.at? p = some (.buf st rows f true)) (hl : l = rows.length) (ha : V.allPlain args = true)
    (hr : r.plain = true) (hf : r.noFz = false) (hlim : lim T fns g (.fz rows :: args) [] = some (r, [])) : (callV (LX T fns) n (.clo g []) (.ms p st 0 l c :: args)).run h tr = some ((r, [(p, some (.buf st rows true true))]), p :: tr) := by
  subst hl
  unfold callV
  simp only [hfn]
  unfold callR
  simp only [hp, List.append_nil, frzArgs, frz, frzAll, frzG, frzGAll, ms2, msUp, frzG, ms2, msUp, Rd.run, hat]
  rw [if_pos ⟨trivial, by omega⟩]
  simp only [List.drop_zero, List.take_length]
  rw [plainArgs_frz _ _ _ ha]
  have ha' : V.allPlain (.fz rows :: args) = true := by simpa [V.allPlain, V.plain] using ha
  rw [plainAll_ids _ ha']
  show (withR (lim T fns g) n (.fz rows :: args) ([(p, some (Ob.buf st rows true true))] ++ []) []).run h (p :: tr) = _
  unfold withR
  simp only [List.map_nil, upd1, List.contains_nil, Bool.not_false, List.all_nil, List.all_cons, Bool.and_self, Bool.and_true, plainAll_re _ _ ha', pullObs, hlim, List.length_nil, Nat.le_refl, if_true, List.append_nil]
  unfold afterR
  simp [plain_re _ _ hr, pushObs, hf, Rd.run]
theorem finish7 {H : Heap} {p : Nat} {l : List S49} {e : Int} {f : Bool} (hat : H.at? p = some (.buf 2 (l.map k49.enc) f true)) :
    finish 0 true (.tup [.ms p 2 0 l.length none, .int .i64 e]) H = some (.tup [.fz (l.map k49.enc), .int .i64 e], []) := by
  refine finish_fz ?_
  simp only [frz, frzAll, frzG, frzGAll, ms2, msUp, Rd.run, hat, List.length_map, Nat.zero_add, Nat.le_refl, and_self, if_true, FZ, pl_tup, pl_cons, pl_nil, pl_int, pl_fz, Bool.and_self, List.drop_zero]
  rw [List.take_of_length_le (by simp)]
theorem call14 (b : List Int) (hb : Bytes b) (hl : b.length < 1000000000000) (n : Nat) : callV (LX T fns) n (.clo 14 []) [.fz (eb b)] = .pure (.bool (fitsP b), []) := callV_plain (fn := fn14) rfl rfl rfl (lim14 b hb hl) n
theorem putP_len {l : List S49} (hf : few l) : (putP l).1.length < 3000000000 := by
  unfold putP
  cases hm : mayP l with
  | true => have := (bytes_body hf hm).2; simp [markB, tail4]; omega
  | false => simp
theorem putP_bytes {l : List S49} (hf : few l) : Bytes (putP l).1 := by
  unfold putP
  cases hm : mayP l with
  | true => exact bytes_mark (bytes_body hf hm).1
  | false => intro c hc; simp at hc
theorem lim7 (b : List Int) (hb : Bytes b) (hl : b.length < 900000) : lim T fns 7 [.fz (eb b)] [] = some (.tup [.fz ((dgetP b).1.map k49.enc), .int .i64 (dgetP b).2], []) := by
  refine fn_rule (fn := fn7) rfl rfl (by simp [fn7]) ?_
  unfold fn7
  simp only [Tryz.f7, Option.getD_some, argEnv, List.map_nil, List.length_nil]
  have hc1 := fun n => call14 b hb (by omega) n
  unfold dgetP
  cases hf : fitsP b with
  | false =>
    rw [hf] at hc1
    simp only [go_sem, T_1, T_3, T_4, T_5, T_9, T_22, T_29, T_45, T_49, T_57, T_59, T_88, hc1]
    exact finish7 (l := []) rfl
  | true =>
    rw [hf] at hc1
    have h4 := fits_len hf
    have w4 : IntKind.i64.wrap ((b.length : Int) - 4) = ((b.length - 4 : Nat) : Int) := by
      rw [show (b.length : Int) - 4 = ((b.length - 4 : Nat) : Int) by omega, IntKind.wrap_i64]; omega
    have c6 : (b.length - 4 ≤ b.length) = True := eq_true (by omega)
    have t1 : List.take (b.length - 4) (eb b) = eb (b.take (b.length - 4)) := by simp [eb, List.map_take]
    have hO := bytes_take hb (b.length - 4)
    have hOl : (b.take (b.length - 4)).length < 900000 := by rw [List.length_take]; omega
    have ft : (true = false) = False := by simp
    simp only [ft, if_false]
    generalize b.take (b.length - 4) = O at *
    have e44 : natOf (.int .i64 4) = some 4 := rfl
    have t3 : List.take 4 (eb O) = eb (O.take 4) := by simp [eb, List.map_take]
    by_cases hO4 : 4 ≤ O.length
    · have f4 : ((O.length : Int) < 4) = False := eq_false (by omega)
      have c4 : (4 ≤ O.length) = True := eq_true hO4
      have hcmp : ((txt (O.take 4)).toList == (⟨#[109, 114, 99, 116]⟩ : ByteArray).toList) = prefP O := by
        rw [beq_txt, show (⟨#[109, 114, 99, 116]⟩ : ByteArray) = txt [109, 114, 99, 116] from rfl]
        unfold prefP
        simp only [decide_eq_decide, hO4, true_and]
        exact txt_inj (bytes_take hO 4) (fun c hc => by
          simp only [List.mem_cons, List.not_mem_nil, or_false] at hc
          rcases hc with rfl | rfl | rfl | rfl <;> omega)
      cases hp : prefP O with
      | false =>
        rw [hp] at hcmp
        simp only [if_true]
        simp only [go_sem, T_1, T_3, T_4, T_5, T_9, T_22, T_29, T_45, T_49, T_57, T_59, T_88, hc1, ebl, alleb, w4, c6, c4, t1, t3, f4, hcmp, e44, bytesR_eb, natOf_cast, sliceR, cutS, optNat, Option.isSome_none, Option.isNone_none, Option.isNone_some, Option.map_none, Bool.and_true, Nat.zero_le, Nat.zero_add, Nat.sub_zero]
        exact finish7 (l := []) rfl
      | true =>
        rw [hp] at hcmp
        simp only [ft, if_false]
        have hc2 := fun n => call15 O hO (by omega) 1 (by decide) (4, 0) hO4 (by decide) n
        have ha := tk_at (B := O) (z := 1) (s := (4, 0)) hO4 (by decide)
        have hv := tk_lt hO 1 (4, 0)
        generalize tk O 1 (4, 0) = t at *
        obtain ⟨v, s1⟩ := t
        simp only at ha hv hc2 ⊢
        simp only [docR, show ((1 : Nat) : Int) = 1 from rfl, show ((4 : Nat) : Int) = 4 from rfl, show ((0 : Nat) : Int) = 0 from rfl] at hc2
        by_cases h16 : 16 < v
        · have g1 : ((v : Int) > 16) = True := eq_true (by omega)
          simp only [h16, if_true]
          simp only [go_sem, T_1, T_3, T_4, T_5, T_9, T_22, T_29, T_45, T_49, T_57, T_59, T_88, hc1, hc2, g1, ebl, alleb, w4, c6, c4, t1, t3, f4, hcmp, e44, bytesR_eb, natOf_cast, sliceR, cutS, optNat, Option.isSome_none, Option.isNone_none, Option.isNone_some, Option.map_none, Bool.and_true, Nat.zero_le, Nat.zero_add, Nat.sub_zero]
          exact finish7 (l := []) rfl
        · have g1 : ((v : Int) > 16) = False := eq_false (by omega)
          simp only [h16, if_false]
          simp only [go_sem, T_1, T_3, T_4, T_5, T_9, T_22, T_29, T_45, T_49, T_57, T_59, T_88, hc1, hc2, g1, ebl, alleb, w4, c6, c4, t1, t3, f4, hcmp, e44, bytesR_eb, natOf_cast, sliceR, cutS, optNat, Option.isSome_none, Option.isNone_none, Option.isNone_some, Option.map_none, Bool.and_true, Nat.zero_le, Nat.zero_add, Nat.sub_zero]
          refine loop_rule (ι := Nat × List S49 × (Nat × Nat)) (S := fun p => ⟨[(0, .fz (eb b)), (4, .ms 0 2 0 0 none), (6, .int .u64 v), (7, .ptr 1 0 0), (8, .ms 2 2 0 p.2.1.length none), (9, .int .u64 (p.1 : Nat))], [some (.buf 2 [] false true), some (.buf 3 [[.fz (eb O), .int .i64 p.2.2.1, .int .i64 p.2.2.2]] false true), some (.buf 2 (p.2.1.map k49.enc) false true)]⟩) (m := fun p => v + 1 - p.1)
            (I := fun p => p.1 ≤ v ∧ p.2.1.length ≤ p.1 ∧ (∀ w ∈ p.2.1, w.f1.length ≤ O.length) ∧ p.2.2.1 ≤ O.length ∧ p.2.2.2 < 100 ∧ ors O (v - p.1) p.2.1 p.2.2 = ors O v [] s1) ?_ (0, [], s1) _ ⟨by omega, by simp, fun w hw => by simp at hw, ha.1, ha.2, rfl⟩ rfl
          rintro ⟨i, l, s⟩ ⟨hi, hll, hlw, hs1, hs2, hg⟩
          simp only at hi hll hlw hs1 hs2 hg ⊢
          have hfew : few l := ⟨by omega, fun w hw => by have := hlw w hw; omega⟩
          by_cases hlt : i < v
          · have hlt' : ((i : Int) < (v : Int)) := by omega
            by_cases he5 : s.2 = 0
            · have e1 : ((s.2 : Int) == 0) = true := by simp [he5]
              rw [show v - i = (v - (i + 1)) + 1 by omega, ors, if_neg (by simp [he5])] at hg
              have hc3 := fun n => call16 O hO (by omega) s hs1 hs2 n
              obtain ⟨o1, o2, o3⟩ := oneP_at (B := O) hs1 hs2
              generalize oneP O s = t at *
              obtain ⟨w, s3⟩ := t
              simp only at o1 o2 o3 hc3 hg
              simp only [docR, k49_enc] at hc3
              have wi : IntKind.u64.wrap ((i : Int) + 1) = ((i + 1 : Nat) : Int) := by
                rw [show (i : Int) + 1 = ((i + 1 : Nat) : Int) by omega]; exact wu64 (by omega)
              simp only [go_sem, T_1, T_3, T_4, T_5, T_9, T_22, T_29, T_45, T_49, T_57, T_59, T_88, hlt, hlt', e1, hc3, wi, appL_some, show (l.length + 1) * 40 ≤ 140737488355328 by omega, show l.length + 1 ≤ 140737488355328 by omega]
              refine ⟨(i + 1, l ++ [w], s3), ⟨by simp only; omega, by simp only [List.length_append, List.length_cons, List.length_nil]; omega, fun x hx => ?_, o1, o2, hg⟩, by simp only; omega, ?_⟩
              · rcases List.mem_append.1 hx with hx | hx
                · exact hlw x hx
                · rw [List.mem_singleton] at hx
                  rw [hx]; exact o3
              · simp only [List.length_append, List.length_cons, List.length_nil, List.map_append, List.map_cons, List.map_nil, k49_enc]
                show _ = _
                kernel_rfl
            · have e1 : ((s.2 : Int) == 0) = false := by simp; omega
              rw [show v - i = (v - (i + 1)) + 1 by omega, ors, if_pos he5] at hg
              have hfin : ors O v [] s1 = (l, s) := hg.symm
              rw [hfin]
              have hc4 := fun n => call17 O (by omega) s n
              have hc5 : ∀ (n : Nat) (a x : Option Ob) (h : Heap) (tr : List Nat), (callV (LX T fns) n (.clo 18 []) [.ms 2 2 0 l.length none]).run (a :: x :: some (.buf 2 (l.map k49.enc) false true) :: h) tr = some ((.tup [.fz (eb (putP l).1), .int .i64 (putP l).2], [(2, some (.buf 2 (l.map k49.enc) true true))]), 2 :: tr) :=
                fun n a x h tr => callV_msFs (fn := fn18) rfl (m := []) rfl rfl (by simp) rfl rfl rfl (lim18 l hfew)
              simp only [docR] at hc4
              by_cases he : endR O.length s = 0
              · have ne : (endR O.length s ≠ 0) = False := by simp [he]
                rw [he] at hc4
                simp only [ne, if_false]
                by_cases hp0 : (putP l).2 = 0
                · by_cases hq : (putP l).1 = b
                  · rw [hp0] at hc5
                    have nq : ((putP l).2 ≠ 0 ∨ (putP l).1 ≠ b) = False := by simp [hp0, hq]
                    have hcmp2 : ((txt (putP l).1).toList == (txt b).toList) = true := by rw [hq]; simp
                    simp only [nq, if_false]
                    simp only [go_sem, T_1, T_3, T_4, T_5, T_9, T_22, T_29, T_45, T_49, T_57, T_59, T_88, hlt, hlt', e1, hc4, hc5, hcmp2, n00, alleb, bytesR_eb, Option.isSome_none, Option.isNone_none, Option.isNone_some, Option.map_none, Bool.and_true, Nat.zero_le, Nat.zero_add, Nat.sub_zero]
                    exact finish7 rfl
                  · rw [hp0] at hc5
                    have nq : ((putP l).2 ≠ 0 ∨ (putP l).1 ≠ b) = True := by simp [hq]
                    have hcmp2 : ((txt (putP l).1).toList == (txt b).toList) = false := by
                      rw [beq_txt, decide_eq_false_iff_not, txt_inj (putP_bytes hfew) hb]; exact hq
                    simp only [nq, if_true]
                    simp only [go_sem, T_1, T_3, T_4, T_5, T_9, T_22, T_29, T_45, T_49, T_57, T_59, T_88, hlt, hlt', e1, hc4, hc5, hcmp2, n00, alleb, bytesR_eb, Option.isSome_none, Option.isNone_none, Option.isNone_some, Option.map_none, Bool.and_true, Nat.zero_le, Nat.zero_add, Nat.sub_zero]
                    exact finish7 (l := []) rfl
                · have n33 : (((putP l).2 : Int) != 0) = true := by simp; omega
                  have nq : ((putP l).2 ≠ 0 ∨ (putP l).1 ≠ b) = True := by simp [hp0]
                  simp only [nq, if_true]
                  simp only [go_sem, T_1, T_3, T_4, T_5, T_9, T_22, T_29, T_45, T_49, T_57, T_59, T_88, hlt, hlt', e1, hc4, hc5, n00, n33, alleb, bytesR_eb, Option.isSome_none, Option.isNone_none, Option.isNone_some, Option.map_none, Bool.and_true, Nat.zero_le, Nat.zero_add, Nat.sub_zero]
                  exact finish7 (l := []) rfl
              · have n30 : ((endR O.length s : Int) != 0) = true := by simp; omega
                have ne : (endR O.length s ≠ 0) = True := eq_true he
                simp only [ne, if_true]
                simp only [go_sem, T_1, T_3, T_4, T_5, T_9, T_22, T_29, T_45, T_49, T_57, T_59, T_88, hlt, hlt', e1, hc4, n30, Option.isSome_none, Option.isNone_none, Option.isNone_some, Option.map_none, Bool.and_true, Nat.zero_le, Nat.zero_add, Nat.sub_zero]
                exact finish7 (l := []) rfl
          · have : i = v := by omega
            subst this
            have hii : ((i : Int) < (i : Int)) = False := by simp
            rw [Nat.sub_self, ors] at hg
            have hfin : ors O i [] s1 = (l, s) := hg.symm
            rw [hfin]
            have hc4 := fun n => call17 O (by omega) s n
            have hc5 : ∀ (n : Nat) (a x : Option Ob) (h : Heap) (tr : List Nat), (callV (LX T fns) n (.clo 18 []) [.ms 2 2 0 l.length none]).run (a :: x :: some (.buf 2 (l.map k49.enc) false true) :: h) tr = some ((.tup [.fz (eb (putP l).1), .int .i64 (putP l).2], [(2, some (.buf 2 (l.map k49.enc) true true))]), 2 :: tr) :=
              fun n a x h tr => callV_msFs (fn := fn18) rfl (m := []) rfl rfl (by simp) rfl rfl rfl (lim18 l hfew)
            simp only [docR] at hc4
            by_cases he : endR O.length s = 0
            · have ne : (endR O.length s ≠ 0) = False := by simp [he]
              rw [he] at hc4
              simp only [ne, if_false]
              by_cases hp0 : (putP l).2 = 0
              · by_cases hq : (putP l).1 = b
                · rw [hp0] at hc5
                  have nq : ((putP l).2 ≠ 0 ∨ (putP l).1 ≠ b) = False := by simp [hp0, hq]
                  have hcmp2 : ((txt (putP l).1).toList == (txt b).toList) = true := by rw [hq]; simp
                  simp only [nq, if_false]
                  simp only [go_sem, T_1, T_3, T_4, T_5, T_9, T_22, T_29, T_45, T_49, T_57, T_59, T_88, hii, hc4, hc5, hcmp2, n00, alleb, bytesR_eb, Option.isSome_none, Option.isNone_none, Option.isNone_some, Option.map_none, Bool.and_true, Nat.zero_le, Nat.zero_add, Nat.sub_zero]
                  exact finish7 rfl
                · rw [hp0] at hc5
                  have nq : ((putP l).2 ≠ 0 ∨ (putP l).1 ≠ b) = True := by simp [hq]
                  have hcmp2 : ((txt (putP l).1).toList == (txt b).toList) = false := by
                    rw [beq_txt, decide_eq_false_iff_not, txt_inj (putP_bytes hfew) hb]; exact hq
                  simp only [nq, if_true]
                  simp only [go_sem, T_1, T_3, T_4, T_5, T_9, T_22, T_29, T_45, T_49, T_57, T_59, T_88, hii, hc4, hc5, hcmp2, n00, alleb, bytesR_eb, Option.isSome_none, Option.isNone_none, Option.isNone_some, Option.map_none, Bool.and_true, Nat.zero_le, Nat.zero_add, Nat.sub_zero]
                  exact finish7 (l := []) rfl
              · have n33 : (((putP l).2 : Int) != 0) = true := by simp; omega
                have nq : ((putP l).2 ≠ 0 ∨ (putP l).1 ≠ b) = True := by simp [hp0]
                simp only [nq, if_true]
                simp only [go_sem, T_1, T_3, T_4, T_5, T_9, T_22, T_29, T_45, T_49, T_57, T_59, T_88, hii, hc4, hc5, n00, n33, alleb, bytesR_eb, Option.isSome_none, Option.isNone_none, Option.isNone_some, Option.map_none, Bool.and_true, Nat.zero_le, Nat.zero_add, Nat.sub_zero]
                exact finish7 (l := []) rfl
            · have n30 : ((endR O.length s : Int) != 0) = true := by simp; omega
              have ne : (endR O.length s ≠ 0) = True := eq_true he
              simp only [ne, if_true]
              simp only [go_sem, T_1, T_3, T_4, T_5, T_9, T_22, T_29, T_45, T_49, T_57, T_59, T_88, hii, hc4, n30, Option.isSome_none, Option.isNone_none, Option.isNone_some, Option.map_none, Bool.and_true, Nat.zero_le, Nat.zero_add, Nat.sub_zero]
              exact finish7 (l := []) rfl
    · have f4 : ((O.length : Int) < 4) = True := eq_true (by omega)
      have hp : prefP O = false := by simp [prefP, hO4]
      simp only [hp, if_true]
      simp only [go_sem, T_1, T_3, T_4, T_5, T_9, T_22, T_29, T_45, T_49, T_57, T_59, T_88, hc1, ebl, alleb, w4, c6, t1, f4, natOf_cast, sliceR, cutS, optNat, Option.isSome_none, Option.isNone_none, Option.isNone_some, Option.map_none, Bool.and_true, Nat.zero_le, Nat.zero_add, Nat.sub_zero]
      exact finish7 (l := []) rfl
theorem call7 (b : List Int) (hb : Bytes b) (hl : b.length < 900000) (n : Nat) : callV (LX T fns) n (.clo 7 []) [.fz (eb b)] = .pure (.tup [.fz ((dgetP b).1.map k49.enc), .int .i64 (dgetP b).2], []) := callV_plain (fn := fn7) rfl rfl rfl (lim7 b hb hl) n
end Go.Proofs.YteookeenkjpemaaGreat.R
/- Chapter 32's laws: both readers come to the same. -/
namespace Go.Proofs.YteookeenkjpemaaGreat.R
open Go Go.Proofs
open Go.Proofs.YteookeenkjpemaaGreat.Q (Bytes)
set_option linter.unusedSimpArgs false
set_option linter.unusedVariables false

def sh (s : Nat × Nat) : Nat × Nat := (s.1 + 4, s.2)
theorem tk_err {B : List Int} {z : Nat} {s : Nat × Nat} (h : s.2 ≠ 0) : tk B z s = (0, s) := by unfold tk; rw [if_pos h]
theorem gt_err {B : List Int} {m : Nat} {s : Nat × Nat} (h : s.2 ≠ 0) : gt B m s = (ByteArray.empty, s) := by
  unfold gt
  rw [tk_err h]
  simp only [if_pos h]
theorem failR_err {x : Nat} {s : Nat × Nat} (h : s.2 ≠ 0) : failR x s = s := by unfold failR; rw [if_neg h]
theorem prP_err {B : List Int} {last : ByteArray} {s : Nat × Nat} (h : s.2 ≠ 0) : (prP B last s).2 = s := by
  unfold prP
  rw [tk_err h]
  simp only [Nat.not_lt_zero, if_false]
  rw [gt_err h, gt_err h]
theorem prs_err {B : List Int} {k : Nat} {last : ByteArray} {ps : List S88} {s : Nat × Nat} (h : s.2 ≠ 0) : prs B k last ps s = (ps, s) := by
  cases k with
  | zero => rfl
  | succ k =>
    rw [prs, prP_err h, if_pos rfl]
theorem orn_err {O : List Int} {k : Nat} {last : ByteArray} {ps : List S88} {s : Nat × Nat} (h : s.2 ≠ 0) : orn O k last ps s = (ps, s) := by
  cases k with
  | zero => rfl
  | succ k => rw [orn, if_pos h]
theorem whP_err {B : List Int} {s : Nat × Nat} (h : s.2 ≠ 0) : (whP B s).2 = s := by
  unfold whP
  simp only
  rw [gt_err h]
  simp only
  rw [tk_err h]
  rfl
theorem whs_err {B : List Int} : ∀ (k : Nat) (l : List S49) (s : Nat × Nat), s.2 ≠ 0 → (whs B k l s).2 = s
  | 0, l, s, _ => rfl
  | k + 1, l, s, h => by
    rw [whs, whP_err h]
    exact whs_err k _ s h
theorem ors_err {O : List Int} (k : Nat) (l : List S49) (s : Nat × Nat) (h : s.2 ≠ 0) : (ors O k l s).2 = s := by
  cases k with
  | zero => rfl
  | succ k => rw [ors, if_pos h]
section
variable {B O : List Int} (hl : O.length = B.length + 4) (hd : ∀ i, O.drop (i + 4) = B.drop i)
include hl hd
theorem tk_sh (z : Nat) (s : Nat × Nat) : tk O z (sh s) = ((tk B z s).1, sh (tk B z s).2) := by
  unfold tk sh
  simp only
  by_cases h0 : s.2 ≠ 0
  · rw [if_pos h0, if_pos h0]
  · rw [if_neg h0, if_neg h0]
    by_cases h1 : B.length < s.1 + z
    · rw [if_pos h1, if_pos (by omega)]
    · rw [if_neg h1, if_neg (by omega), hd]
      simp only [Prod.mk.injEq, and_true, true_and]; omega
theorem gt_sh (m : Nat) (s : Nat × Nat) : gt O m (sh s) = ((gt B m s).1, sh (gt B m s).2) := by
  unfold gt
  rw [tk_sh hl hd]
  simp only
  have e2 : (sh (tk B 1 s).2).2 = (tk B 1 s).2.2 := rfl
  have e1 : (sh (tk B 1 s).2).1 = (tk B 1 s).2.1 + 4 := rfl
  rw [e2, e1]
  by_cases h0 : (tk B 1 s).2.2 ≠ 0
  · rw [if_pos h0, if_pos h0]
  · rw [if_neg h0, if_neg h0]
    by_cases h1 : m < (tk B 1 s).1
    · rw [if_pos h1, if_pos h1]; rfl
    · rw [if_neg h1, if_neg h1]
      by_cases h2 : B.length - (tk B 1 s).2.1 < (tk B 1 s).1
      · rw [if_pos h2, if_pos (by omega)]; rfl
      · rw [if_neg h2, if_neg (by omega), hd]
        simp only [sh, Prod.mk.injEq, and_true, true_and]; omega
theorem pairs_same : ∀ (k : Nat) (last : ByteArray) (ps : List S88) (s : Nat × Nat), last.size ≤ 16 → s.1 ≤ B.length → s.2 < 100 → Bytes B →
    (prs B k last ps s).2.2 = (orn O k last ps (sh s)).2.2 ∧ ((prs B k last ps s).2.2 = 0 → (prs B k last ps s).1 = (orn O k last ps (sh s)).1 ∧ (orn O k last ps (sh s)).2 = sh (prs B k last ps s).2)
  | 0, last, ps, s, _, _, _, _ => ⟨rfl, fun _ => ⟨rfl, rfl⟩⟩
  | k + 1, last, ps, s, hla, h1, h2, hb => by
    by_cases h0 : s.2 = 0
    · have hsh : (sh s).2 = 0 := h0
      rw [orn, if_neg (by simp [hsh]), tk_sh hl hd]
      simp only
      have e2 : (sh (tk B 1 s).2).2 = (tk B 1 s).2.2 := rfl
      have e1 : (sh (tk B 1 s).2).1 = (tk B 1 s).2.1 + 4 := rfl
      have a := tk_at (B := B) (z := 1) h1 h2
      rw [e2, e1]
      by_cases h3 : (tk B 1 s).2.2 = 0
      · have hm : (tk B 1 s).2.1 = s.1 + 1 ∧ s.1 + 1 ≤ B.length := by
          unfold tk at h3 ⊢
          rw [if_neg (by simp [h0])] at h3 ⊢
          split at h3
          · simp at h3
          · rename_i hh
            rw [if_neg hh]
            exact ⟨rfl, by omega⟩
        by_cases h4 : last.size < (tk B 1 s).1
        · rw [if_pos ⟨h3, h4⟩]
          have hf : failR 3 (tk B 1 s).2 = ((tk B 1 s).2.1, 3) := by unfold failR; rw [if_pos h3]
          have hp : (prP B last s).2 = ((tk B 1 s).2.1, 3) := by
            unfold prP
            simp only
            rw [if_pos h4, hf]
            simp only
            have e5 := gt_err (B := B) (m := 16 - 0) (s := ((tk B 1 s).2.1, 3)) (by simp)
            rw [e5]
            simp only
            rw [gt_err (by simp)]
          rw [prs, hp, if_neg (by simp only; omega), prs_err (by simp)]
          exact ⟨rfl, fun h => by simp at h⟩
        · rw [if_neg (by simp [h4]), if_neg (by simp [h3]), gt_sh hl hd]
          simp only
          rw [gt_sh hl hd]
          have hp : prP B last s = (⟨last.extract 0 (tk B 1 s).1 ++ (gt B (16 - (tk B 1 s).1) (tk B 1 s).2).1, (gt B 32 (gt B (16 - (tk B 1 s).1) (tk B 1 s).2).2).1⟩, (gt B 32 (gt B (16 - (tk B 1 s).1) (tk B 1 s).2).2).2) := by
            unfold prP
            simp only
            rw [if_neg h4]
          obtain ⟨p1, p2, p3, _⟩ := prP_at (last := last) hb hla h1 h2
          have m1 := gt_mono B (16 - (tk B 1 s).1) (tk B 1 s).2
          have m2 := gt_mono B 32 (gt B (16 - (tk B 1 s).1) (tk B 1 s).2).2
          rw [hp] at p1 p2 p3
          simp only at p1 p2 p3
          rw [prs, hp]
          simp only
          rw [if_neg (by omega)]
          exact pairs_same k _ _ _ p3 p1 p2 hb
      · rw [if_neg (by simp [h3]), if_pos h3]
        have ht : (tk B 1 s).1 = 0 ∧ (tk B 1 s).2.1 = s.1 := by
          unfold tk at h3 ⊢
          rw [if_neg (by simp [h0])] at h3 ⊢
          split at h3
          · rename_i hh; rw [if_pos hh]; exact ⟨rfl, rfl⟩
          · simp at h3
        have hp : (prP B last s).2 = (tk B 1 s).2 := by
          unfold prP
          simp only
          rw [if_neg (by rw [ht.1]; omega), gt_err h3, gt_err h3]
        rw [prs, hp, if_pos (by rw [ht.2])]
        exact ⟨rfl, fun h => absurd h h3⟩
    · rw [prs_err h0, orn_err (show (sh s).2 ≠ 0 from h0)]
      exact ⟨rfl, fun h => absurd h h0⟩
theorem one_same (s : Nat × Nat) (h1 : s.1 ≤ B.length) (h2 : s.2 < 100) (hb : Bytes B) : (whP B s).2.2 = (oneP O (sh s)).2.2 ∧ ((whP B s).2.2 = 0 → (whP B s).1 = (oneP O (sh s)).1 ∧ (oneP O (sh s)).2 = sh (whP B s).2) := by
  unfold whP oneP
  simp only
  rw [gt_sh hl hd]
  simp only
  rw [tk_sh hl hd]
  simp only
  have a := gt_at (B := B) (m := 16) h1 h2
  have b := tk_at (B := B) (z := 4) a.1 a.2
  obtain ⟨c1, c2⟩ := pairs_same hl hd (tk B 4 (gt B 16 s).2).1 ByteArray.empty [] (tk B 4 (gt B 16 s).2).2 (Nat.zero_le _) b.1 b.2 hb
  refine ⟨c1, fun h => ?_⟩
  obtain ⟨d1, d2⟩ := c2 h
  exact ⟨by rw [d1], d2⟩
theorem vols_same : ∀ (k : Nat) (l : List S49) (s : Nat × Nat), s.1 ≤ B.length → s.2 < 100 → Bytes B →
    (whs B k l s).2.2 = (ors O k l (sh s)).2.2 ∧ ((whs B k l s).2.2 = 0 → (whs B k l s).1 = (ors O k l (sh s)).1 ∧ (ors O k l (sh s)).2 = sh (whs B k l s).2)
  | 0, l, s, _, _, _ => ⟨rfl, fun _ => ⟨rfl, rfl⟩⟩
  | k + 1, l, s, h1, h2, hb => by
    by_cases h0 : s.2 = 0
    · obtain ⟨a1, a2, _⟩ := whP_at hb h1 h2
      obtain ⟨c1, c2⟩ := one_same hl hd s h1 h2 hb
      rw [whs, ors, if_neg (by simpa [sh] using h0)]
      by_cases h3 : (whP B s).2.2 = 0
      · obtain ⟨d1, d2⟩ := c2 h3
        rw [← d1, d2]
        exact vols_same k _ _ a1 a2 hb
      · have e1 := whs_err (B := B) k (l ++ [(whP B s).1]) (whP B s).2 h3
        have e2 := ors_err (O := O) k (l ++ [(oneP O (sh s)).1]) (oneP O (sh s)).2 (by rw [← c1]; exact h3)
        rw [e1, e2]
        exact ⟨c1, fun h => absurd h h3⟩
    · rw [whs_err (k + 1) l s h0, ors_err (k + 1) l (sh s) h0]
      exact ⟨rfl, fun h => absurd h h0⟩
end
theorem get_same {b : List Int} (hb : Bytes b) : dgetP b = getP b := by
  unfold dgetP getP
  by_cases hf : fitsP b = false
  · rw [if_pos hf, if_pos hf]
  rw [if_neg hf, if_neg hf]
  by_cases hp : prefP (b.take (b.length - 4)) = false
  · rw [if_pos hp, if_pos hp]
  rw [if_neg hp, if_neg hp]
  have hp2 : 4 ≤ (b.take (b.length - 4)).length := by
    have hp' : prefP (b.take (b.length - 4)) = true := by simpa using hp
    exact (of_decide_eq_true hp').1
  have hO := bytes_take hb (b.length - 4)
  generalize b.take (b.length - 4) = O at *
  have hB := bytes_drop hO 4
  have hl : O.length = (O.drop 4).length + 4 := by rw [List.length_drop]; omega
  have hd : ∀ i, O.drop (i + 4) = (O.drop 4).drop i := fun i => by rw [List.drop_drop, Nat.add_comm]
  generalize O.drop 4 = B at *
  simp only
  have ht : tk O 1 (4, 0) = ((tk B 1 (0, 0)).1, sh (tk B 1 (0, 0)).2) := tk_sh hl hd 1 (0, 0)
  rw [ht]
  simp only
  have a := tk_at (B := B) (z := 1) (s := (0, 0)) (Nat.zero_le _) (by decide)
  unfold volP
  by_cases h16 : 16 < (tk B 1 (0, 0)).1
  · rw [if_pos h16, if_pos h16]
    have h3 : (tk B 1 (0, 0)).2.2 = 0 := by
      unfold tk at h16 ⊢
      rw [if_neg (by simp)] at h16 ⊢
      split at h16
      · simp at h16
      · rename_i hh; rw [if_neg hh]
    have hf : failR 13 (tk B 1 (0, 0)).2 = ((tk B 1 (0, 0)).2.1, 13) := by unfold failR; rw [if_pos h3]
    simp only [hf]
    rfl
  · rw [if_neg h16, if_neg h16]
    obtain ⟨c1, c2⟩ := vols_same hl hd (tk B 1 (0, 0)).1 [] (tk B 1 (0, 0)).2 a.1 a.2 hB
    generalize whs B (tk B 1 (0, 0)).1 [] (tk B 1 (0, 0)).2 = r at *
    generalize ors O (tk B 1 (0, 0)).1 [] (sh (tk B 1 (0, 0)).2) = r' at *
    by_cases h3 : r.2.2 = 0
    · obtain ⟨d1, d2⟩ := c2 h3
      have he : endR O.length r'.2 = endR B.length r.2 := by
        unfold endR
        rw [d2]
        simp only [sh, hl, Nat.add_lt_add_iff_right]
      rw [he, ← d1]
    · have he : endR O.length r'.2 = endR B.length r.2 := by
        unfold endR
        rw [← c1, if_neg (by simp [h3]), if_neg (by simp [h3])]
      have hz : endR B.length r.2 ≠ 0 := by unfold endR; rw [if_neg (by simp [h3])]; exact h3
      rw [he, if_pos hz, if_pos hz]
end Go.Proofs.YteookeenkjpemaaGreat.R
/- Chapter 32's law DumpReads, over the machine. -/
namespace Go.Proofs.YteookeenkjpemaaGreat.R
open Go Go.Proofs
open Go.Proofs.YteookeenkjpemaaGreat.Q (Bytes)
set_option linter.unusedSimpArgs false
set_option linter.unusedVariables false
set_option maxRecDepth 10000
set_option maxHeartbeats 1000000

theorem lim4 : lim T fns 4 [] [] = some (.bool true, []) := acall_lim (R := 20) (d := 8) (by kernel_rfl)
theorem call4 (n : Nat) : callV (LX T fns) n (.clo 4 []) [] = .pure (.bool true, []) := callV_plain (fn := fn4) rfl rfl rfl lim4 n
theorem q00 : ((((0 : Nat) : Int)) == 0) = true := rfl
theorem getP_ok {b : List Int} (h : (getP b).2 = 0) : (putP (getP b).1).2 = 0 ∧ (putP (getP b).1).1 = b := by
  unfold getP at h ⊢
  split at h
  · simp at h
  · rename_i h1
    rw [if_neg h1]
    split at h
    · simp at h
    · rename_i h2
      rw [if_neg h2]
      simp only at h ⊢
      split at h
      · rename_i h3; exact absurd h h3
      · rename_i h3
        rw [if_neg h3]
        split at h
        · simp at h
        · rename_i h4
          rw [if_neg h4]
          simp only [ne_eq, not_or, Decidable.not_not] at h4
          exact h4
theorem bytes_g {x : List Int} (h : g22 x) : Bytes x := fun c hc => by
  have h2 : (Lit.int .u8 c).wf = true := h.2 c hc
  have h3 : IntKind.u8.min ≤ c ∧ c ≤ IntKind.u8.max := by simpa [Lit.wf] using h2
  have e1 : IntKind.u8.min = 0 := rfl
  have e2 : IntKind.u8.max = 255 := rfl
  omega
end Go.Proofs.YteookeenkjpemaaGreat.R
/- Chapter 32's law DumpNil, over the machine. -/
namespace Go.Proofs.YteookeenkjpemaaGreat.R
open Go Go.Proofs
open Go.Proofs.YteookeenkjpemaaGreat.Q (Bytes)
set_option linter.unusedSimpArgs false
set_option linter.unusedVariables false
set_option maxRecDepth 10000
set_option maxHeartbeats 1000000

theorem lim5 : lim T fns 5 [.nilp] [] = some (.tup [.fz [], .int .i64 1], []) := acall_lim (R := 3) (d := 3) (by kernel_rfl)
theorem call5 (n : Nat) : callV (LX T fns) n (.clo 5 []) [.nilp] = .pure (.tup [.fz [], .int .i64 1], []) := callV_plain (fn := fn5) rfl rfl rfl lim5 n
theorem eqP0 : eqV T 34 .nilp .nilp = some true := by unfold eqV; rw [T_34]
/-- What Restore tells: the error. -/
def rsP (b : List Int) : Nat := if (getP b).2 = 0 then 1 else (getP b).2
theorem lim6 (b : List Int) (hb : Bytes b) (hl : b.length < 900000) : lim T fns 6 [.nilp, .fz (eb b)] [] = some (.tup [.int .i64 0, .int .i64 (rsP b)], []) := by
  refine fn_rule (fn := fn6) rfl rfl (by simp [fn6]) ?_
  unfold fn6
  simp only [Tryz.f6, Option.getD_some, argEnv, List.map_nil, List.length_nil]
  have hc := fun n => call11 b hb hl n
  unfold rsP
  by_cases he : (getP b).2 = 0
  · rw [he] at hc
    simp only [he, if_true]
    simp only [go_sem, T_3, T_5, T_9, T_22, T_24, T_29, T_34, T_45, T_49, T_52, T_55, T_88, hc, n00, eqP0]
    rfl
  · have e1 : (((getP b).2 : Int) != 0) = true := by simp; omega
    simp only [he, if_false]
    simp only [go_sem, T_3, T_5, T_9, T_22, T_24, T_29, T_34, T_45, T_49, T_52, T_55, T_88, hc, e1]
theorem call6 (b : List Int) (hb : Bytes b) (hl : b.length < 900000) (n : Nat) : callV (LX T fns) n (.clo 6 []) [.nilp, .fz (eb b)] = .pure (.tup [.int .i64 0, .int .i64 (rsP b)], []) := callV_plain (fn := fn6) rfl rfl rfl (lim6 b hb hl) n
theorem lim3 (x : List Int) (gx : g22 x) : lim T fns 3 [.fz (eb x)] [] = some (.bool true, []) := by
  have hx := bytes_g gx
  refine fn_rule (fn := fn3) rfl rfl (by simp [fn3]) ?_
  unfold fn3
  simp only [Tryz.f3, Option.getD_some, argEnv, List.map_nil, List.length_nil]
  by_cases h3 : x.length ≤ 3000
  · have f3 : ((x.length : Int) > 3000) = False := eq_false (by omega)
    have hol : x.length < 900000 := by omega
    have hc6 := fun n => call6 x hx hol n
    have hc7 := fun n => call7 x hx hol n
    rw [get_same hx] at hc7
    unfold rsP at hc6
    generalize getP x = r at *
    obtain ⟨l, e⟩ := r
    simp only at hc6 hc7
    have q1 : ((1 : Int) == 1) = true := rfl
    have q0 : ((0 : Int) == 0) = true := rfl
    by_cases he : e = 0
    · subst he
      simp only [if_true] at hc6
      have q11 : ((((1 : Nat) : Int)) == 1) = true := rfl
      simp only [go_sem, T_3, T_5, T_22, T_24, T_34, ebl, f3, call5, hc6, hc7, q00, q1, q0, q11, call4, List.length_nil]
    · have e1 : ((e : Int) == 0) = false := by simp; omega
      have e2 : ((e : Int) == (e : Int)) = true := by simp
      simp only [he, if_false] at hc6
      simp only [go_sem, T_3, T_5, T_22, T_24, T_34, ebl, f3, call5, hc6, hc7, e1, e2, q00, q1, q0, call4, List.length_nil]
  · have f3 : ((x.length : Int) > 3000) = True := eq_true (by omega)
    simp only [go_sem, T_3, T_5, T_22, T_24, T_34, ebl, f3, call4]
theorem law3 (x0 : List Int) (gx0 : g22 x0) : ∃ R d h, acall T fns R d 3 [.fz (x0.map (Cd.int .u8).enc)] [] = some (.bool true, h) := by
  obtain ⟨R, d, h⟩ := lim_acall (lim3 x0 gx0)
  exact ⟨R, d, _, h⟩
end Go.Proofs.YteookeenkjpemaaGreat.R
/- Chapter 32's law DumpNil, with what its row needs. -/
