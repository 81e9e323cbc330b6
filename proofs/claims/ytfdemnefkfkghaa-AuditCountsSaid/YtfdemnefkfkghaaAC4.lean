/- Parts of the proof of YtfdemnefkfkghaaRAuditCountsAll, one behind the other: R27e, R27f, R27g, R27h, R33q, R33r, R33u, R27i, R27j, R27k, R27l, Q27b, Q27c, R27m, Q27e, RSn, R27n, RSo, R27o, R27p, R27q. -/
import Derived.Test.YtfdemnefkfkghaaAC0
import Derived.Test.YtfdemnefkfkghaaAC1
import Derived.Test.YtfdemnefkfkghaaAC2
import Derived.Test.YtfdemnefkfkghaaAC3
/- Chapter 27's laws: graph.Counts. -/
namespace Go.Proofs.Ytfdemnefkfkghaa.R
open Go Go.Proofs
set_option linter.unusedSimpArgs false
set_option linter.unusedVariables false
set_option maxRecDepth 10000
set_option maxHeartbeats 4000000

theorem append_nils {ti : TI} {n : Nat} {kr : List V} {p : Bool} (hb : ti.bytes ≤ 1000) : appendR ti n .nils [kr] p = .pure (.ms n ti.size 0 1 none, [(n, some (.buf ti.size [kr] false p))]) := by
  unfold appendR
  simp only [List.length_cons, List.length_nil, Nat.zero_add, Nat.one_ne_zero, if_false]
  rw [if_pos ⟨by omega, by omega⟩]
theorem insAt_len {α : Type} {i : Nat} {x : α} {l : List α} (h : i ≤ l.length) : (insAt i x l).length = l.length + 1 := by
  unfold insAt
  simp
  omega
/-- A block, named so often more. -/
def addU (b n : Int) (p : List Int × List Int) : List Int × List Int := if hasI b p.1 = true then (p.1, p.2.set (posI b p.1) (capA (gtI zU b p.1 p.2) n)) else (insAt (posI b p.1) b p.1, insAt (posI b p.1) (capA 0 n) p.2)
def cntInv (p : List Int × List Int) : Prop := risesI p.1 = true ∧ p.2.length = p.1.length ∧ ∀ x ∈ p.2, u32B x
theorem gtI_b {b : Int} {p : List Int × List Int} (h : cntInv p) : u32B (gtI zU b p.1 p.2) := by
  unfold gtI
  cases hb : hasI b p.1 with
  | true =>
    rw [if_pos rfl]
    have hp : posI b p.1 < p.2.length := by rw [h.2.1]; exact hasI_lt hb
    rw [List.getElem?_eq_getElem hp]
    exact h.2.2 _ (List.getElem_mem hp)
  | false => simp [zU, u32B]
theorem addU_inv {b n : Int} {p : List Int × List Int} (h : cntInv p) (hn : u32B n) : cntInv (addU b n p) := by
  unfold addU
  cases hb : hasI b p.1 with
  | true =>
    rw [if_pos rfl]
    refine ⟨h.1, by simpa using h.2.1, fun x hx => ?_⟩
    rcases List.mem_or_eq_of_mem_set hx with hx | rfl
    · exact h.2.2 x hx
    · exact capA_b (gtI_b h) hn
  | false =>
    rw [if_neg (by simp)]
    have hp := posI_le b p.1
    refine ⟨risesI_ins h.1 hb, by simp only; rw [insAt_len hp, insAt_len (by rw [h.2.1]; exact hp), h.2.1], fun x hx => ?_⟩
    rcases insI_mem hx with rfl | hx
    · exact capA_b (by simp [u32B]) hn
    · exact h.2.2 x hx
theorem addU_len {b n : Int} {p : List Int × List Int} : (addU b n p).1.length ≤ p.1.length + 1 := by
  unfold addU
  have hp := posI_le b p.1
  split
  · simp
  · simp only; rw [insAt_len hp]; exact Nat.le_refl _
def addsU (l : List (Int × Int)) (p : List Int × List Int) : List Int × List Int := l.foldl (fun p x => addU x.1 x.2 p) p
theorem addsU_len {l : List (Int × Int)} : ∀ {p : List Int × List Int}, (addsU l p).1.length ≤ p.1.length + l.length := by
  induction l with
  | nil => intro p; simp [addsU]
  | cons x r ih =>
    intro p
    have h1 := ih (p := addU x.1 x.2 p)
    have h2 := addU_len (b := x.1) (n := x.2) (p := p)
    show (addsU r _).1.length ≤ _
    simp only [List.length_cons]
    omega
theorem addsU_inv {l : List (Int × Int)} : ∀ {p : List Int × List Int}, cntInv p → (∀ x ∈ l, u32B x.2) → cntInv (addsU l p) := by
  induction l with
  | nil => intro p h _; exact h
  | cons x r ih => intro p h hl; exact ih (addU_inv h (hl x (.head _))) fun y hy => hl y (.tail _ hy)
theorem addsU_app {l m : List (Int × Int)} {p : List Int × List Int} : addsU (l ++ m) p = addsU m (addsU l p) := by unfold addsU; rw [List.foldl_append]
theorem addsU_snoc {l : List (Int × Int)} {x : Int × Int} {p : List Int × List Int} : addsU (l ++ [x]) p = addU x.1 x.2 (addsU l p) := by rw [addsU_app]; rfl
def cntH (p : List Int × List Int) : Heap := [some cell1, some (mobU 2 3 p.1.length), some (kobU p.1 [] false), some (vobU p.2 [] false)]
/-- What is named, in order. -/
def nmRoots (l : List S179) : List (Int × Int) := l.map fun v => (v.f1, 1)
def nmNode (n : S93) : List (Int × Int) := (targets n).map fun t => (t, 1)
def nmItems (l : List S95) : List (Int × Int) := (l.map fun x => nmNode x.f1).flatten
def nmPend (l : List S184) : List (Int × Int) := l.map fun x => (x.f0, x.f1)
theorem call184_1 (ks vs : List Int) (ex ey : List (List V)) (f g : Bool) (n : Nat) (hn : 4 ≤ n) (o0 : Option Ob) (rest : Heap) :
    (callV (LX T fns) n (.clo 184 []) [.ptr 1 0 0]).run (o0 :: some (mobU 2 3 ks.length) :: some (kobU ks ex f) :: some (vobU vs ey g) :: rest) [] =
    some ((.clo 235 [.ptr n 0 0, .ptr (n + 1) 0 0], [(1, some (mobU 2 3 ks.length)), (2, some (kobU ks ex f)), (3, some (vobU vs ey g)), (n, some (.buf 1 [[.ptr 1 0 0]] false false)), (n + 1, some (.buf 1 [[.int .i64 0]] false true))]), [3, 2, 1]) := by
  have h := lim184 ks vs ex ey f g
  simp only [mobU, kobU, vobU] at h ⊢
  have hf : fns 184 = some fn184 := rfl
  unfold callV
  simp only [hf]
  unfold callR
  simp only [fn184, List.cons_append, List.nil_append, List.append_nil, frzArgs, frz, frzAll, frzG, frzGAll, ms2, msUp, List.tail]
  simp only [V.allIds, V.ids, List.append_nil, List.nil_append, collect, List.map_nil, List.contains_nil, Bool.false_eq_true, if_false, Rd.run, Heap.at?, Ob.ids, rowsIds, List.map_cons, List.cons_append, List.contains_cons, Nat.reduceBEq, Bool.or_self, Bool.or_false, Bool.false_or, Bool.or_true, Bool.true_or, if_true]
  unfold withR
  simp only [List.map_cons, List.map_nil, upd1, List.all_nil, List.all_cons, show 1 < n by omega, show 2 < n by omega, show 3 < n by omega, decide_true, Bool.and_self, if_true, V.reAll, V.re, idx, Nat.beq, cond_true, cond_false, Option.bind_some, Option.map_some, pullObs, Ob.re, reRows, Nat.reduceAdd, h, List.length_cons, List.length_nil, Nat.le_refl]
  unfold afterR
  simp only [V.re, V.reAll, pushObs, back, nth, Ob.re, reRows, Option.bind_some, Option.map_some, List.isEmpty_cons, Bool.false_and, Bool.false_eq_true, if_false, Rd.run, List.append_nil, Nat.reduceAdd]
  simp only [List.length_cons, List.length_nil, Nat.zero_add, Nat.reduceAdd, Nat.reduceLT, Nat.reduceLeDiff, if_true, Option.map_some, Option.bind_some, Nat.reduceSub, Nat.sub_self, Nat.add_zero]
  show _ = _
  kernel_rfl
def mk184 (p : Int × Int) : S184 := ⟨p.1, p.2⟩
def refsU (p : List Int × List Int) : List S184 := ((p.1.zip p.2).filter fun x => decide (x.2 > 0)).map mk184
theorem refsU_succ {ks vs : List Int} {i : Nat} (h : i < ks.length) (h2 : i < vs.length) : refsU (ks.take (i + 1), vs.take (i + 1)) = refsU (ks.take i, vs.take i) ++ (if vs[i] > 0 then [⟨ks[i], vs[i]⟩] else []) := by
  unfold refsU
  simp only
  rw [List.take_succ_eq_append_getElem h, List.take_succ_eq_append_getElem h2, List.zip_append (by simp; omega), List.filter_append, List.map_append]
  congr 1
  by_cases hp : vs[i] > 0
  · simp [hp, mk184]
  · simp [hp]
theorem refsU_le {ks vs : List Int} {i : Nat} : (refsU (ks.take i, vs.take i)).length ≤ i := by
  unfold refsU
  rw [List.length_map]
  refine Nat.le_trans (List.length_filter_le _ _) ?_
  simp
  omega
/-- The objects while the refs are gathered. -/
def accU (ks vs : List Int) (acc : List S184) : Heap := match acc with
  | [] => [some cell1, some (.buf 2 [[.ms 2 1 0 ks.length none, .ms 3 1 0 ks.length none]] false false), some (.buf 1 (ks.map (Cd.int .u32).enc) false true), some (.buf 1 (vs.map (Cd.int .u32).enc) false true), some (.buf 1 [[.nils]] false true), some (.buf 1 [[.ptr 1 0 0]] false false), some (.buf 1 [[.int .i64 0]] false true)]
  | acc => [some cell1, some (.buf 2 [[.ms 2 1 0 ks.length none, .ms 3 1 0 ks.length none]] false false), some (.buf 1 (ks.map (Cd.int .u32).enc) false true), some (.buf 1 (vs.map (Cd.int .u32).enc) false true), some (.buf 1 [[.ms 7 2 0 acc.length none]] false false), some (.buf 1 [[.ptr 1 0 0]] false false), some (.buf 1 [[.int .i64 0]] false true), some (.buf 2 (acc.map k184.enc) false true)]
theorem accU_nil {ks vs : List Int} : accU ks vs [] = [some cell1, some (.buf 2 [[.ms 2 1 0 ks.length none, .ms 3 1 0 ks.length none]] false false), some (.buf 1 (ks.map (Cd.int .u32).enc) false true), some (.buf 1 (vs.map (Cd.int .u32).enc) false true), some (.buf 1 [[.nils]] false true), some (.buf 1 [[.ptr 1 0 0]] false false), some (.buf 1 [[.int .i64 0]] false true)] := rfl
theorem accU_ne {ks vs : List Int} {acc : List S184} (h : acc ≠ []) : accU ks vs acc = [some cell1, some (.buf 2 [[.ms 2 1 0 ks.length none, .ms 3 1 0 ks.length none]] false false), some (.buf 1 (ks.map (Cd.int .u32).enc) false true), some (.buf 1 (vs.map (Cd.int .u32).enc) false true), some (.buf 1 [[.ms 7 2 0 acc.length none]] false false), some (.buf 1 [[.ptr 1 0 0]] false false), some (.buf 1 [[.int .i64 0]] false true), some (.buf 2 (acc.map k184.enc) false true)] := by
  cases acc with
  | nil => exact absurd rfl h
  | cons a r => rfl
def tooMany (l : List S95) : Prop := (nmItems l).length < 100000000
theorem nmItems_succ {l : List S95} {i : Nat} (h : i < l.length) : nmItems (l.take (i + 1)) = nmItems (l.take i) ++ nmNode l[i].f1 := by
  unfold nmItems
  rw [List.take_succ_eq_append_getElem h, List.map_append, List.flatten_append]
  simp
theorem nmItems_le {l : List S95} {i : Nat} : (nmItems (l.take i)).length ≤ (nmItems l).length := by
  have : nmItems l = nmItems (l.take i) ++ nmItems (l.drop i) := by
    conv => lhs; rw [← List.take_append_drop i l]
    unfold nmItems
    rw [List.map_append, List.flatten_append]
  rw [this, List.length_append]
  omega
end Go.Proofs.Ytfdemnefkfkghaa.R
/- Chapter 27's laws: graph.Counts, in the machine (printed by mk126.py). -/
namespace Go.Proofs.Ytfdemnefkfkghaa.R
open Go Go.Proofs
set_option linter.unusedSimpArgs false
set_option linter.unusedVariables false
set_option maxRecDepth 10000
set_option maxHeartbeats 4000000

theorem cntH_mk {ks vs : List Int} : cntH (ks, vs) = [some (.buf 1 [[.ptr 1 0 0]] false false), some (.buf 2 [[.ms 2 1 0 ks.length none, .ms 3 1 0 ks.length none]] false false), some (.buf 1 (ks.map (Cd.int .u32).enc) false true), some (.buf 1 (vs.map (Cd.int .u32).enc) false true)] := by
  simp only [cntH, cell1, mobU, kobU, vobU, List.append_nil]
theorem cntH_new {b n : Int} {ks vs : List Int} (hb : hasI b ks = false) : cntH (addU b n (ks, vs)) = [some (.buf 1 [[.ptr 1 0 0]] false false), some (.buf 2 [[.ms 2 1 0 (ks.length + 1) none, .ms 3 1 0 (ks.length + 1) none]] false false), some (.buf 1 ((insAt (posI b ks) b ks).map (Cd.int .u32).enc) false true), some (.buf 1 ((insAt (posI b ks) (capA 0 n) vs).map (Cd.int .u32).enc) false true)] := by
  unfold addU
  rw [if_neg (by rw [hb]; simp), cntH_mk, insAt_len (posI_le b ks)]
theorem cntH_old {b n : Int} {ks vs : List Int} (hb : hasI b ks = true) : cntH (addU b n (ks, vs)) = [some (.buf 1 [[.ptr 1 0 0]] false false), some (.buf 2 [[.ms 2 1 0 ks.length none, .ms 3 1 0 ks.length none]] false false), some (.buf 1 (ks.map (Cd.int .u32).enc) false true), some (.buf 1 ((vs.set (posI b ks) (capA (gtI zU b ks vs) n)).map (Cd.int .u32).enc) false true)] := by
  unfold addU
  rw [if_pos hb, cntH_mk]
theorem one_b : u32B 1 := by simp [u32B]
theorem lim126 (l : List S95) (vols : List S179) (pend : List S184) (hl : fewL l) (h1 : vols.length < 100000000) (h2 : (nmItems l).length < 100000000) (h3 : pend.length < 100000000) (hp : ∀ x ∈ pend, u32B x.f1) : lim T fns 126 [.fz (l.map k95.enc), .fz (vols.map k179.enc), .fz (pend.map k184.enc)] [] =
    some (.fz ((refsU (addsU (nmRoots vols ++ nmItems l ++ nmPend pend) ([], []))).map k184.enc), []) := by
  refine fn_rule (fn := fn126) rfl rfl (by simp [fn126]) ?_
  unfold fn126
  simp only [Try.f126, Option.getD_some, argEnv, List.map_nil, List.length_nil]
  have hl1 := hl.1
  have inv0 : cntInv ([], []) := ⟨rfl, rfl, by simp⟩
  have rb : ∀ m : List S179, ∀ x ∈ nmRoots m, u32B x.2 := fun m x hx => by
    obtain ⟨v, _, rfl⟩ := List.mem_map.1 hx
    exact one_b
  have ib : ∀ m : List S95, ∀ x ∈ nmItems m, u32B x.2 := fun m x hx => by
    obtain ⟨y, hy, hx⟩ := List.mem_flatten.1 hx
    obtain ⟨z, _, rfl⟩ := List.mem_map.1 hy
    obtain ⟨t, _, rfl⟩ := List.mem_map.1 hx
    exact one_b
  have nb : ∀ (n : S93) (k : Nat), ∀ x ∈ (nmNode n).take k, u32B x.2 := fun n k x hx => by
    obtain ⟨t, _, rfl⟩ := List.mem_map.1 (List.mem_of_mem_take hx)
    exact one_b
  simp only [go_sem, T_1, T_3, T_4, T_5, T_9, T_22, T_42, T_51, T_69, T_76, T_77, T_78, T_90, T_91, T_93, T_95, T_96, T_98, T_100, T_121, T_145, T_179, T_184, T_239, call180]
  refine loop_rule (ι := Nat) (S := fun i => ⟨[(0, .fz (l.map k95.enc)), (2, .fz (pend.map k184.enc)), (7, .ptr 0 0 0), (8, .clo 181 [.ptr 0 0 0]), (22, .fz (vols.map k179.enc)), (23, .int .i64 vols.length), (24, .int .i64 i)], cntH (addsU (nmRoots (vols.take i)) ([], []))⟩) (m := fun i => vols.length + 1 - i)
    (I := fun i => i ≤ vols.length) ?_ 0 _ (Nat.zero_le _) (by kernel_rfl)
  rintro i hi
  by_cases hlt : i < vols.length
  · have hx : vols[i]? = some vols[i] := List.getElem?_eq_getElem hlt
    have hn : addsU (nmRoots (vols.take (i + 1))) ([], []) = addU vols[i].f1 1 (addsU (nmRoots (vols.take i)) ([], [])) := by
      unfold nmRoots
      rw [List.take_succ_eq_append_getElem hlt, List.map_append]
      exact addsU_snoc
    have inv := addsU_inv inv0 (rb (vols.take i))
    have hlen := addsU_len (l := nmRoots (vols.take i)) (p := ([], []))
    have hlen2 : (nmRoots (vols.take i)).length ≤ i := by simp [nmRoots]; omega
    simp only [List.length_nil] at hlen
    generalize addsU (nmRoots (vols.take i)) ([], []) = p at *
    obtain ⟨ks, vs⟩ := p
    simp only at inv hlen
    simp only [cntInv] at inv
    simp only [cntH_mk]
    cases hb : hasI vols[i].f1 ks with
    | false =>
      have hc := fun (n : Nat) (hn : 4 ≤ n) (rest : Heap) => call181_new vols[i].f1 1 ks vs false false inv.1 (by omega) inv.2.1 one_b hb n hn rest
      simp only [cell1, mobU, kobU, vobU, List.append_nil] at hc
      simp only [go_sem, T_1, T_3, T_4, T_5, T_9, T_22, T_42, T_51, T_69, T_76, T_77, T_78, T_90, T_91, T_93, T_95, T_96, T_98, T_100, T_121, T_145, T_179, T_184, T_239, hlt, all179, hx, k179_enc, hc, wrap_i64s (show i < 1000000000000000000 by omega)]
      refine ⟨i + 1, by omega, by simp only; omega, ?_⟩
      simp only [hn]
      rw [cntH_new hb]
      show _ = _
      kernel_rfl
    | true =>
      have hc := fun (n : Nat) (hn : 4 ≤ n) (rest : Heap) => call181_old vols[i].f1 1 ks vs false false inv.1 (by omega) inv.2.1 one_b inv.2.2 hb n hn rest
      simp only [cell1, mobU, kobU, vobU, List.append_nil] at hc
      simp only [go_sem, T_1, T_3, T_4, T_5, T_9, T_22, T_42, T_51, T_69, T_76, T_77, T_78, T_90, T_91, T_93, T_95, T_96, T_98, T_100, T_121, T_145, T_179, T_184, T_239, hlt, all179, hx, k179_enc, hc, wrap_i64s (show i < 1000000000000000000 by omega)]
      refine ⟨i + 1, by omega, by simp only; omega, ?_⟩
      simp only [hn]
      rw [cntH_old hb]
      show _ = _
      kernel_rfl
  obtain rfl : i = vols.length := by omega
  rw [List.take_length]
  simp only [cntH]
  have invR := addsU_inv inv0 (rb vols)
  have lenR : (addsU (nmRoots vols) ([], [])).1.length ≤ vols.length := by
    have := addsU_len (l := nmRoots vols) (p := ([], []))
    simp only [List.length_nil] at this
    simp only [nmRoots, List.length_map] at this
    unfold nmRoots
    omega
  simp only [addsU_app]
  generalize addsU (nmRoots vols) ([], []) = R at *
  simp only [go_sem, T_1, T_3, T_4, T_5, T_9, T_22, T_42, T_51, T_69, T_76, T_77, T_78, T_90, T_91, T_93, T_95, T_96, T_98, T_100, T_121, T_145, T_179, T_184, T_239, hlt]
  clear hlt hi
  refine loop_rule (ι := Nat) (S := fun i => ⟨[(2, .fz (pend.map k184.enc)), (7, .ptr 0 0 0), (8, .clo 181 [.ptr 0 0 0]), (33, .fz (l.map k95.enc)), (34, .int .i64 l.length), (35, .int .i64 i)], cntH (addsU (nmItems (l.take i)) R)⟩) (m := fun i => l.length + 1 - i)
    (I := fun i => i ≤ l.length) ?_ 0 _ (Nat.zero_le _) (by kernel_rfl)
  rintro i hi
  by_cases hlt : i < l.length
  · have hx : l[i]? = some l[i] := List.getElem?_eq_getElem hlt
    have hnl := hl.2 l[i] (List.getElem_mem hlt)
    have hts := call131 l[i].f1 hnl
    simp only [k93_enc] at hts
    have hsucc := nmItems_succ hlt
    have hle := nmItems_le (l := l) (i := i + 1)
    rw [hsucc, List.length_append] at hle
    have invI := addsU_inv invR (ib (l.take i))
    have lenI := addsU_len (l := nmItems (l.take i)) (p := R)
    have htl : (nmNode l[i].f1).length = (targets l[i].f1).length := by simp [nmNode]
    have hnx : addsU (nmItems (l.take (i + 1))) R = addsU (nmNode l[i].f1) (addsU (nmItems (l.take i)) R) := by rw [hsucc, addsU_app]
    generalize addsU (nmItems (l.take i)) R = Q at *
    simp only [cntH]
    simp only [go_sem, T_1, T_3, T_4, T_5, T_9, T_22, T_42, T_51, T_69, T_76, T_77, T_78, T_90, T_91, T_93, T_95, T_96, T_98, T_100, T_121, T_145, T_179, T_184, T_239, all95, hlt, hx, k95_enc, hts]
    refine loop_rule (ι := Nat) (S := fun j => ⟨[(2, .fz (pend.map k184.enc)), (7, .ptr 0 0 0), (8, .clo 181 [.ptr 0 0 0]), (33, .fz (l.map k95.enc)), (34, .int .i64 l.length), (35, .int .i64 i), (41, .fz ((targets l[i].f1).map (Cd.int .u32).enc)), (42, .int .i64 (targets l[i].f1).length), (43, .int .i64 j)], cntH (addsU ((nmNode l[i].f1).take j) Q)⟩) (m := fun j => (targets l[i].f1).length + 1 - j)
      (I := fun j => j ≤ (targets l[i].f1).length) ?_ 0 _ (Nat.zero_le _) (by kernel_rfl)
    rintro j hj
    by_cases hlj : j < (targets l[i].f1).length
    · have hy : (targets l[i].f1)[j]? = some (targets l[i].f1)[j] := List.getElem?_eq_getElem hlj
      have hn : addsU ((nmNode l[i].f1).take (j + 1)) Q = addU (targets l[i].f1)[j] 1 (addsU ((nmNode l[i].f1).take j) Q) := by
        rw [List.take_succ_eq_append_getElem (by rw [htl]; exact hlj), addsU_snoc]
        simp [nmNode]
      have inv := addsU_inv invI (nb l[i].f1 j)
      have hlen := addsU_len (l := (nmNode l[i].f1).take j) (p := Q)
      have hlen2 : ((nmNode l[i].f1).take j).length ≤ (nmNode l[i].f1).length := by simp; omega
      generalize addsU ((nmNode l[i].f1).take j) Q = p at *
      obtain ⟨ks, vs⟩ := p
      simp only at inv hlen
      simp only [cntInv] at inv
      simp only [cntH_mk]
      generalize (targets l[i].f1)[j] = t at *
      cases hb : hasI t ks with
      | false =>
        have hc := fun (n : Nat) (hn : 4 ≤ n) (rest : Heap) => call181_new t 1 ks vs false false inv.1 (by omega) inv.2.1 one_b hb n hn rest
        simp only [cell1, mobU, kobU, vobU, List.append_nil] at hc
        simp only [go_sem, T_1, T_3, T_4, T_5, T_9, T_22, T_42, T_51, T_69, T_76, T_77, T_78, T_90, T_91, T_93, T_95, T_96, T_98, T_100, T_121, T_145, T_179, T_184, T_239, hlt, hlj, hy, all_int, hc, wrap_i64s (show j < 1000000000000000000 by omega)]
        refine ⟨j + 1, by omega, by simp only; omega, ?_⟩
        simp only [hn]
        rw [cntH_new hb]
        show _ = _
        kernel_rfl
      | true =>
        have hc := fun (n : Nat) (hn : 4 ≤ n) (rest : Heap) => call181_old t 1 ks vs false false inv.1 (by omega) inv.2.1 one_b inv.2.2 hb n hn rest
        simp only [cell1, mobU, kobU, vobU, List.append_nil] at hc
        simp only [go_sem, T_1, T_3, T_4, T_5, T_9, T_22, T_42, T_51, T_69, T_76, T_77, T_78, T_90, T_91, T_93, T_95, T_96, T_98, T_100, T_121, T_145, T_179, T_184, T_239, hlt, hlj, hy, all_int, hc, wrap_i64s (show j < 1000000000000000000 by omega)]
        refine ⟨j + 1, by omega, by simp only; omega, ?_⟩
        simp only [hn]
        rw [cntH_old hb]
        show _ = _
        kernel_rfl
    · obtain rfl : j = (targets l[i].f1).length := by omega
      rw [← htl, List.take_length] 
      rw [← hnx]
      simp only [cntH]
      simp only [go_sem, T_1, T_3, T_4, T_5, T_9, T_22, T_42, T_51, T_69, T_76, T_77, T_78, T_90, T_91, T_93, T_95, T_96, T_98, T_100, T_121, T_145, T_179, T_184, T_239, hlt, htl, Nat.lt_irrefl, wrap_i64s (show i < 1000000000000000000 by omega)]
      exact ⟨i + 1, by omega, by simp only; omega, by kernel_rfl⟩
  obtain rfl : i = l.length := by omega
  rw [List.take_length]
  have invI := addsU_inv invR (ib l)
  have lenI := addsU_len (l := nmItems l) (p := R)
  generalize addsU (nmItems l) R = Q at *
  simp only [cntH]
  simp only [go_sem, T_1, T_3, T_4, T_5, T_9, T_22, T_42, T_51, T_69, T_76, T_77, T_78, T_90, T_91, T_93, T_95, T_96, T_98, T_100, T_121, T_145, T_179, T_184, T_239, hlt]
  clear hlt hi
  refine loop_rule (ι := Nat) (S := fun i => ⟨[(7, .ptr 0 0 0), (8, .clo 181 [.ptr 0 0 0]), (52, .fz (pend.map k184.enc)), (53, .int .i64 pend.length), (54, .int .i64 i)], cntH (addsU (nmPend (pend.take i)) Q)⟩) (m := fun i => pend.length + 1 - i)
    (I := fun i => i ≤ pend.length) ?_ 0 _ (Nat.zero_le _) (by kernel_rfl)
  rintro i hi
  have pb : ∀ k, ∀ x ∈ nmPend (pend.take k), u32B x.2 := fun k x hx => by
    obtain ⟨y, hy, rfl⟩ := List.mem_map.1 hx
    exact hp y (List.mem_of_mem_take hy)
  by_cases hlt : i < pend.length
  · have hx : pend[i]? = some pend[i] := List.getElem?_eq_getElem hlt
    have hpb := hp pend[i] (List.getElem_mem hlt)
    have hn : addsU (nmPend (pend.take (i + 1))) Q = addU pend[i].f0 pend[i].f1 (addsU (nmPend (pend.take i)) Q) := by
      unfold nmPend
      rw [List.take_succ_eq_append_getElem hlt, List.map_append]
      exact addsU_snoc
    have inv := addsU_inv invI (pb i)
    have hlen := addsU_len (l := nmPend (pend.take i)) (p := Q)
    have hlen2 : (nmPend (pend.take i)).length ≤ i := by simp [nmPend]; omega
    generalize addsU (nmPend (pend.take i)) Q = p at *
    obtain ⟨ks, vs⟩ := p
    simp only at inv hlen
    simp only [cntInv] at inv
    simp only [cntH_mk]
    cases hb : hasI pend[i].f0 ks with
    | false =>
      have hc := fun (n : Nat) (hn : 4 ≤ n) (rest : Heap) => call181_new pend[i].f0 pend[i].f1 ks vs false false inv.1 (by omega) inv.2.1 hpb hb n hn rest
      simp only [cell1, mobU, kobU, vobU, List.append_nil] at hc
      simp only [go_sem, T_1, T_3, T_4, T_5, T_9, T_22, T_42, T_51, T_69, T_76, T_77, T_78, T_90, T_91, T_93, T_95, T_96, T_98, T_100, T_121, T_145, T_179, T_184, T_239, hlt, all184, hx, k184_enc, hc, wrap_i64s (show i < 1000000000000000000 by omega)]
      refine ⟨i + 1, by omega, by simp only; omega, ?_⟩
      simp only [hn]
      rw [cntH_new hb]
      show _ = _
      kernel_rfl
    | true =>
      have hc := fun (n : Nat) (hn : 4 ≤ n) (rest : Heap) => call181_old pend[i].f0 pend[i].f1 ks vs false false inv.1 (by omega) inv.2.1 hpb inv.2.2 hb n hn rest
      simp only [cell1, mobU, kobU, vobU, List.append_nil] at hc
      simp only [go_sem, T_1, T_3, T_4, T_5, T_9, T_22, T_42, T_51, T_69, T_76, T_77, T_78, T_90, T_91, T_93, T_95, T_96, T_98, T_100, T_121, T_145, T_179, T_184, T_239, hlt, all184, hx, k184_enc, hc, wrap_i64s (show i < 1000000000000000000 by omega)]
      refine ⟨i + 1, by omega, by simp only; omega, ?_⟩
      simp only [hn]
      rw [cntH_old hb]
      show _ = _
      kernel_rfl
  obtain rfl : i = pend.length := by omega
  have inv := addsU_inv invI (pb pend.length)
  have hlenF := addsU_len (l := nmPend pend) (p := Q)
  rw [show (nmPend pend).length = pend.length by simp [nmPend]] at hlenF
  rw [List.take_length] at inv ⊢
  generalize addsU (nmPend pend) Q = p at *
  obtain ⟨ks, vs⟩ := p
  simp only at hlenF
  simp only [cntInv] at inv
  have g2 := inv.2.1
  have hall := fun (n : Nat) (hn : 4 ≤ n) (o0 : Option Ob) (rest : Heap) => call184_1 ks vs [] [] false false n hn o0 rest
  simp only [mobU, kobU, vobU, List.append_nil] at hall
  simp only [cntH_mk]
  have hf235 : fns 235 = some fn235 := rfl
  simp only [go_sem, T_1, T_3, T_4, T_5, T_9, T_22, T_42, T_51, T_69, T_76, T_77, T_78, T_90, T_91, T_93, T_95, T_96, T_98, T_100, T_121, T_145, T_179, T_184, T_239, hlt, hall, hf235]
  refine ⟨⟨rfl, rfl, by simp [fn235]⟩, ?_⟩
  unfold fn235
  simp only [Try.f235, Option.getD_some, argEnv]
  have hz : (0 : Int) = ((0 : Nat) : Int) := rfl
  simp only [go_sem, T_3, T_4, T_42, T_76, T_239, T_269, eqPU, nilCheckR, hz, Nat.zero_le, Nat.le_refl, List.filter, Nat.reduceBEq, Bool.not_false, Bool.not_true]
  repeat (refine ⟨by kernel_rfl, ?_⟩)
  refine iloop_rule (ι := Nat) (S := fun i => ⟨[(0, .undef), (5, .ms 3 1 0 ks.length none), (22, .ms 2 1 0 ks.length none), (23, .int .i64 ks.length), (24, .int .i64 i)], accU ks vs (refsU (ks.take i, vs.take i)), [0], none⟩) (m := fun i => ks.length + 1 - i)
    (I := fun i => i ≤ ks.length) ?_ 0 _ (Nat.zero_le _) ?_ ?_ rfl
  · rintro i hi2
    by_cases hi3 : i < ks.length
    · have hi4 : i < vs.length := by omega
      have hv1 : vs[i]? = some vs[i] := List.getElem?_eq_getElem hi4
      have hk1 : ks[i]? = some ks[i] := List.getElem?_eq_getElem hi3
      have hnext := refsU_succ hi3 hi4
      have hal := refsU_le (ks := ks) (vs := vs) (i := i)
      generalize refsU (ks.take i, vs.take i) = acc at hnext hal
      by_cases hpos : vs[i] > 0
      · have hdec : vs[i] > ((0 : Nat) : Int) := hpos
        rw [if_pos hpos] at hnext
        rcases Classical.em (acc = []) with he | hne
        · subst he
          rw [accU_nil]
          simp only [go_sem, T_3, T_4, T_42, T_76, T_239, T_269, T_1, T_3, T_4, T_5, T_9, T_22, T_42, T_51, T_69, T_76, T_77, T_78, T_90, T_91, T_93, T_95, T_96, T_98, T_100, T_121, T_145, T_179, T_184, T_239, cell1, hi3, hi4, hv1, hk1, all_int, hdec, hpos, all184, k184_enc, append_nils (ti := ⟨.struct [(0, 42), (1, 42)], 2, 8, .agg [.int .u32 0, .int .u32 0]⟩) (show 8 ≤ 1000 by decide), wrap_i64s (show i < 1000000000000000000 by omega), List.contains_cons, List.contains_nil, Nat.reduceBEq, Bool.or_false, List.filter, Bool.not_false, Bool.not_true]
          exact ⟨i + 1, by omega, by simp only; omega, by
            show head _ _ _ = some ⟨_, accU ks vs (refsU (ks.take (i + 1), vs.take (i + 1)))⟩
            rw [hnext, List.nil_append, accU_ne (by simp)]
            kernel_rfl, by kernel_rfl, rfl⟩
        · rw [accU_ne hne]
          simp only [go_sem, T_3, T_4, T_42, T_76, T_239, T_269, T_1, T_3, T_4, T_5, T_9, T_22, T_42, T_51, T_69, T_76, T_77, T_78, T_90, T_91, T_93, T_95, T_96, T_98, T_100, T_121, T_145, T_179, T_184, T_239, cell1, hi3, hi4, hv1, hk1, all_int, hdec, hpos, all184, k184_enc, appL_some, show (acc.length + 1) * 8 ≤ 140737488355328 by omega, show acc.length + 1 ≤ 140737488355328 by omega, wrap_i64s (show i < 1000000000000000000 by omega), List.contains_cons, List.contains_nil, Nat.reduceBEq, Bool.or_false, List.filter, Bool.not_false, Bool.not_true]
          exact ⟨i + 1, by omega, by simp only; omega, by
            show head _ _ _ = some ⟨_, accU ks vs (refsU (ks.take (i + 1), vs.take (i + 1)))⟩
            rw [hnext, accU_ne (by simp)]
            simp only [List.map_append, List.map_cons, List.map_nil, List.length_append, List.length_cons, List.length_nil, k184_enc]
            kernel_rfl, by kernel_rfl, rfl⟩
      · have hdec : ¬ vs[i] > ((0 : Nat) : Int) := hpos
        rw [if_neg hpos, List.append_nil] at hnext
        rcases Classical.em (acc = []) with he | hne
        · subst he
          rw [accU_nil]
          simp only [go_sem, T_3, T_4, T_42, T_76, T_239, T_269, T_1, T_3, T_4, T_5, T_9, T_22, T_42, T_51, T_69, T_76, T_77, T_78, T_90, T_91, T_93, T_95, T_96, T_98, T_100, T_121, T_145, T_179, T_184, T_239, cell1, hi3, hi4, hv1, hk1, all_int, hdec, hpos, wrap_i64s (show i < 1000000000000000000 by omega), List.contains_cons, List.contains_nil, Nat.reduceBEq, Bool.or_false, List.filter, Bool.not_false, Bool.not_true]
          exact ⟨i + 1, by omega, by simp only; omega, by
            show head _ _ _ = some ⟨_, accU ks vs (refsU (ks.take (i + 1), vs.take (i + 1)))⟩
            rw [hnext, accU_nil]
            kernel_rfl, by kernel_rfl, rfl⟩
        · rw [accU_ne hne]
          simp only [go_sem, T_3, T_4, T_42, T_76, T_239, T_269, T_1, T_3, T_4, T_5, T_9, T_22, T_42, T_51, T_69, T_76, T_77, T_78, T_90, T_91, T_93, T_95, T_96, T_98, T_100, T_121, T_145, T_179, T_184, T_239, cell1, hi3, hi4, hv1, hk1, all_int, hdec, hpos, wrap_i64s (show i < 1000000000000000000 by omega), List.contains_cons, List.contains_nil, Nat.reduceBEq, Bool.or_false, List.filter, Bool.not_false, Bool.not_true]
          exact ⟨i + 1, by omega, by simp only; omega, by
            show head _ _ _ = some ⟨_, accU ks vs (refsU (ks.take (i + 1), vs.take (i + 1)))⟩
            rw [hnext, accU_ne hne]
            kernel_rfl, by kernel_rfl, rfl⟩
    · obtain rfl : i = ks.length := by omega
      rw [show vs.take ks.length = vs by rw [← g2, List.take_length], List.take_length]
      generalize refsU (ks, vs) = acc
      rcases Classical.em (acc = []) with he | hne
      · subst he
        rw [accU_nil]
        simp only [go_sem, T_3, T_4, T_42, T_76, T_239, T_269, T_1, T_3, T_4, T_5, T_9, T_22, T_42, T_51, T_69, T_76, T_77, T_78, T_90, T_91, T_93, T_95, T_96, T_98, T_100, T_121, T_145, T_179, T_184, T_239, cell1, Nat.lt_irrefl]
        show _ = _
        kernel_rfl
      · rw [accU_ne hne]
        simp only [go_sem, T_3, T_4, T_42, T_76, T_239, T_269, T_1, T_3, T_4, T_5, T_9, T_22, T_42, T_51, T_69, T_76, T_77, T_78, T_90, T_91, T_93, T_95, T_96, T_98, T_100, T_121, T_145, T_179, T_184, T_239, cell1, Nat.lt_irrefl]
        exact finish_ms rfl (by simp)
  · kernel_rfl
  · kernel_rfl
end Go.Proofs.Ytfdemnefkfkghaa.R
/- Chapter 27's laws: the document's add. -/
namespace Go.Proofs.Ytfdemnefkfkghaa.R
open Go Go.Proofs
set_option linter.unusedSimpArgs false
set_option linter.unusedVariables false
set_option maxRecDepth 10000
set_option maxHeartbeats 4000000

def refGo (b n : Int) : Bool → List S184 → List S184
  | d, [] => if d = true then [] else [⟨b, n⟩]
  | d, x :: r => if x.f0 = b then ⟨x.f0, capA x.f1 n⟩ :: refGo b n true r else if d = false ∧ b < x.f0 then ⟨b, n⟩ :: x :: refGo b n true r else x :: refGo b n d r
def refAdd (l : List S184) (b n : Int) : List S184 := if n = 0 then l else refGo b n false l
theorem refGo_drop {b n : Int} {d : Bool} {l : List S184} {i : Nat} (h : i < l.length) : refGo b n d (l.drop i) = if l[i].f0 = b then ⟨l[i].f0, capA l[i].f1 n⟩ :: refGo b n true (l.drop (i + 1)) else if d = false ∧ b < l[i].f0 then ⟨b, n⟩ :: l[i] :: refGo b n true (l.drop (i + 1)) else l[i] :: refGo b n d (l.drop (i + 1)) := by
  rw [List.drop_eq_getElem_cons h]
  rfl
theorem refGo_len {b n : Int} : ∀ {l : List S184} {d : Bool}, (refGo b n d l).length ≤ l.length + (if d = true then 0 else 1)
  | [], d => by cases d <;> simp [refGo]
  | x :: r, d => by
    have h1 := refGo_len (b := b) (n := n) (l := r) (d := true)
    have h2 := refGo_len (b := b) (n := n) (l := r) (d := d)
    simp only [if_true] at h1
    simp only [refGo]
    split
    · simp only [List.length_cons]; split <;> omega
    · split
      · rename_i e
        rw [e.1]
        simp only [List.length_cons, Bool.false_eq_true, if_false]; omega
      · simp only [List.length_cons]; omega
theorem refGo_b {b n : Int} (hn : u32B n) : ∀ {l : List S184} {d : Bool}, (∀ x ∈ l, u32B x.f1) → ∀ x ∈ refGo b n d l, u32B x.f1
  | [], d, _, x, hx => by
    simp only [refGo] at hx
    split at hx
    · simp at hx
    · simp only [List.mem_singleton] at hx
      subst hx
      exact hn
  | y :: r, d, h, x, hx => by
    have hr : ∀ x ∈ r, u32B x.f1 := fun x hx => h x (.tail _ hx)
    simp only [refGo] at hx
    split at hx
    · rcases List.mem_cons.1 hx with rfl | hx
      · exact capA_b (h y (.head _)) hn
      · exact refGo_b hn hr x hx
    · split at hx
      · rcases List.mem_cons.1 hx with rfl | hx
        · exact hn
        · rcases List.mem_cons.1 hx with rfl | hx
          · exact h _ (.head _)
          · exact refGo_b hn hr x hx
      · rcases List.mem_cons.1 hx with rfl | hx
        · exact h _ (.head _)
        · exact refGo_b hn hr x hx
theorem refAdd_len {l : List S184} {b n : Int} : (refAdd l b n).length ≤ l.length + 1 := by
  unfold refAdd
  split
  · omega
  · exact refGo_len
theorem refAdd_b {l : List S184} {b n : Int} (hn : u32B n) (h : ∀ x ∈ l, u32B x.f1) : ∀ x ∈ refAdd l b n, u32B x.f1 := by
  unfold refAdd
  split
  · exact h
  · exact refGo_b hn h
theorem sub_wrap {n : Int} (hn : u32B n) : IntKind.u32.wrap (4294967295 - n) = 4294967295 - n := wrap32_u (by unfold u32B at *; omega)
theorem lim173_zero (l : List S184) (b : Int) : lim T fns 173 [.fz (l.map k184.enc), .int .u32 b, .int .u32 0] [] = some (.fz (l.map k184.enc), []) := by
  refine fn_rule (fn := fn173) rfl rfl (by simp [fn173]) ?_
  unfold fn173
  simp only [Try.f173, Option.getD_some, argEnv, List.map_nil, List.length_nil]
  simp only [go_sem, T_1, T_3, T_4, T_42, T_77, T_184, show ((0 : Int) == 0) = true from rfl]
theorem lim173_some (l : List S184) (b n : Int) (hl : l.length < 1000000000) (h0 : n ≠ 0) (hn : u32B n) (hb : ∀ x ∈ l, u32B x.f1) : lim T fns 173 [.fz (l.map k184.enc), .int .u32 b, .int .u32 n] [] = some (.fz ((refGo b n false l).map k184.enc), []) := by
  refine fn_rule (fn := fn173) rfl rfl (by simp [fn173]) ?_
  unfold fn173
  simp only [Try.f173, Option.getD_some, argEnv, List.map_nil, List.length_nil]
  have h0b : (n == 0) = false := by simpa using h0
  simp only [go_sem, T_1, T_3, T_4, T_42, T_77, T_184, h0b]
  refine loop_rule (ι := Nat × List S184 × Bool) (S := fun p => ⟨[(0, .fz (l.map k184.enc)), (1, .int .u32 b), (2, .int .u32 n), (7, .ms 0 2 0 p.2.1.length none), (8, .bool p.2.2), (16, .int .i64 l.length), (17, .int .i64 p.1)], [some (.buf 2 (p.2.1.map k184.enc) false true)]⟩) (m := fun p => l.length + 1 - p.1)
    (I := fun p => p.1 ≤ l.length ∧ p.2.1.length ≤ p.1 + p.2.2.toNat ∧ p.2.1 ++ refGo b n p.2.2 (l.drop p.1) = refGo b n false l) ?_ (0, [], false) _ ⟨by simp, by simp, rfl⟩ (by kernel_rfl)
  rintro ⟨i, acc, d⟩ ⟨hi, ha, hg⟩
  simp only at hi ha hg
  by_cases hlt : i < l.length
  · have hx : l[i]? = some l[i] := List.getElem?_eq_getElem hlt
    have hxb := hb l[i] (List.getElem_mem hlt)
    rw [refGo_drop hlt] at hg
    by_cases h1 : l[i].f0 = b
    · have h1b : (l[i].f0 == b) = true := by simpa using h1
      rw [if_pos h1] at hg
      by_cases h2 : l[i].f1 > 4294967295 - n
      · have h2b : decide (l[i].f1 > 4294967295 - n) = true := by simpa using h2
        have e : capA l[i].f1 n = 4294967295 := by unfold capA u32B at *; rw [if_pos (by omega)]
        rw [e] at hg
        cases d with
        | true =>
          simp only [Bool.toNat_true] at ha
          simp only [go_sem, T_1, T_3, T_4, T_42, T_77, T_184, all184, hlt, hx, k184_enc, h1b, sub_wrap hn, h2b, h2, show (acc.length + 1) * 8 ≤ 140737488355328 by omega, show acc.length + 1 ≤ 140737488355328 by omega, wrap_i64s (show i < 1000000000000000000 by omega)]
          repeat (refine ⟨by kernel_rfl, ?_⟩)
          refine ⟨(i + 1, acc ++ [⟨l[i].f0, 4294967295⟩], true), ⟨by simp only; omega, by simp only [List.length_append, List.length_cons, List.length_nil, Bool.toNat_true]; omega, by simpa using hg⟩, by simp only; omega, ?_⟩
          simp only [List.map_append, List.map_cons, List.map_nil, List.length_append, List.length_cons, List.length_nil, k184_enc]
          show _ = _
          kernel_rfl
        | false =>
          simp only [Bool.toNat_false] at ha
          simp only [go_sem, T_1, T_3, T_4, T_42, T_77, T_184, all184, hlt, hx, k184_enc, h1b, sub_wrap hn, h2b, h2, show (acc.length + 1) * 8 ≤ 140737488355328 by omega, show acc.length + 1 ≤ 140737488355328 by omega, wrap_i64s (show i < 1000000000000000000 by omega)]
          repeat (refine ⟨by kernel_rfl, ?_⟩)
          refine ⟨(i + 1, acc ++ [⟨l[i].f0, 4294967295⟩], true), ⟨by simp only; omega, by simp only [List.length_append, List.length_cons, List.length_nil, Bool.toNat_true]; omega, by simpa using hg⟩, by simp only; omega, ?_⟩
          simp only [List.map_append, List.map_cons, List.map_nil, List.length_append, List.length_cons, List.length_nil, k184_enc]
          show _ = _
          kernel_rfl
      · have h2b : decide (l[i].f1 > 4294967295 - n) = false := by simpa using h2
        have e : capA l[i].f1 n = l[i].f1 + n := by unfold capA u32B at *; rw [if_neg (by omega)]
        have hw : IntKind.u32.wrap (l[i].f1 + n) = l[i].f1 + n := wrap32_u (by unfold u32B at *; omega)
        rw [e] at hg
        cases d with
        | true =>
          simp only [Bool.toNat_true] at ha
          simp only [go_sem, T_1, T_3, T_4, T_42, T_77, T_184, all184, hlt, hx, k184_enc, h1b, sub_wrap hn, h2b, h2, hw, show (acc.length + 1) * 8 ≤ 140737488355328 by omega, show acc.length + 1 ≤ 140737488355328 by omega, wrap_i64s (show i < 1000000000000000000 by omega)]
          repeat (refine ⟨by kernel_rfl, ?_⟩)
          refine ⟨(i + 1, acc ++ [⟨l[i].f0, l[i].f1 + n⟩], true), ⟨by simp only; omega, by simp only [List.length_append, List.length_cons, List.length_nil, Bool.toNat_true]; omega, by simpa using hg⟩, by simp only; omega, ?_⟩
          simp only [List.map_append, List.map_cons, List.map_nil, List.length_append, List.length_cons, List.length_nil, k184_enc]
          show _ = _
          kernel_rfl
        | false =>
          simp only [Bool.toNat_false] at ha
          simp only [go_sem, T_1, T_3, T_4, T_42, T_77, T_184, all184, hlt, hx, k184_enc, h1b, sub_wrap hn, h2b, h2, hw, show (acc.length + 1) * 8 ≤ 140737488355328 by omega, show acc.length + 1 ≤ 140737488355328 by omega, wrap_i64s (show i < 1000000000000000000 by omega)]
          repeat (refine ⟨by kernel_rfl, ?_⟩)
          refine ⟨(i + 1, acc ++ [⟨l[i].f0, l[i].f1 + n⟩], true), ⟨by simp only; omega, by simp only [List.length_append, List.length_cons, List.length_nil, Bool.toNat_true]; omega, by simpa using hg⟩, by simp only; omega, ?_⟩
          simp only [List.map_append, List.map_cons, List.map_nil, List.length_append, List.length_cons, List.length_nil, k184_enc]
          show _ = _
          kernel_rfl
    · have h1b : (l[i].f0 == b) = false := by simpa using h1
      rw [if_neg h1] at hg
      cases d with
      | true =>
        rw [if_neg (by simp)] at hg
        simp only [Bool.toNat_true] at ha
        simp only [go_sem, T_1, T_3, T_4, T_42, T_77, T_184, all184, hlt, hx, k184_enc, h1b, show (acc.length + 1) * 8 ≤ 140737488355328 by omega, show acc.length + 1 ≤ 140737488355328 by omega, wrap_i64s (show i < 1000000000000000000 by omega)]
        repeat (refine ⟨by kernel_rfl, ?_⟩)
        refine ⟨(i + 1, acc ++ [l[i]], true), ⟨by simp only; omega, by simp only [List.length_append, List.length_cons, List.length_nil, Bool.toNat_true]; omega, by simpa using hg⟩, by simp only; omega, ?_⟩
        simp only [List.map_append, List.map_cons, List.map_nil, List.length_append, List.length_cons, List.length_nil, k184_enc]
        show _ = _
        kernel_rfl
      | false =>
        simp only [Bool.toNat_false] at ha
        by_cases h3 : b < l[i].f0
        · have h3b : decide (b < l[i].f0) = true := by simpa using h3
          rw [if_pos ⟨rfl, h3⟩] at hg
          simp only [go_sem, T_1, T_3, T_4, T_42, T_77, T_184, all184, hlt, hx, k184_enc, h1b, h3b, h3, show (acc.length + 1) * 8 ≤ 140737488355328 by omega, show acc.length + 1 ≤ 140737488355328 by omega, show (acc.length + 1 + 1) * 8 ≤ 140737488355328 by omega, show acc.length + 1 + 1 ≤ 140737488355328 by omega, wrap_i64s (show i < 1000000000000000000 by omega)]
          repeat (refine ⟨by kernel_rfl, ?_⟩)
          refine ⟨(i + 1, (acc ++ [⟨b, n⟩]) ++ [l[i]], true), ⟨by simp only; omega, by simp only [List.length_append, List.length_cons, List.length_nil, Bool.toNat_true]; omega, by simpa using hg⟩, by simp only; omega, ?_⟩
          simp only [List.map_append, List.map_cons, List.map_nil, List.length_append, List.length_cons, List.length_nil, k184_enc]
          show _ = _
          kernel_rfl
        · have h3b : decide (b < l[i].f0) = false := by simpa using h3
          rw [if_neg fun h => h3 h.2] at hg
          simp only [go_sem, T_1, T_3, T_4, T_42, T_77, T_184, all184, hlt, hx, k184_enc, h1b, h3b, h3, show (acc.length + 1) * 8 ≤ 140737488355328 by omega, show acc.length + 1 ≤ 140737488355328 by omega, wrap_i64s (show i < 1000000000000000000 by omega)]
          repeat (refine ⟨by kernel_rfl, ?_⟩)
          refine ⟨(i + 1, acc ++ [l[i]], false), ⟨by simp only; omega, by simp only [List.length_append, List.length_cons, List.length_nil, Bool.toNat_false]; omega, by simpa using hg⟩, by simp only; omega, ?_⟩
          simp only [List.map_append, List.map_cons, List.map_nil, List.length_append, List.length_cons, List.length_nil, k184_enc]
          show _ = _
          kernel_rfl
  · rw [List.drop_eq_nil_of_le (by omega)] at hg
    cases d with
    | true =>
      have hg2 : acc = refGo b n false l := by simpa [refGo] using hg
      simp only [go_sem, T_1, T_3, T_4, T_42, T_77, T_184, hlt]
      rw [← hg2]
      exact finish_ms rfl (by simp)
    | false =>
      simp only [Bool.toNat_false] at ha
      have hg2 : acc ++ [⟨b, n⟩] = refGo b n false l := by simpa [refGo] using hg
      simp only [go_sem, T_1, T_3, T_4, T_42, T_77, T_184, hlt, k184_enc, show (acc.length + 1) * 8 ≤ 140737488355328 by omega, show acc.length + 1 ≤ 140737488355328 by omega]
      rw [← hg2]
      refine (finish_ms (rows := acc.map k184.enc ++ [[.int .u32 b, .int .u32 n]]) rfl (by simp)).trans ?_
      simp [k184_enc]
theorem lim173 (l : List S184) (b n : Int) (hl : l.length < 1000000000) (hn : u32B n) (hb : ∀ x ∈ l, u32B x.f1) : lim T fns 173 [.fz (l.map k184.enc), .int .u32 b, .int .u32 n] [] = some (.fz ((refAdd l b n).map k184.enc), []) := by
  unfold refAdd
  by_cases h0 : n = 0
  · subst h0
    rw [if_pos rfl]
    exact lim173_zero l b
  · rw [if_neg h0]
    exact lim173_some l b n hl h0 hn hb
end Go.Proofs.Ytfdemnefkfkghaa.R
/- Chapter 27's laws: the document's Counts. -/
namespace Go.Proofs.Ytfdemnefkfkghaa.R
open Go Go.Proofs
set_option linter.unusedSimpArgs false
set_option linter.unusedVariables false
set_option maxRecDepth 10000
set_option maxHeartbeats 4000000

def addsR (l : List (Int × Int)) (acc : List S184) : List S184 := l.foldl (fun acc x => refAdd acc x.1 x.2) acc
theorem addsR_app {l m : List (Int × Int)} {acc : List S184} : addsR (l ++ m) acc = addsR m (addsR l acc) := by unfold addsR; rw [List.foldl_append]
theorem addsR_snoc {l : List (Int × Int)} {x : Int × Int} {acc : List S184} : addsR (l ++ [x]) acc = refAdd (addsR l acc) x.1 x.2 := by rw [addsR_app]; rfl
theorem addsR_len {l : List (Int × Int)} : ∀ {acc : List S184}, (addsR l acc).length ≤ acc.length + l.length := by
  induction l with
  | nil => intro acc; simp [addsR]
  | cons x r ih =>
    intro acc
    have h1 := ih (acc := refAdd acc x.1 x.2)
    have h2 := refAdd_len (l := acc) (b := x.1) (n := x.2)
    show (addsR r _).length ≤ _
    simp only [List.length_cons]
    omega
theorem addsR_b {l : List (Int × Int)} : ∀ {acc : List S184}, (∀ x ∈ l, u32B x.2) → (∀ x ∈ acc, u32B x.f1) → ∀ x ∈ addsR l acc, u32B x.f1 := by
  induction l with
  | nil => intro acc _ h; exact h
  | cons x r ih => intro acc hl h; exact ih (fun y hy => hl y (.tail _ hy)) (refAdd_b (hl x (.head _)) h)
/-- Refs that stand as an empty object, at first. -/
def k7 (o : Option (List S184)) : V := match o with
  | none => .ms 0 2 0 0 none
  | some l => .fz (l.map k184.enc)
def h7 (o : Option (List S184)) : Heap := match o with
  | none => [some (.buf 2 [] false true)]
  | some _ => []
theorem rootsB (m : List S179) : ∀ x ∈ nmRoots m, u32B x.2 := fun x hx => by
  obtain ⟨v, _, rfl⟩ := List.mem_map.1 hx
  exact one_b
theorem itemsB (m : List S95) : ∀ x ∈ nmItems m, u32B x.2 := fun x hx => by
  obtain ⟨y, hy, hx⟩ := List.mem_flatten.1 hx
  obtain ⟨z, _, rfl⟩ := List.mem_map.1 hy
  obtain ⟨t, _, rfl⟩ := List.mem_map.1 hx
  exact one_b
theorem nodeB (n : S93) (k : Nat) : ∀ x ∈ (nmNode n).take k, u32B x.2 := fun x hx => by
  obtain ⟨t, _, rfl⟩ := List.mem_map.1 (List.mem_of_mem_take hx)
  exact one_b
theorem lim117 (l : List S95) (vols : List S179) (pend : List S184) (hl : fewL l) (h1 : vols.length < 100000000) (h2 : (nmItems l).length < 100000000) (h3 : pend.length < 100000000) (hp : ∀ x ∈ pend, u32B x.f1) : lim T fns 117 [.fz (l.map k95.enc), .fz (vols.map k179.enc), .fz (pend.map k184.enc)] [] =
    some (.fz ((addsR (nmRoots vols ++ nmItems l ++ nmPend pend) []).map k184.enc), []) := by
  refine fn_rule (fn := fn117) rfl rfl (by simp [fn117]) ?_
  unfold fn117
  simp only [Try.f117, Option.getD_some, argEnv, List.map_nil, List.length_nil]
  have hl1 := hl.1
  have hfz := callFz 173 fn173 (T := T) (fns := fns) rfl rfl 3 rfl
  have hput0 := fun (b n : Int) (hn : u32B n) => lim173 [] b n (by simp) hn (by simp)
  simp only [List.map_nil] at hput0
  have nil_b : ∀ x ∈ ([] : List S184), u32B x.f1 := by simp
  simp only [go_sem, T_3, T_4, T_5, T_9, T_22, T_42, T_51, T_69, T_76, T_77, T_78, T_90, T_91, T_93, T_95, T_96, T_98, T_100, T_121, T_145, T_179, T_184]
  refine loop_rule (ι := Nat × Option (List S184)) (S := fun p => ⟨[(0, .fz (l.map k95.enc)), (1, .fz (vols.map k179.enc)), (2, .fz (pend.map k184.enc)), (7, k7 p.2), (15, .int .i64 vols.length), (16, .int .i64 p.1)], h7 p.2⟩) (m := fun p => vols.length + 1 - p.1)
    (I := fun p => p.1 ≤ vols.length ∧ p.2.getD [] = addsR (nmRoots (vols.take p.1)) []) ?_ (0, none) _ ⟨by simp, rfl⟩ (by kernel_rfl)
  rintro ⟨i, o⟩ ⟨hi, hg⟩
  simp only at hi hg
  by_cases hlt : i < vols.length
  · have hx : vols[i]? = some vols[i] := List.getElem?_eq_getElem hlt
    have hn : addsR (nmRoots (vols.take (i + 1))) [] = refAdd (addsR (nmRoots (vols.take i)) []) vols[i].f1 1 := by
      unfold nmRoots
      rw [List.take_succ_eq_append_getElem hlt, List.map_append]
      exact addsR_snoc
    have hlen := addsR_len (l := nmRoots (vols.take i)) (acc := [])
    have hlen2 : (nmRoots (vols.take i)).length ≤ i := by simp [nmRoots]; omega
    have hb := addsR_b (acc := []) (rootsB (vols.take i)) nil_b
    rw [← hg] at hn hb hlen
    simp only [List.length_nil] at hlen
    rcases o with _ | all
    · simp only [k7, h7]
      simp only [go_sem, T_3, T_4, T_5, T_9, T_22, T_42, T_51, T_69, T_76, T_77, T_78, T_90, T_91, T_93, T_95, T_96, T_98, T_100, T_121, T_145, T_179, T_184, all179, hlt, hx, k179_enc, hfz, hput0 _ _ one_b, wrap_i64s (show i < 1000000000000000000 by omega)]
      exact ⟨(i + 1, some (refAdd [] vols[i].f1 1)), ⟨by simp only; omega, hn.symm⟩, by simp only; omega, by kernel_rfl⟩
    · simp only [Option.getD_some] at hn hb hlen
      simp only [k7, h7]
      simp only [go_sem, T_3, T_4, T_5, T_9, T_22, T_42, T_51, T_69, T_76, T_77, T_78, T_90, T_91, T_93, T_95, T_96, T_98, T_100, T_121, T_145, T_179, T_184, all179, hlt, hx, k179_enc, hfz, lim173 all _ _ (show all.length < 1000000000 by omega) one_b hb, wrap_i64s (show i < 1000000000000000000 by omega)]
      exact ⟨(i + 1, some (refAdd all vols[i].f1 1)), ⟨by simp only; omega, hn.symm⟩, by simp only; omega, by kernel_rfl⟩
  obtain rfl : i = vols.length := by omega
  rw [List.take_length] at hg
  have hRb := addsR_b (acc := []) (rootsB vols) nil_b
  have hRl := addsR_len (l := nmRoots vols) (acc := [])
  rw [show (nmRoots vols).length = vols.length by simp [nmRoots]] at hRl
  simp only [List.length_nil] at hRl
  simp only [addsR_app]
  generalize addsR (nmRoots vols) [] = R at *
  simp only [go_sem, T_3, T_4, T_5, T_9, T_22, T_42, T_51, T_69, T_76, T_77, T_78, T_90, T_91, T_93, T_95, T_96, T_98, T_100, T_121, T_145, T_179, T_184, hlt]
  clear hlt hi
  refine loop_rule (ι := Nat × Option (List S184)) (S := fun p => ⟨[(0, .fz (l.map k95.enc)), (2, .fz (pend.map k184.enc)), (7, k7 p.2), (28, .int .i64 l.length), (29, .int .i64 p.1)], h7 p.2⟩) (m := fun p => l.length + 1 - p.1)
    (I := fun p => p.1 ≤ l.length ∧ p.2.getD [] = addsR (nmItems (l.take p.1)) R) ?_ (0, o) _ ⟨by simp, hg⟩ (by cases o <;> kernel_rfl)
  clear hg
  rintro ⟨i, o⟩ ⟨hi, hg⟩
  simp only at hi hg
  by_cases hlt : i < l.length
  · have hx : l[i]? = some l[i] := List.getElem?_eq_getElem hlt
    have hnl := hl.2 l[i] (List.getElem_mem hlt)
    have hts := call67 l[i].f1 hnl
    simp only [k93_enc] at hts
    have hsucc := nmItems_succ hlt
    have hle := nmItems_le (l := l) (i := i + 1)
    rw [hsucc, List.length_append] at hle
    have hQb := addsR_b (acc := R) (itemsB (l.take i)) hRb
    have hQl := addsR_len (l := nmItems (l.take i)) (acc := R)
    have htl : (nmNode l[i].f1).length = (targets l[i].f1).length := by simp [nmNode]
    have hnx : addsR (nmItems (l.take (i + 1))) R = addsR (nmNode l[i].f1) (addsR (nmItems (l.take i)) R) := by rw [hsucc, addsR_app]
    generalize addsR (nmItems (l.take i)) R = Q at *
    simp only [go_sem, T_3, T_4, T_5, T_9, T_22, T_42, T_51, T_69, T_76, T_77, T_78, T_90, T_91, T_93, T_95, T_96, T_98, T_100, T_121, T_145, T_179, T_184, all95, hlt, hx, k95_enc, hts]
    refine loop_rule (ι := Nat × Option (List S184)) (S := fun p => ⟨[(0, .fz (l.map k95.enc)), (2, .fz (pend.map k184.enc)), (7, k7 p.2), (10, .fz ((targets l[i].f1).map (Cd.int .u32).enc)), (28, .int .i64 l.length), (29, .int .i64 i), (39, .int .i64 (targets l[i].f1).length), (40, .int .i64 p.1)], h7 p.2⟩) (m := fun p => (targets l[i].f1).length + 1 - p.1)
      (I := fun p => p.1 ≤ (targets l[i].f1).length ∧ p.2.getD [] = addsR ((nmNode l[i].f1).take p.1) Q) ?_ (0, o) _ ⟨by simp, hg⟩ (by cases o <;> kernel_rfl)
    clear hg
    rintro ⟨j, o⟩ ⟨hj, hg⟩
    simp only at hj hg
    by_cases hlj : j < (targets l[i].f1).length
    · have hy : (targets l[i].f1)[j]? = some (targets l[i].f1)[j] := List.getElem?_eq_getElem hlj
      have hn : addsR ((nmNode l[i].f1).take (j + 1)) Q = refAdd (addsR ((nmNode l[i].f1).take j) Q) (targets l[i].f1)[j] 1 := by
        rw [List.take_succ_eq_append_getElem (by rw [htl]; exact hlj), addsR_snoc]
        simp [nmNode]
      have hlen := addsR_len (l := (nmNode l[i].f1).take j) (acc := Q)
      have hlen2 : ((nmNode l[i].f1).take j).length ≤ (nmNode l[i].f1).length := by simp; omega
      have hb := addsR_b (acc := Q) (nodeB l[i].f1 j) hQb
      rw [← hg] at hn hb hlen
      generalize (targets l[i].f1)[j] = t at *
      rcases o with _ | all
      · simp only [k7, h7]
        simp only [go_sem, T_3, T_4, T_5, T_9, T_22, T_42, T_51, T_69, T_76, T_77, T_78, T_90, T_91, T_93, T_95, T_96, T_98, T_100, T_121, T_145, T_179, T_184, all_int, hlj, hy, hfz, hput0 _ _ one_b, wrap_i64s (show j < 1000000000000000000 by omega)]
        exact ⟨(j + 1, some (refAdd [] t 1)), ⟨by simp only; omega, hn.symm⟩, by simp only; omega, by kernel_rfl⟩
      · simp only [Option.getD_some] at hn hb hlen
        simp only [k7, h7]
        simp only [go_sem, T_3, T_4, T_5, T_9, T_22, T_42, T_51, T_69, T_76, T_77, T_78, T_90, T_91, T_93, T_95, T_96, T_98, T_100, T_121, T_145, T_179, T_184, all_int, hlj, hy, hfz, lim173 all _ _ (show all.length < 1000000000 by omega) one_b hb, wrap_i64s (show j < 1000000000000000000 by omega)]
        exact ⟨(j + 1, some (refAdd all t 1)), ⟨by simp only; omega, hn.symm⟩, by simp only; omega, by kernel_rfl⟩
    · obtain rfl : j = (targets l[i].f1).length := by omega
      rw [← htl, List.take_length, ← hnx] at hg
      simp only [go_sem, T_3, T_4, T_5, T_9, T_22, T_42, T_51, T_69, T_76, T_77, T_78, T_90, T_91, T_93, T_95, T_96, T_98, T_100, T_121, T_145, T_179, T_184, hlt, Nat.lt_irrefl, wrap_i64s (show i < 1000000000000000000 by omega)]
      exact ⟨(i + 1, o), ⟨by simp only; omega, hg⟩, by simp only; omega, by cases o <;> kernel_rfl⟩
  obtain rfl : i = l.length := by omega
  rw [List.take_length] at hg
  have hQb := addsR_b (acc := R) (itemsB l) hRb
  have hQl := addsR_len (l := nmItems l) (acc := R)
  generalize addsR (nmItems l) R = Q at *
  simp only [go_sem, T_3, T_4, T_5, T_9, T_22, T_42, T_51, T_69, T_76, T_77, T_78, T_90, T_91, T_93, T_95, T_96, T_98, T_100, T_121, T_145, T_179, T_184, hlt]
  clear hlt hi
  refine loop_rule (ι := Nat × Option (List S184)) (S := fun p => ⟨[(2, .fz (pend.map k184.enc)), (7, k7 p.2), (52, .int .i64 pend.length), (53, .int .i64 p.1)], h7 p.2⟩) (m := fun p => pend.length + 1 - p.1)
    (I := fun p => p.1 ≤ pend.length ∧ p.2.getD [] = addsR (nmPend (pend.take p.1)) Q) ?_ (0, o) _ ⟨by simp, hg⟩ (by cases o <;> kernel_rfl)
  clear hg
  rintro ⟨i, o⟩ ⟨hi, hg⟩
  simp only at hi hg
  by_cases hlt : i < pend.length
  · have hx : pend[i]? = some pend[i] := List.getElem?_eq_getElem hlt
    have hpb := hp pend[i] (List.getElem_mem hlt)
    have hn : addsR (nmPend (pend.take (i + 1))) Q = refAdd (addsR (nmPend (pend.take i)) Q) pend[i].f0 pend[i].f1 := by
      unfold nmPend
      rw [List.take_succ_eq_append_getElem hlt, List.map_append]
      exact addsR_snoc
    have hlen := addsR_len (l := nmPend (pend.take i)) (acc := Q)
    have hlen2 : (nmPend (pend.take i)).length ≤ i := by simp [nmPend]; omega
    have hb := addsR_b (l := nmPend (pend.take i)) (acc := Q) (fun x hx => by
      obtain ⟨y, hy, rfl⟩ := List.mem_map.1 hx
      exact hp y (List.mem_of_mem_take hy)) hQb
    rw [← hg] at hn hb hlen
    rcases o with _ | all
    · simp only [k7, h7]
      simp only [go_sem, T_3, T_4, T_5, T_9, T_22, T_42, T_51, T_69, T_76, T_77, T_78, T_90, T_91, T_93, T_95, T_96, T_98, T_100, T_121, T_145, T_179, T_184, all184, hlt, hx, k184_enc, hfz, hput0 _ _ hpb, wrap_i64s (show i < 1000000000000000000 by omega)]
      repeat (refine ⟨by kernel_rfl, ?_⟩)
      exact ⟨(i + 1, some (refAdd [] pend[i].f0 pend[i].f1)), ⟨by simp only; omega, hn.symm⟩, by simp only; omega, by kernel_rfl⟩
    · simp only [Option.getD_some] at hn hb hlen
      simp only [k7, h7]
      simp only [go_sem, T_3, T_4, T_5, T_9, T_22, T_42, T_51, T_69, T_76, T_77, T_78, T_90, T_91, T_93, T_95, T_96, T_98, T_100, T_121, T_145, T_179, T_184, all184, hlt, hx, k184_enc, hfz, lim173 all _ _ (show all.length < 1000000000 by omega) hpb hb, wrap_i64s (show i < 1000000000000000000 by omega)]
      repeat (refine ⟨by kernel_rfl, ?_⟩)
      exact ⟨(i + 1, some (refAdd all pend[i].f0 pend[i].f1)), ⟨by simp only; omega, hn.symm⟩, by simp only; omega, by kernel_rfl⟩
  · obtain rfl : i = pend.length := by omega
    rw [List.take_length] at hg
    rw [← hg]
    rcases o with _ | all
    · simp only [k7, h7]
      simp only [go_sem, T_3, T_4, T_5, T_9, T_22, T_42, T_51, T_69, T_76, T_77, T_78, T_90, T_91, T_93, T_95, T_96, T_98, T_100, T_121, T_145, T_179, T_184, hlt]
      exact finish_ms rfl rfl
    · simp only [k7, h7]
      simp only [go_sem, T_3, T_4, T_5, T_9, T_22, T_42, T_51, T_69, T_76, T_77, T_78, T_90, T_91, T_93, T_95, T_96, T_98, T_100, T_121, T_145, T_179, T_184, hlt, Option.getD_some]
end Go.Proofs.Ytfdemnefkfkghaa.R
/- Chapter 33's law: are all targets there? -/
namespace Go.Proofs.Ytfdemnefkfkghaa.R
open Go Go.Proofs
set_option linter.unusedSimpArgs false
set_option linter.unusedVariables false
set_option maxRecDepth 10000
set_option maxHeartbeats 4000000

def keyT (x : S95) : V × V := (.int .u32 x.f0, .bool true)
def inL (b : Int) (l : List S95) : Bool := l.any fun x => x.f0 == b
theorem findKeyT {b : Int} : ∀ {l : List S95}, findKey (.int .u32 b) (l.map keyT) = some (if inL b l = true then some (.bool true) else none)
  | [] => rfl
  | x :: r => by
    simp only [List.map_cons, keyT, findKey, eqCell, if_true, inL, List.any_cons]
    by_cases h : x.f0 = b
    · subst h
      simp
    · have e : (b == x.f0) = false := by
        simp only [beq_eq_false_iff_ne]
        exact fun e => h e.symm
      have e2 : (x.f0 == b) = false := by simpa using h
      simp only [e, e2, Bool.false_or]
      exact findKeyT
theorem setKey_new {b : Int} {v : V} {es : List (V × V)} : ∀ {l : List S95} {f : S95 → V}, (∀ x ∈ l, x.f0 ≠ b) → setKey (.int .u32 b) v (l.map fun x => (V.int .u32 x.f0, f x)) = some ((l.map fun x => (V.int .u32 x.f0, f x)) ++ [(.int .u32 b, v)])
  | [], _, _ => rfl
  | x :: r, f, h => by
    have h1 := h x (.head _)
    have e : (b == x.f0) = false := by
      simp only [beq_eq_false_iff_ne]
      exact fun h => h1 h.symm
    simp only [List.map_cons, setKey, eqCell, if_true, e]
    rw [setKey_new (es := []) fun y hy => h y (.tail _ hy)]
    rfl
theorem rises_take {l : List S95} (hr : risesB l = true) {i : Nat} (h : i < l.length) : ∀ x ∈ l.take i, x.f0 ≠ l[i].f0 := by
  intro x hx
  have : ∀ {l : List S95}, risesB l = true → ∀ {i : Nat} (h : i < l.length), ∀ x ∈ l.take i, x.f0 < l[i].f0 := by
    intro l
    induction l with
    | nil => intro _ i h; simp at h
    | cons y r ih =>
      intro hr i h x hx
      cases i with
      | zero => simp at hx
      | succ i =>
        simp only [List.take_succ_cons, List.mem_cons] at hx
        rcases hx with rfl | hx
        · exact rises_lt hr _ (List.getElem_mem _)
        · exact ih (rises_tail hr) (by simpa using h) x hx
  have := this hr h x hx
  omega

def wo0 : Ob := .buf 1 [[.map 1]] false false
def wo1 (l : List S95) : Ob := .mp (l.map keyT) true

theorem lim132 (b : Int) (l : List S95) : lim T fns 132 [.int .u32 b, .ptr 0 0 0] [wo0, wo1 l] = some (.bool (!inL b l), [some wo0, some (wo1 l)]) := by
  refine fn_rule (fn := fn132) rfl rfl (by simp [fn132]) ?_
  unfold fn132
  simp only [Try.f132, Option.getD_some, argEnv, List.map_nil, List.length_nil]
  have hk : isKey T 42 (.int .u32 b) = true := rfl
  simp only [go_sem, T_4, T_42, T_194, wo0, wo1, List.map_cons, lookupR, hk, findKeyT]
  cases hg : inL b l with
  | true =>
    simp only [go_sem, T_4, T_42, T_194, giveR]
    show _ = _
    kernel_rfl
  | false =>
    simp only [go_sem, T_4, T_42, T_194, giveR]
    show _ = _
    kernel_rfl
theorem call132 (b : Int) (l : List S95) (n : Nat) (hn : 2 ≤ n) (rest : Heap) : (callV (LX T fns) n (.clo 132 [.ptr 0 0 0]) [.int .u32 b]).run (some wo0 :: some (wo1 l) :: rest) [] =
    some ((.bool (!inL b l), [(0, some wo0), (1, some (wo1 l))]), [1, 0]) := by
  have h := lim132 b l
  simp only [wo0, wo1] at h ⊢
  have hf : fns 132 = some fn132 := rfl
  unfold callV
  simp only [hf]
  unfold callR
  simp only [fn132, List.cons_append, List.nil_append, List.append_nil, frzArgs, frz, frzAll, frzG, frzGAll, ms2, msUp, List.tail]
  simp only [V.allIds, V.ids, List.append_nil, List.nil_append, collect, List.map_nil, List.contains_nil, Bool.false_eq_true, if_false, Rd.run, Heap.at?, Ob.ids, rowsIds, List.map_cons, List.cons_append, List.contains_cons, Nat.reduceBEq, Bool.or_self, Bool.or_false, Bool.false_or, Bool.or_true, Bool.true_or, if_true]
  unfold withR
  simp only [List.map_cons, List.map_nil, upd1, List.all_nil, List.all_cons, show 0 < n by omega, show 1 < n by omega, decide_true, Bool.and_self, if_true, V.reAll, V.re, idx, Nat.beq, cond_true, cond_false, Option.bind_some, Option.map_some, pullObs, Ob.re, reRows, Nat.reduceAdd, h, List.length_cons, List.length_nil, Nat.le_refl]
  unfold afterR
  simp only [V.re, V.reAll, pushObs, back, nth, Ob.re, reRows, Option.bind_some, Option.map_some, List.isEmpty_cons, Bool.false_and, Bool.false_eq_true, if_false, Rd.run, List.append_nil, Nat.reduceAdd]

theorem lim187 (ts : List Int) (l : List S95) (hl : ts.length < 10000000000000) : lim T fns 187 [.fz (ts.map (Cd.int .u32).enc), .clo 132 [.ptr 0 0 0]] [wo0, wo1 l] = some (.int .i64 (firstI (fun b => !inL b l) ts 0), [some wo0, some (wo1 l)]) := by
  refine fn_rule (fn := fn187) rfl rfl (by simp [fn187]) ?_
  unfold fn187
  simp only [Try.f187, Option.getD_some, argEnv, List.map_nil, List.length_nil]
  simp only [go_sem, T_3, T_42, T_76, List.map_cons]
  refine loop_rule (ι := Nat) (S := fun i => ⟨[(0, .fz (ts.map (Cd.int .u32).enc)), (1, .clo 132 [.ptr 0 0 0]), (7, .int .i64 ts.length), (8, .int .i64 i)], [some wo0, some (wo1 l)]⟩) (m := fun i => ts.length + 1 - i)
    (I := fun i => i ≤ ts.length ∧ firstI (fun b => !inL b l) (ts.drop i) i = firstI (fun b => !inL b l) ts 0) ?_ 0 _ ⟨by omega, by simp⟩ (by kernel_rfl)
  rintro i ⟨hi, hg⟩
  by_cases hlt : i < ts.length
  · have hx : ts[i]? = some ts[i] := List.getElem?_eq_getElem hlt
    have hc := fun n hn rest => call132 ts[i] l n hn rest
    rw [firstI_drop hlt] at hg
    cases k1 : inL ts[i] l with
    | true =>
      simp only [k1] at hc
      simp only [go_sem, T_3, T_42, T_76, hlt, hx, hc, wrap_i64s (show i < 1000000000000000000 by omega)]
      exact ⟨i + 1, ⟨by omega, by simpa [k1] using hg⟩, by simp only; omega, by kernel_rfl⟩
    | false =>
      simp only [k1] at hc
      simp only [go_sem, T_3, T_42, T_76, hlt, hx, hc]
      rw [← hg, k1]
      show _ = _
      kernel_rfl
  · rw [List.drop_eq_nil_of_le (by omega)] at hg
    simp only [go_sem, T_3, T_42, T_76, hlt]
    rw [← hg]
    show _ = _
    kernel_rfl
theorem call187 (ts : List Int) (l : List S95) (hl : ts.length < 10000000000000) (n : Nat) (hn : 2 ≤ n) (rest : Heap) : (callV (LX T fns) n (.clo 187 []) [.fz (ts.map (Cd.int .u32).enc), .clo 132 [.ptr 0 0 0]]).run (some wo0 :: some (wo1 l) :: rest) [] =
    some ((.int .i64 (firstI (fun b => !inL b l) ts 0), [(0, some wo0), (1, some (wo1 l))]), [1, 0]) := by
  have h := lim187 ts l hl
  simp only [wo0, wo1] at h ⊢
  have hf : fns 187 = some fn187 := rfl
  unfold callV
  simp only [hf]
  unfold callR
  simp only [fn187, List.cons_append, List.nil_append, List.append_nil, frzArgs, frz, frzAll, frzG, frzGAll, ms2, msUp, List.tail]
  simp only [V.allIds, V.ids, List.append_nil, List.nil_append, collect, List.map_nil, List.contains_nil, Bool.false_eq_true, if_false, Rd.run, Heap.at?, Ob.ids, rowsIds, List.map_cons, List.cons_append, List.contains_cons, Nat.reduceBEq, Bool.or_self, Bool.or_false, Bool.false_or, Bool.or_true, Bool.true_or, if_true]
  unfold withR
  simp only [List.map_cons, List.map_nil, upd1, List.all_nil, List.all_cons, show 0 < n by omega, show 1 < n by omega, decide_true, Bool.and_self, if_true, V.reAll, V.re, idx, Nat.beq, cond_true, cond_false, Option.bind_some, Option.map_some, pullObs, Ob.re, reRows, Nat.reduceAdd, h, List.length_cons, List.length_nil, Nat.le_refl]
  unfold afterR
  simp only [V.re, V.reAll, pushObs, back, nth, Ob.re, reRows, Option.bind_some, Option.map_some, List.isEmpty_cons, Bool.false_and, Bool.false_eq_true, if_false, Rd.run, List.append_nil, Nat.reduceAdd]
theorem lim130 (ts : List Int) (l : List S95) (hl : ts.length < 10000000000000) : lim T fns 130 [.fz (ts.map (Cd.int .u32).enc), .clo 132 [.ptr 0 0 0]] [wo0, wo1 l] = some (.bool (ts.any fun b => !inL b l), [some wo0, some (wo1 l)]) := by
  refine fn_rule (fn := fn130) rfl rfl (by simp [fn130]) ?_
  unfold fn130
  simp only [Try.f130, Option.getD_some, argEnv, List.map_nil, List.length_nil]
  simp only [go_sem, T_3, T_42, T_76, T_196, List.map_cons, call187 ts l hl]
  rw [firstI_any]
  show _ = _
  kernel_rfl
theorem call130 (ts : List Int) (l : List S95) (hl : ts.length < 10000000000000) (n : Nat) (hn : 2 ≤ n) (rest : Heap) : (callV (LX T fns) n (.clo 130 []) [.fz (ts.map (Cd.int .u32).enc), .clo 132 [.ptr 0 0 0]]).run (some wo0 :: some (wo1 l) :: rest) [] =
    some ((.bool (ts.any fun b => !inL b l), [(0, some wo0), (1, some (wo1 l))]), [1, 0]) := by
  have h := lim130 ts l hl
  simp only [wo0, wo1] at h ⊢
  have hf : fns 130 = some fn130 := rfl
  unfold callV
  simp only [hf]
  unfold callR
  simp only [fn130, List.cons_append, List.nil_append, List.append_nil, frzArgs, frz, frzAll, frzG, frzGAll, ms2, msUp, List.tail]
  simp only [V.allIds, V.ids, List.append_nil, List.nil_append, collect, List.map_nil, List.contains_nil, Bool.false_eq_true, if_false, Rd.run, Heap.at?, Ob.ids, rowsIds, List.map_cons, List.cons_append, List.contains_cons, Nat.reduceBEq, Bool.or_self, Bool.or_false, Bool.false_or, Bool.or_true, Bool.true_or, if_true]
  unfold withR
  simp only [List.map_cons, List.map_nil, upd1, List.all_nil, List.all_cons, show 0 < n by omega, show 1 < n by omega, decide_true, Bool.and_self, if_true, V.reAll, V.re, idx, Nat.beq, cond_true, cond_false, Option.bind_some, Option.map_some, pullObs, Ob.re, reRows, Nat.reduceAdd, h, List.length_cons, List.length_nil, Nat.le_refl]
  unfold afterR
  simp only [V.re, V.reAll, pushObs, back, nth, Ob.re, reRows, Option.bind_some, Option.map_some, List.isEmpty_cons, Bool.false_and, Bool.false_eq_true, if_false, Rd.run, List.append_nil, Nat.reduceAdd]

def wholeB (l : List S95) : Bool := l.all fun x => !(targets x.f1).any fun b => !inL b l
theorem all_drop {α : Type} {f : α → Bool} {l : List α} {i : Nat} (h : i < l.length) : (l.drop i).all f = (f l[i] && (l.drop (i + 1)).all f) := by
  rw [List.drop_eq_getElem_cons h]
  rfl
theorem lim61 (l : List S95) (hl : fewL l) (hr : risesB l = true) : lim T fns 61 [.fz (l.map k95.enc)] [] = some (.bool (wholeB l), []) := by
  obtain ⟨hl1, hln⟩ := hl
  have hk : ∀ b, isKey T 42 (.int .u32 b) = true := fun b => rfl
  have hfit : ∀ b ti, T 4 = some ti → fits ti (.bool b) = true := by
    intro b ti h
    cases h
    rfl
  have hf4 : ∀ b, fits ⟨.bool, 1, 1, .bool false⟩ (.bool b) = true := fun b => hfit b _ rfl
  refine fn_rule (fn := fn61) rfl rfl (by simp [fn61]) ?_
  unfold fn61
  simp only [Try.f61, Option.getD_some, argEnv, List.map_nil, List.length_nil]
  simp only [go_sem, T_3, T_4, T_5, T_9, T_22, T_42, T_51, T_69, T_76, T_90, T_91, T_93, T_95, T_96, T_98, T_100, T_121, T_145, T_194, T_196, List.map_cons]
  refine loop_rule (ι := Nat) (S := fun i => ⟨[(0, .fz (l.map k95.enc)), (3, .ptr 0 0 0), (9, .fz (l.map k95.enc)), (10, .int .i64 l.length), (11, .int .i64 i)], [some wo0, some (wo1 (l.take i))]⟩) (m := fun i => l.length + 1 - i)
    (I := fun i => i ≤ l.length) ?_ 0 _ (by simp) (by kernel_rfl)
  intro i hi
  by_cases hlt : i < l.length
  · have hx : l[i]? = some l[i] := List.getElem?_eq_getElem hlt
    have hs : setKey (.int .u32 l[i].f0) (.bool true) ((l.take i).map keyT) = some ((l.take i).map keyT ++ [(V.int .u32 l[i].f0, V.bool true)]) := setKey_new (v := .bool true) (es := []) (f := fun _ => .bool true) (rises_take hr hlt)
    simp only [go_sem, T_3, T_4, T_5, T_9, T_22, T_42, T_51, T_69, T_76, T_90, T_91, T_93, T_95, T_96, T_98, T_100, T_121, T_145, T_194, T_196, all95, hlt, hx, k95_enc, wo0, wo1, mapUpdateR, hk, hf4, hs, wrap_i64s (show i < 1000000000000000000 by omega)]
    refine ⟨i + 1, by omega, by simp only; omega, ?_⟩
    have e : (l.take i).map keyT ++ [(V.int .u32 l[i].f0, V.bool true)] = (l.take (i + 1)).map keyT := by
      rw [List.take_succ_eq_append_getElem hlt, List.map_append]
      rfl
    rw [e]
    show _ = _
    kernel_rfl
  obtain rfl : i = l.length := by omega
  simp only [go_sem, T_3, T_4, T_5, T_9, T_22, T_42, T_51, T_69, T_76, T_90, T_91, T_93, T_95, T_96, T_98, T_100, T_121, T_145, T_194, T_196, hlt]
  rw [List.take_of_length_le (Nat.le_refl _)]
  refine loop_rule (ι := Nat) (S := fun i => ⟨[(3, .ptr 0 0 0), (19, .fz (l.map k95.enc)), (20, .int .i64 l.length), (21, .int .i64 i)], [some wo0, some (wo1 l)]⟩) (m := fun i => l.length + 1 - i)
    (I := fun i => i ≤ l.length ∧ ((l.drop i).all fun x => !(targets x.f1).any fun b => !inL b l) = wholeB l) ?_ 0 _ ⟨by omega, by simp [wholeB]⟩ (by kernel_rfl)
  clear hi hlt
  rintro i ⟨hi, hg⟩
  by_cases hlt : i < l.length
  · have hx : l[i]? = some l[i] := List.getElem?_eq_getElem hlt
    have hn := hln l[i] (List.getElem_mem hlt)
    have hc := call131 l[i].f1 hn
    have hts := targets_le l[i].f1 hn
    simp only [k93_enc] at hc
    rw [all_drop hlt] at hg
    have hc2 := fun n hn rest => call130 (targets l[i].f1) l hts n hn rest
    cases k1 : ((targets l[i].f1).any fun b => !inL b l) with
    | true =>
      simp only [k1] at hc2
      simp only [go_sem, T_3, T_4, T_5, T_9, T_22, T_42, T_51, T_69, T_76, T_90, T_91, T_93, T_95, T_96, T_98, T_100, T_121, T_145, T_194, T_196, all95, hlt, hx, k95_enc, hc, hc2]
      rw [← hg, k1]
      rfl
    | false =>
      simp only [k1] at hc2
      simp only [go_sem, T_3, T_4, T_5, T_9, T_22, T_42, T_51, T_69, T_76, T_90, T_91, T_93, T_95, T_96, T_98, T_100, T_121, T_145, T_194, T_196, all95, hlt, hx, k95_enc, hc, hc2, wrap_i64s (show i < 1000000000000000000 by omega)]
      exact ⟨i + 1, ⟨by omega, by rw [k1] at hg; exact hg⟩, by simp only; omega, by kernel_rfl⟩
  · rw [List.drop_eq_nil_of_le (by omega)] at hg
    simp only [go_sem, T_3, T_4, T_5, T_9, T_22, T_42, T_51, T_69, T_76, T_90, T_91, T_93, T_95, T_96, T_98, T_100, T_121, T_145, T_194, T_196, hlt]
    rw [← hg]
    rfl
theorem call61 (l : List S95) (hl : fewL l) (hr : risesB l = true) (k : Nat) : callV (LX T fns) k (.clo 61 []) [.fz (l.map k95.enc)] = .pure (.bool (wholeB l), []) := callV_plain (fn := fn61) rfl rfl rfl (lim61 l hl hr) k
end Go.Proofs.Ytfdemnefkfkghaa.R
/- Chapter 33's law: are items right, whatever they say of depths? How deep is a block? -/
namespace Go.Proofs.Ytfdemnefkfkghaa.R
open Go Go.Proofs
set_option linter.unusedSimpArgs false
set_option linter.unusedVariables false
set_option maxRecDepth 10000
set_option maxHeartbeats 4000000

theorem few_with {n : S93} (f : Int → Int) (hn : fewN n) : fewN (withN f n) := by
  obtain ⟨h1, h2, h3, h4⟩ := hn
  exact ⟨h1, h2, by simp [withN]; exact h3, by simp [withN]; exact h4⟩
theorem wf_with {n : S93} {f : Int → Int} (hn : wfN n) (hf : ∀ b, 0 ≤ f b ∧ f b ≤ 65535) : wfN (withN f n) := by
  refine ⟨fun e he => ?_, fun m hm => ?_⟩
  · obtain ⟨x, _, rfl⟩ := List.mem_map.1 he
    exact hf x.f0
  · obtain ⟨x, hx, rfl⟩ := List.mem_map.1 hm
    unfold withM
    split
    · exact hf x.f3
    · exact hn.2 x hx
abbrev flat (n : S93) : S93 := withN (fun _ => 1) n
/-- Are blocks rising, and nodes right, whatever they say of depths? -/
def formedB : Option Int → List S95 → Bool
  | _, [] => true
  | none, x :: r => (mayN (flat x.f1) == 0) && formedB (some x.f0) r
  | some p, x :: r => (!decide (x.f0 ≤ p) && (mayN (flat x.f1) == 0)) && formedB (some x.f0) r

theorem lim60 (l : List S95) (hl : fewL l) (hw : wfL l) : lim T fns 60 [.fz (l.map k95.enc)] [] = some (.int .i64 (if formedB none l = true then 0 else 3), []) := by
  obtain ⟨hl1, hln⟩ := hl
  refine fn_rule (fn := fn60) rfl rfl (by simp [fn60]) ?_
  unfold fn60
  simp only [Try.f60, Option.getD_some, argEnv, List.map_nil, List.length_nil]
  simp only [go_sem, T_3, T_4, T_5, T_9, T_22, T_25, T_42, T_51, T_69, T_90, T_91, T_93, T_95, T_96, T_98, T_100, T_109, T_121, T_145]
  refine loop_rule (ι := Nat) (S := fun i => ⟨[(0, .fz (l.map k95.enc)), (6, .fz (l.map k95.enc)), (7, .int .i64 l.length), (8, .int .i64 i)], []⟩) (m := fun i => l.length + 1 - i)
    (I := fun i => i ≤ l.length ∧ formedB (if i = 0 then none else l[i - 1]?.map (·.f0)) (l.drop i) = formedB none l) ?_ 0 _ ⟨by omega, by simp⟩ rfl
  rintro i ⟨hi, hg⟩
  by_cases hlt : i < l.length
  · have hx : l[i]? = some l[i] := List.getElem?_eq_getElem hlt
    have hn := hln l[i] (List.getElem_mem hlt)
    have hwn := hw l[i] (List.getElem_mem hlt)
    have hc := call63a l[i].f1 hn
    have hc2 := call129 (flat l[i].f1) (few_with _ hn) (wf_with hwn fun _ => by omega)
    simp only [k93_enc] at hc hc2
    rw [List.drop_eq_getElem_cons hlt] at hg
    have hmm : ∀ a : Int, (a != 0) = !(a == 0) := fun a => rfl
    cases i with
    | zero =>
      have k1 : decide (((0 : Nat) : Int) > 0) = false := by simp
      simp only [if_true, formedB] at hg
      cases k2 : (mayN (flat l[0].f1) == 0) with
      | true =>
        rw [k2] at hg
        simp only [go_sem, T_3, T_4, T_5, T_9, T_22, T_25, T_42, T_51, T_69, T_90, T_91, T_93, T_95, T_96, T_98, T_100, T_109, T_121, T_145, all95, hlt, hx, k95_enc, hc, hc2, k1, hmm, k2, wrap_i64s (show 0 < 1000000000000000000 by omega)]
        exact ⟨1, ⟨by omega, by simpa [hx] using hg⟩, by simp only; omega, rfl⟩
      | false =>
        rw [k2] at hg
        simp only [go_sem, T_3, T_4, T_5, T_9, T_22, T_25, T_42, T_51, T_69, T_90, T_91, T_93, T_95, T_96, T_98, T_100, T_109, T_121, T_145, all95, hlt, hx, k95_enc, hc, hc2, k1, hmm, k2]
        simp [← hg]
    | succ i =>
      have k1 : decide (((i + 1 : Nat) : Int) > 0) = true := decide_eq_true (by omega)
      have hy : l[i]? = some (l[i]'(by omega)) := List.getElem?_eq_getElem (by omega)
      simp only [Nat.add_one_ne_zero, if_false, Nat.add_sub_cancel, hy, Option.map_some, formedB] at hg
      cases k3 : decide (l[i + 1].f0 ≤ (l[i]'(by omega)).f0) with
      | true =>
        rw [k3] at hg
        simp only [go_sem, T_3, T_4, T_5, T_9, T_22, T_25, T_42, T_51, T_69, T_90, T_91, T_93, T_95, T_96, T_98, T_100, T_109, T_121, T_145, all95, hlt, hx, hy, k95_enc, hc, k1, k3, wrap_i64p (show i < 1000000000000000000 by omega)]
        simp [← hg]
      | false =>
        cases k2 : (mayN (flat l[i + 1].f1) == 0) with
        | true =>
          rw [k3, k2] at hg
          simp only [go_sem, T_3, T_4, T_5, T_9, T_22, T_25, T_42, T_51, T_69, T_90, T_91, T_93, T_95, T_96, T_98, T_100, T_109, T_121, T_145, all95, hlt, hx, hy, k95_enc, hc, hc2, k1, hmm, k2, k3, wrap_i64p (show i < 1000000000000000000 by omega), wrap_i64s (show i + 1 < 1000000000000000000 by omega)]
          exact ⟨i + 1 + 1, ⟨by omega, by simpa [hx] using hg⟩, by simp only; omega, rfl⟩
        | false =>
          rw [k3, k2] at hg
          simp only [go_sem, T_3, T_4, T_5, T_9, T_22, T_25, T_42, T_51, T_69, T_90, T_91, T_93, T_95, T_96, T_98, T_100, T_109, T_121, T_145, all95, hlt, hx, hy, k95_enc, hc, hc2, k1, hmm, k2, k3, wrap_i64p (show i < 1000000000000000000 by omega)]
          simp [← hg]
  · rw [List.drop_eq_nil_of_le (by omega)] at hg
    have hp : formedB none l = true := by
      rw [← hg]
      cases (if i = 0 then none else l[i - 1]?.map (·.f0)) <;> rfl
    rw [hp]
    simp only [go_sem, T_3, T_4, T_5, T_9, T_22, T_25, T_42, T_51, T_69, T_90, T_91, T_93, T_95, T_96, T_98, T_100, T_109, T_121, T_145, hlt]
theorem call60 (l : List S95) (hl : fewL l) (hw : wfL l) (k : Nat) : callV (LX T fns) k (.clo 60 []) [.fz (l.map k95.enc)] = .pure (.int .i64 (if formedB none l = true then 0 else 3), []) := callV_plain (fn := fn60) rfl rfl rfl (lim60 l hl hw) k

/-! How deep is a block? -/
theorem rch_unst {l : List S95} (hw : Whole l) {b : Int} (h : Rch l b b) : ¬ Stable l l.length := rch_unstable hw h _
open Classical in
noncomputable def limV (l : List S95) (b : Int) : Int := if h : ∃ d, Lim l b d then h.choose else 0
theorem limV_eq {l : List S95} {b d : Int} (h : Lim l b d) : limV l b = d := by
  unfold limV
  rw [dif_pos ⟨d, h⟩]
  exact lim_uniq (Exists.choose_spec (⟨d, h⟩ : ∃ d, Lim l b d)) h
theorem top_succ {α : Type} {f : α → Int} : ∀ {ts : List α} {d : Int}, top (fun t => f t + 1) (d + 1) ts = top f d ts + 1
  | [], d => rfl
  | t :: ts, d => by
    show top (fun t => f t + 1) (max (d + 1) (f t + 1)) ts = top f (max d (f t)) ts + 1
    rw [show max (d + 1) (f t + 1) = max d (f t) + 1 by omega]
    exact top_succ
theorem top_snoc {α : Type} {f : α → Int} {ts : List α} {d : Int} {t : α} : top f d (ts ++ [t]) = max (top f d ts) (f t) := by
  unfold top
  rw [List.foldl_append]
  rfl

/-- What is known so far is so: 0: from there a way leads here. -/
def Memo (l : List S95) (m : List (Int × Int)) (b : Int) : Prop := ∀ c e, getI c m = some e → (e = 0 ∧ Rch l c b) ∨ (Lim l c e ∧ e < 65535)
/-- More is known, nothing else has begun. -/
def Grew (l : List S95) (m m' : List (Int × Int)) : Prop :=
  (∀ c, getI c m = some 0 → getI c m' = some 0) ∧ (∀ c e, getI c m' = some e → (e = 0 ∧ getI c m = some 0) ∨ (Lim l c e ∧ e < 65535)) ∧ ∀ c, (getI c m).isSome = true → (getI c m').isSome = true
theorem grew_refl {l : List S95} {m : List (Int × Int)} {b : Int} (h : Memo l m b) : Grew l m m := ⟨fun _ h => h, fun c e hc => (h c e hc).imp (fun h => ⟨h.1, by rw [hc, h.1]⟩) id, fun _ h => h⟩
theorem grew_trans {l : List S95} {a b c : List (Int × Int)} (h : Grew l a b) (h' : Grew l b c) : Grew l a c :=
  ⟨fun x hx => h'.1 x (h.1 x hx), fun x e hx => (h'.2.1 x e hx).elim (fun ⟨e0, hb⟩ => (h.2.1 x 0 hb).elim (fun ⟨_, ha⟩ => .inl ⟨e0, ha⟩) (fun ⟨hl, _⟩ => absurd (lim_pos hl) (by omega))) .inr, fun x hx => h'.2.2 x (h.2.2 x hx)⟩
/-- How many blocks nothing is known of. -/
def unseen (l : List S95) (m : List (Int × Int)) : Nat := (l.filter fun x => (getI x.f0 m).isNone).length
theorem unseen_le {l : List S95} {m m' : List (Int × Int)} (h : ∀ c, (getI c m).isSome = true → (getI c m').isSome = true) : unseen l m' ≤ unseen l m := by
  unfold unseen
  induction l with
  | nil => exact Nat.le_refl _
  | cons x r ih =>
    simp only [List.filter_cons]
    cases h1 : getI x.f0 m' with
    | some e =>
      simp only [Option.isNone_some, Bool.false_eq_true, if_false]
      split
      · simp only [List.length_cons]; omega
      · exact ih
    | none =>
      cases h2 : getI x.f0 m with
      | some e =>
        have := h x.f0 (by rw [h2]; rfl)
        rw [h1] at this
        cases this
      | none =>
        simp only [Option.isNone_none, if_true, List.length_cons]
        omega
theorem unseen_lt {l : List S95} {m m' : List (Int × Int)} (h : ∀ c, (getI c m).isSome = true → (getI c m').isSome = true) {x : S95} (hx : x ∈ l) (h1 : getI x.f0 m = none) (h2 : (getI x.f0 m').isSome = true) : unseen l m' < unseen l m := by
  obtain ⟨a, b, rfl⟩ := List.append_of_mem hx
  have ha := unseen_le (l := a) h
  have hb := unseen_le (l := b) h
  unfold unseen at *
  simp only [List.filter_append, List.filter_cons, h1, Option.isNone_none, if_true, List.length_append, List.length_cons]
  have : (getI x.f0 m').isNone = false := by
    cases hg : getI x.f0 m' with
    | none => rw [hg] at h2; cases h2
    | some e => rfl
  simp only [this, Bool.false_eq_true, if_false]
  omega
theorem getI_snoc {b e : Int} : ∀ {m : List (Int × Int)} {c : Int}, getI b m = none → getI c (m ++ [(b, e)]) = if c = b then some e else getI c m
  | [], c, _ => by
    simp only [List.nil_append, getI]
    by_cases h : c = b
    · subst h; simp
    · rw [if_neg h, if_neg (fun e => h e.symm)]
  | p :: r, c, h => by
    unfold getI at h
    split at h
    · cases h
    · rename_i hp
      simp only [List.cons_append, getI, getI_snoc h]
      by_cases hc : p.1 = c
      · subst hc
        rw [if_pos rfl, if_pos rfl, if_neg hp]
      · rw [if_neg hc, if_neg hc]
def setI (b e : Int) : List (Int × Int) → List (Int × Int)
  | [] => [(b, e)]
  | p :: r => if p.1 = b then (b, e) :: r else p :: setI b e r
theorem setKeyI {b e : Int} : ∀ {m : List (Int × Int)}, setKey (.int .u32 b) (.int .i64 e) (m.map encI) = some ((setI b e m).map encI)
  | [] => rfl
  | p :: r => by
    simp only [List.map_cons, encI, setKey, eqCell, if_true, setI]
    by_cases h : p.1 = b
    · subst h
      simp [encI]
    · have h1 : (b == p.1) = false := by
        simp only [beq_eq_false_iff_ne]
        exact fun e => h e.symm
      simp only [h1, if_neg h]
      have := setKeyI (b := b) (e := e) (m := r)
      simp only [this, Option.map_some, List.map_cons, encI]
theorem getI_set {b e c : Int} : ∀ {m : List (Int × Int)}, getI c (setI b e m) = if c = b then some e else getI c m
  | [] => by
    simp only [setI, getI]
    by_cases h : c = b
    · subst h; simp
    · rw [if_neg h, if_neg (fun e => h e.symm)]
  | p :: r => by
    unfold setI
    split
    · rename_i hp
      simp only [getI]
      by_cases h : c = b
      · subst h; simp
      · rw [if_neg (fun e => h e.symm), if_neg h, if_neg (fun e => h (by rw [← e]; exact hp))]
    · rename_i hp
      simp only [getI, getI_set]
      by_cases hc : p.1 = c
      · subst hc
        rw [if_pos rfl, if_pos rfl, if_neg hp]
      · rw [if_neg hc, if_neg hc]
theorem find_encL {b : Int} : ∀ {l : List S95}, findKey (.int .u32 b) (l.map encL) = some ((find b l).map fun n => V.agg (k93.enc n))
  | [] => rfl
  | x :: r => by
    simp only [List.map_cons, encL, findKey, eqCell, if_true, find]
    by_cases h : x.f0 = b
    · subst h
      simp
    · have e : (b == x.f0) = false := by
        simp only [beq_eq_false_iff_ne]
        exact fun e => h e.symm
      simp only [e, if_neg h]
      exact find_encL

/-- A finder. -/
def ff (lost : Bool) : Ob := .buf 3 [[.map 1, .map 2, .bool lost]] false false
theorem call62 {l : List S95} {m m' : List (Int × Int)} {b d : Int} {lost : Bool} (h : lim T fns 62 [.ptr 0 0 0, .int .u32 b] [ff false, fo2 l, fo3 m] = some (.int .i64 d, [some (ff lost), some (fo2 l), some (fo3 m')])) (n : Nat) (hn : 3 ≤ n) (rest : Heap) :
    (callV (LX T fns) n (.clo 62 []) [.ptr 0 0 0, .int .u32 b]).run (some (ff false) :: some (fo2 l) :: some (fo3 m) :: rest) [] = some ((.int .i64 d, [(0, some (ff lost)), (1, some (fo2 l)), (2, some (fo3 m'))]), [2, 1, 0]) := by
  simp only [ff, fo2, fo3] at h ⊢
  have hf : fns 62 = some fn62 := rfl
  unfold callV
  simp only [hf]
  unfold callR
  simp only [fn62, List.cons_append, List.nil_append, List.append_nil, frzArgs, frz, frzAll, frzG, frzGAll, ms2, msUp, List.tail]
  simp only [V.allIds, V.ids, List.append_nil, List.nil_append, collect, List.map_nil, List.contains_nil, Bool.false_eq_true, if_false, Rd.run, Heap.at?, Ob.ids, rowsIds, List.map_cons, List.cons_append, List.contains_cons, Nat.reduceBEq, Bool.or_self, Bool.or_false, Bool.false_or, Bool.or_true, Bool.true_or, if_true]
  unfold withR
  simp only [List.map_cons, List.map_nil, upd1, List.all_nil, List.all_cons, show 0 < n by omega, show 1 < n by omega, show 2 < n by omega, decide_true, Bool.and_self, if_true, V.reAll, V.re, idx, Nat.beq, cond_true, cond_false, Option.bind_some, Option.map_some, pullObs, Ob.re, reRows, Nat.reduceAdd, h, List.length_cons, List.length_nil, Nat.le_refl]
  unfold afterR
  simp only [V.re, V.reAll, pushObs, back, nth, Ob.re, reRows, Option.bind_some, Option.map_some, List.isEmpty_cons, Bool.false_and, Bool.false_eq_true, if_false, Rd.run, List.append_nil, Nat.reduceAdd]

theorem lim62_seen (l : List S95) (m : List (Int × Int)) (b e : Int) (hg : getI b m = some e) : lim T fns 62 [.ptr 0 0 0, .int .u32 b] [ff false, fo2 l, fo3 m] = some (.int .i64 e, [some (ff (e == 0)), some (fo2 l), some (fo3 m)]) := by
  have hk : ∀ b, isKey T 42 (.int .u32 b) = true := fun b => rfl
  refine fn_rule (fn := fn62) rfl rfl (by simp [fn62]) ?_
  unfold fn62
  simp only [Try.f62, Option.getD_some, argEnv, List.map_nil, List.length_nil]
  simp only [go_sem, T_3, T_4, T_5, T_9, T_42, T_51, T_69, T_76, T_90, T_91, T_93, T_96, T_98, T_100, T_102, T_103, T_104, T_106, T_121, T_145, ff, fo2, fo3, List.map_cons, nilCheckR, lookupR, hk, find_encI, hg, giveR]
  show _ = _
  kernel_rfl

theorem lim62 (l : List S95) (hl : fewL l) (hr : risesB l = true) (hw : Whole l) (h30 : l.length ≤ 30) : ∀ (k : Nat) (b : Int) (m : List (Int × Int)), (∃ x ∈ l, x.f0 = b) → unseen l m ≤ k → Memo l m b →
    ∃ d m' lost, lim T fns 62 [.ptr 0 0 0, .int .u32 b] [ff false, fo2 l, fo3 m] = some (.int .i64 d, [some (ff lost), some (fo2 l), some (fo3 m')]) ∧
      ((lost = false ∧ Lim l b d ∧ d < 65535 ∧ Grew l m m' ∧ getI b m' = some d) ∨ (lost = true ∧ ¬ Stable l l.length)) := by
  have hk : ∀ b, isKey T 42 (.int .u32 b) = true := fun b => rfl
  have hf4 : ∀ b, fits ⟨.int .i64, 1, 8, .int .i64 0⟩ (.int .i64 b) = true := fun b => rfl
  intro k
  induction k with
  | zero =>
    rintro b m ⟨x, hx, rfl⟩ hu hm
    cases hg : getI x.f0 m with
    | none =>
      have : 0 < unseen l m := List.length_pos_iff.2 (List.ne_nil_of_mem (List.mem_filter.2 ⟨hx, by rw [hg]; rfl⟩))
      omega
    | some e =>
      refine ⟨e, m, e == 0, lim62_seen l m x.f0 e hg, ?_⟩
      rcases hm _ _ hg with ⟨rfl, hc⟩ | ⟨hlm, h6⟩
      · exact .inr ⟨rfl, rch_unst hw hc⟩
      · have := lim_pos hlm
        exact .inl ⟨by simp; omega, hlm, h6, grew_refl hm, hg⟩
  | succ k ih =>
    rintro b m ⟨x, hx, rfl⟩ hu hm
    cases hg : getI x.f0 m with
    | some e =>
      refine ⟨e, m, e == 0, lim62_seen l m x.f0 e hg, ?_⟩
      rcases hm _ _ hg with ⟨rfl, hc⟩ | ⟨hlm, h6⟩
      · exact .inr ⟨rfl, rch_unst hw hc⟩
      · have := lim_pos hlm
        exact .inl ⟨by simp; omega, hlm, h6, grew_refl hm, hg⟩
    | none =>
      have hfs := find_self hr x hx
      have hsu := succs_self hr hx
      have hct := call131 x.f1 (hl.2 x hx)
      have hts := targets_le x.f1 (hl.2 x hx)
      simp only [k93_enc] at hct
      -- what is known while it is looked for
      have hm1 : ∀ c, getI c (setI x.f0 0 m) = if c = x.f0 then some 0 else getI c m := fun c => getI_set
      have hu1 : unseen l (setI x.f0 0 m) < unseen l m := unseen_lt (fun c hc => by rw [hm1]; split <;> simp_all) hx hg (by rw [hm1, if_pos rfl]; rfl)
      generalize htt : targets x.f1 = ts at hct hts hsu
      -- what the loop comes to
      have hex : ∃ r, lim T fns 62 [.ptr 0 0 0, .int .u32 x.f0] [ff false, fo2 l, fo3 m] = some r ∧ ∃ d m' lost, r = (.int .i64 d, [some (ff lost), some (fo2 l), some (fo3 m')]) ∧
          ((lost = false ∧ Lim l x.f0 d ∧ d < 65535 ∧ Grew l m m' ∧ getI x.f0 m' = some d) ∨ (lost = true ∧ ¬ Stable l l.length)) := by
        refine fn_rule_ex (fn := fn62) rfl rfl (by simp [fn62]) ?_
        unfold fn62
        simp only [Try.f62, Option.getD_some, argEnv, List.map_nil, List.length_nil]
        simp only [go_sem, T_3, T_4, T_5, T_9, T_42, T_51, T_69, T_76, T_90, T_91, T_93, T_96, T_98, T_100, T_102, T_103, T_104, T_106, T_121, T_145, ff, fo2, fo3, List.map_cons, nilCheckR, lookupR, mapUpdateR, hk, hf4, find_encI, find_encL, hg, hfs, giveR, setKeyI, Option.map_none, k93_enc, hct]
        refine loop_rule (ι := Nat × Int × List (Int × Int)) (S := fun p => ⟨[(0, .ptr 0 0 0), (1, .int .u32 x.f0), (7, .int .i64 p.2.1), (43, .fz (ts.map (Cd.int .u32).enc)), (44, .int .i64 ts.length), (45, .int .i64 p.1)], [some (ff false), some (fo2 l), some (fo3 p.2.2)]⟩)
          (m := fun p => ts.length + 1 - p.1) (I := fun p => p.1 ≤ ts.length ∧ (∀ t ∈ ts.take p.1, Lim l t (limV l t)) ∧ p.2.1 = top (limV l) 0 (ts.take p.1) ∧ 0 ≤ p.2.1 ∧ p.2.1 < 65535 ∧ getI x.f0 p.2.2 = some 0 ∧ Grew l (setI x.f0 0 m) p.2.2)
          ?_ (0, 0, setI x.f0 0 m) _ ⟨by simp, by simp, by simp [top], by simp, by simp, by rw [hm1, if_pos rfl], ?_⟩ (by kernel_rfl)
        · rintro ⟨i, most, mi⟩ ⟨hi, hlt, hmo, h0, h6, hb0, hgr⟩
          simp only at hi hlt hmo h0 h6 hb0 hgr
          by_cases hit : i < ts.length
          · have ht : ts[i]? = some ts[i] := List.getElem?_eq_getElem hit
            have hts2 : ts[i] ∈ succs l x.f0 := by rw [hsu]; exact List.getElem_mem hit
            have hus : unseen l mi ≤ k := by
              have := unseen_le (l := l) hgr.2.2
              omega
            obtain ⟨d, m', lost, hcall, hpost⟩ := ih ts[i] mi (succs_in hw hts2) hus (fun c e hc => by
              rcases hgr.2.1 c e hc with ⟨rfl, h1⟩ | h1
              · left
                refine ⟨rfl, ?_⟩
                rw [hm1] at h1
                by_cases hcx : c = x.f0
                · subst hcx
                  exact .one hts2
                · rw [if_neg hcx] at h1
                  rcases hm _ _ h1 with ⟨_, h2⟩ | ⟨h2, _⟩
                  · exact .more h2 hts2
                  · exact absurd (lim_pos h2) (by omega)
              · exact .inr h1)
            have hc := call62 hcall
            simp only [ff, fo2, fo3] at hc
            rcases hpost with ⟨rfl, hd, hd6, hg2, hgd⟩ | ⟨rfl, hun⟩
            · simp only [go_sem, T_3, T_4, T_5, T_9, T_42, T_51, T_69, T_76, T_90, T_91, T_93, T_96, T_98, T_100, T_102, T_103, T_104, T_106, T_121, T_145, ff, fo2, fo3, hit, ht, nilCheckR, hc, Nat.reduceLeDiff, wrap_i64s (show i < 1000000000000000000 by omega)]
              refine ⟨(i + 1, (if d > most then d else most), m'), ⟨by simp only; omega, ?_, ?_, ?_, ?_, hg2.1 _ hb0, grew_trans hgr hg2⟩, by simp only; omega, by kernel_rfl⟩
              · intro t ht
                simp only [List.take_succ_eq_append_getElem hit, List.mem_append, List.mem_singleton] at ht
                rcases ht with ht | rfl
                · exact hlt t ht
                · rw [limV_eq hd]
                  exact hd
              · simp only [List.take_succ_eq_append_getElem hit, top_snoc, ← hmo, limV_eq hd]
                split <;> omega
              · simp only
                split <;> omega
              · simp only
                split <;> omega
            · simp only [go_sem, T_3, T_4, T_5, T_9, T_42, T_51, T_69, T_76, T_90, T_91, T_93, T_96, T_98, T_100, T_102, T_103, T_104, T_106, T_121, T_145, ff, fo2, fo3, hit, ht, nilCheckR, hc, Nat.reduceLeDiff]
              exact ⟨(.int .i64 0, [some (ff true), some (fo2 l), some (fo3 m')]), by kernel_rfl, 0, m', true, rfl, .inr ⟨rfl, hun⟩⟩
          · obtain rfl : i = ts.length := by omega
            rw [List.take_of_length_le (Nat.le_refl _)] at hlt hmo
            have hlm : Lim l x.f0 (most + 1) := by
              have := lim_step (b := x.f0) (g := limV l) (by rw [hsu]; exact hlt)
              rw [hsu] at this
              have e : top (fun t => limV l t + 1) 1 ts = top (limV l) 0 ts + 1 := top_succ (f := limV l) (ts := ts) (d := 0)
              rw [hmo, ← e]
              exact this
            have hw1 : IntKind.i64.wrap (most + 1) = most + 1 := wrap_i64 (by omega) (by omega)
            have hgr2 : Grew l m (setI x.f0 (most + 1) mi) ∨ 65535 ≤ most + 1 := by
              by_cases h7 : 65535 ≤ most + 1
              · exact .inr h7
              left
              refine ⟨fun c hc => ?_, fun c e hc => ?_, fun c hc => ?_⟩
              · rw [getI_set]
                by_cases hcx : c = x.f0
                · subst hcx; rw [hg] at hc; cases hc
                · rw [if_neg hcx]
                  exact hgr.1 c (by rw [hm1, if_neg hcx]; exact hc)
              · rw [getI_set] at hc
                by_cases hcx : c = x.f0
                · subst hcx
                  rw [if_pos rfl] at hc
                  cases hc
                  exact .inr ⟨hlm, by omega⟩
                · rw [if_neg hcx] at hc
                  rcases hgr.2.1 c e hc with ⟨he, h1⟩ | h1
                  · rw [hm1, if_neg hcx] at h1
                    exact .inl ⟨he, h1⟩
                  · exact .inr h1
              · rw [getI_set]
                split
                · rfl
                · rename_i hcx
                  exact hgr.2.2 c (by rw [hm1, if_neg hcx]; exact hc)
            simp only [go_sem, T_3, T_4, T_5, T_9, T_42, T_51, T_69, T_76, T_90, T_91, T_93, T_96, T_98, T_100, T_102, T_103, T_104, T_106, T_121, T_145, ff, fo2, fo3, hit, nilCheckR, mapUpdateR, hk, hf4, setKeyI, hw1]
            refine ⟨(.int .i64 (most + 1), [some (ff (decide (most + 1 ≥ 65535))), some (fo2 l), some (fo3 (setI x.f0 (most + 1) mi))]), by kernel_rfl, most + 1, _, _, rfl, ?_⟩
            rcases hgr2 with h7 | h7
            · by_cases h8 : most + 1 ≥ 65535
              · right
                refine ⟨decide_eq_true h8, fun hs => ?_⟩
                have := lim_le hr hw (fun y hy => ⟨_, lim_of_stable hw hs hy⟩) hx hlm
                omega
              · exact .inl ⟨decide_eq_false h8, hlm, by omega, h7, by rw [getI_set, if_pos rfl]⟩
            · right
              refine ⟨decide_eq_true h7, fun hs => ?_⟩
              have := lim_le hr hw (fun y hy => ⟨_, lim_of_stable hw hs hy⟩) hx hlm
              omega
        · refine ⟨fun c hc => hc, fun c e hc => ?_, fun c hc => hc⟩
          rw [hm1] at hc ⊢
          by_cases hcx : c = x.f0
          · rw [if_pos hcx] at hc ⊢
            cases hc
            exact .inl ⟨rfl, rfl⟩
          · rw [if_neg hcx] at hc ⊢
            rcases hm c e hc with ⟨he, _⟩ | h1
            · exact .inl ⟨he, by rw [hc, he]⟩
            · exact .inr h1
      obtain ⟨r, h1, d, m', lost, rfl, h2⟩ := hex
      exact ⟨d, m', lost, h1, h2⟩
end Go.Proofs.Ytfdemnefkfkghaa.R
/- Chapter 33's law: is a graph right? -/
namespace Go.Proofs.Ytfdemnefkfkghaa.R
open Go Go.Proofs
set_option linter.unusedSimpArgs false
set_option linter.unusedVariables false
set_option maxRecDepth 10000
set_option maxHeartbeats 4000000

def msgR (L : List S95) (m : S121) : Bool := !((m.f0 == 3) && !leads L m.f3 m.f4)
def nodeR (L : List S95) (n : S93) : Bool := (n.f3.all fun e => leads L e.f0 e.f1) && n.f4.all (msgR L)
def rightB (L : List S95) : Option Int → List S95 → Bool
  | _, [] => true
  | none, x :: r => (mayN x.f1 == 0) && (nodeR L x.f1 && rightB L (some x.f0) r)
  | some p, x :: r => !decide (x.f0 ≤ p) && ((mayN x.f1 == 0) && (nodeR L x.f1 && rightB L (some x.f0) r))

theorem lim19 (l : List S95) (hl : fewL l) (hw : wfL l) : lim T fns 19 [.fz (l.map k95.enc)] [] = some (.bool (rightB l none l), []) := by
  obtain ⟨hl1, hln⟩ := hl
  have hmm : ∀ a : Int, (a != 0) = !(a == 0) := fun a => rfl
  refine fn_rule (fn := fn19) rfl rfl (by simp [fn19]) ?_
  unfold fn19
  simp only [Try.f19, Option.getD_some, argEnv, List.map_nil, List.length_nil]
  simp only [go_sem, T_3, T_4, T_5, T_9, T_22, T_42, T_51, T_69, T_90, T_91, T_93, T_95, T_96, T_98, T_100, T_121, T_145]
  refine loop_rule (ι := Nat) (S := fun i => ⟨[(0, .fz (l.map k95.enc)), (8, .int .i64 l.length), (9, .int .i64 i)], []⟩) (m := fun i => l.length + 1 - i)
    (I := fun i => i ≤ l.length ∧ rightB l (if i = 0 then none else l[i - 1]?.map (·.f0)) (l.drop i) = rightB l none l) ?_ 0 _ ⟨by omega, by simp⟩ rfl
  rintro i ⟨hi, hg⟩
  by_cases hlt : i < l.length
  · have hx : l[i]? = some l[i] := List.getElem?_eq_getElem hlt
    have hn := hln l[i] (List.getElem_mem hlt)
    have hc2 := call65 l[i].f1 hn
    rw [List.drop_eq_getElem_cons hlt] at hg
    have hnext : (l[i + 1 - 1]?.map (·.f0)) = some l[i].f0 := by simp [hx]
    generalize l[i] = x at hx hn hc2 hg hnext
    simp only [k93_enc] at hc2
    by_cases h0 : i = 0
    · have k1 : decide ((i : Int) > 0) = false := decide_eq_false (by omega)
      rw [if_pos h0] at hg
      simp only [rightB] at hg
      cases k2 : (mayN x.f1 == 0) with
      | false =>
        rw [k2] at hg
        simp only [go_sem, T_3, T_4, T_5, T_9, T_22, T_42, T_51, T_69, T_90, T_91, T_93, T_95, T_96, T_98, T_100, T_121, T_145, all95, hlt, hx, k95_enc, hc2, k1, hmm, k2]
        simp [← hg]
      | true =>
        rw [k2, Bool.true_and] at hg
        simp only [go_sem, T_3, T_4, T_5, T_9, T_22, T_42, T_51, T_69, T_90, T_91, T_93, T_95, T_96, T_98, T_100, T_121, T_145, all95, hlt, hx, k95_enc, hc2, k1, hmm, k2]
        refine loop_rule (ι := Nat) (S := fun k => ⟨[(0, .fz (l.map k95.enc)), (4, .ptr 0 0 0), (8, .int .i64 l.length), (9, .int .i64 i), (40, .int .i64 x.f1.f3.length), (41, .int .i64 k)], [some (.buf 5 [[.bool x.f1.f0, .fz (x.f1.f1.map k145.enc), .fz (x.f1.f2.map Cd.str.enc), .fz (x.f1.f3.map k100.enc), .fz (x.f1.f4.map k121.enc)]] false true)]⟩) (m := fun k => x.f1.f3.length + 1 - k)
          (I := fun k => k ≤ x.f1.f3.length ∧ ((x.f1.f3.drop k).all fun e => leads l e.f0 e.f1) = x.f1.f3.all fun e => leads l e.f0 e.f1) ?_ 0 _ ⟨by omega, by simp⟩ rfl
        rintro k ⟨hk, hq⟩
        have hn3 := hn.2.2.1
        have hn4 := hn.2.2.2
        by_cases hkt : k < x.f1.f3.length
        · have hz : x.f1.f3[k]? = some x.f1.f3[k] := List.getElem?_eq_getElem hkt
          have hc3 := call71 l x.f1.f3[k].f0 x.f1.f3[k].f1 ⟨hl1, hln⟩ hw
          rw [all_drop hkt] at hq
          cases k4 : leads l x.f1.f3[k].f0 x.f1.f3[k].f1 with
          | false =>
            rw [k4] at hc3 hq
            simp only [go_sem, T_3, T_4, T_5, T_9, T_22, T_42, T_51, T_69, T_90, T_91, T_93, T_95, T_96, T_98, T_100, T_121, T_145, all100, hkt, hz, k100_enc, hc3]
            have : nodeR l x.f1 = false := by
              unfold nodeR
              rw [← hq]
              rfl
            rw [this] at hg
            rw [← hg]
            rfl
          | true =>
            rw [k4] at hc3 hq
            simp only [go_sem, T_3, T_4, T_5, T_9, T_22, T_42, T_51, T_69, T_90, T_91, T_93, T_95, T_96, T_98, T_100, T_121, T_145, all100, hkt, hz, k100_enc, hc3, wrap_i64s (show k < 1000000000000000000 by omega)]
            exact ⟨k + 1, ⟨by omega, hq⟩, by simp only; omega, rfl⟩
        rw [List.drop_eq_nil_of_le (by omega)] at hq
        simp only [go_sem, T_3, T_4, T_5, T_9, T_22, T_42, T_51, T_69, T_90, T_91, T_93, T_95, T_96, T_98, T_100, T_121, T_145, hkt]
        refine loop_rule (ι := Nat) (S := fun k => ⟨[(0, .fz (l.map k95.enc)), (4, .ptr 0 0 0), (8, .int .i64 l.length), (9, .int .i64 i), (62, .int .i64 x.f1.f4.length), (63, .int .i64 k)], [some (.buf 5 [[.bool x.f1.f0, .fz (x.f1.f1.map k145.enc), .fz (x.f1.f2.map Cd.str.enc), .fz (x.f1.f3.map k100.enc), .fz (x.f1.f4.map k121.enc)]] false true)]⟩) (m := fun k => x.f1.f4.length + 1 - k)
          (I := fun k => k ≤ x.f1.f4.length ∧ (x.f1.f4.drop k).all (msgR l) = x.f1.f4.all (msgR l)) ?_ 0 _ ⟨by omega, by simp⟩ rfl
        clear hk hkt
        rintro k ⟨hk, hr⟩
        by_cases hkt : k < x.f1.f4.length
        · have hz : x.f1.f4[k]? = some x.f1.f4[k] := List.getElem?_eq_getElem hkt
          have hc3 := call71 l x.f1.f4[k].f3 x.f1.f4[k].f4 ⟨hl1, hln⟩ hw
          have hm : msgR l x.f1.f4[k] = !((x.f1.f4[k].f0 == 3) && !leads l x.f1.f4[k].f3 x.f1.f4[k].f4) := rfl
          rw [all_drop hkt] at hr
          cases k5 : (x.f1.f4[k].f0 == 3) with
          | false =>
            rw [hm, k5] at hr
            simp only [go_sem, T_3, T_4, T_5, T_9, T_22, T_42, T_51, T_69, T_90, T_91, T_93, T_95, T_96, T_98, T_100, T_121, T_145, all121, hkt, hz, k121_enc, k5, wrap_i64s (show k < 1000000000000000000 by omega)]
            exact ⟨k + 1, ⟨by omega, hr⟩, by simp only; omega, rfl⟩
          | true =>
            cases k4 : leads l x.f1.f4[k].f3 x.f1.f4[k].f4 with
            | false =>
              rw [hm, k5, k4] at hr
              rw [k4] at hc3
              simp only [go_sem, T_3, T_4, T_5, T_9, T_22, T_42, T_51, T_69, T_90, T_91, T_93, T_95, T_96, T_98, T_100, T_121, T_145, all121, hkt, hz, k121_enc, k5, hc3]
              have : nodeR l x.f1 = false := by
                unfold nodeR
                rw [← hr, Bool.and_eq_false_iff]
                exact .inr rfl
              rw [this] at hg
              rw [← hg]
              rfl
            | true =>
              rw [hm, k5, k4] at hr
              rw [k4] at hc3
              simp only [go_sem, T_3, T_4, T_5, T_9, T_22, T_42, T_51, T_69, T_90, T_91, T_93, T_95, T_96, T_98, T_100, T_121, T_145, all121, hkt, hz, k121_enc, k5, hc3, wrap_i64s (show k < 1000000000000000000 by omega)]
              exact ⟨k + 1, ⟨by omega, hr⟩, by simp only; omega, rfl⟩
        rw [List.drop_eq_nil_of_le (by omega)] at hr
        have hnr : nodeR l x.f1 = true := by
          unfold nodeR
          rw [← hq, ← hr]
          rfl
        rw [hnr, Bool.true_and] at hg
        simp only [go_sem, T_3, T_4, T_5, T_9, T_22, T_42, T_51, T_69, T_90, T_91, T_93, T_95, T_96, T_98, T_100, T_121, T_145, hkt, wrap_i64s (show i < 1000000000000000000 by omega)]
        exact ⟨i + 1, ⟨by omega, by rw [if_neg (by omega), hnext]; exact hg⟩, by simp only; omega, rfl⟩
    · have k1 : decide ((i : Int) > 0) = true := decide_eq_true (by omega)
      have hy : l[i - 1]? = some (l[i - 1]'(by omega)) := List.getElem?_eq_getElem (by omega)
      have wp : IntKind.i64.wrap ((i : Int) - 1) = ((i - 1 : Nat) : Int) := by
        rw [wrap_i64 (by omega) (by omega)]
        omega
      rw [if_neg h0, hy, Option.map_some] at hg
      simp only [rightB] at hg
      cases k3 : decide (x.f0 ≤ (l[i - 1]'(by omega)).f0) with
      | true =>
        rw [k3] at hg
        simp only [go_sem, T_3, T_4, T_5, T_9, T_22, T_42, T_51, T_69, T_90, T_91, T_93, T_95, T_96, T_98, T_100, T_121, T_145, all95, hlt, hx, hy, k95_enc, k1, k3, wp]
        simp [← hg]
      | false =>
        rw [k3] at hg
        cases k2 : (mayN x.f1 == 0) with
        | false =>
          rw [k2] at hg
          simp only [go_sem, T_3, T_4, T_5, T_9, T_22, T_42, T_51, T_69, T_90, T_91, T_93, T_95, T_96, T_98, T_100, T_121, T_145, all95, hlt, hx, hy, k95_enc, hc2, k1, hmm, k2, k3, wp]
          simp [← hg]
        | true =>
          rw [k2, Bool.true_and, Bool.not_false, Bool.true_and] at hg
          simp only [go_sem, T_3, T_4, T_5, T_9, T_22, T_42, T_51, T_69, T_90, T_91, T_93, T_95, T_96, T_98, T_100, T_121, T_145, all95, hlt, hx, hy, k95_enc, hc2, k1, hmm, k2, k3, wp]
          refine loop_rule (ι := Nat) (S := fun k => ⟨[(0, .fz (l.map k95.enc)), (4, .ptr 0 0 0), (8, .int .i64 l.length), (9, .int .i64 i), (40, .int .i64 x.f1.f3.length), (41, .int .i64 k)], [some (.buf 5 [[.bool x.f1.f0, .fz (x.f1.f1.map k145.enc), .fz (x.f1.f2.map Cd.str.enc), .fz (x.f1.f3.map k100.enc), .fz (x.f1.f4.map k121.enc)]] false true)]⟩) (m := fun k => x.f1.f3.length + 1 - k)
            (I := fun k => k ≤ x.f1.f3.length ∧ ((x.f1.f3.drop k).all fun e => leads l e.f0 e.f1) = x.f1.f3.all fun e => leads l e.f0 e.f1) ?_ 0 _ ⟨by omega, by simp⟩ rfl
          rintro k ⟨hk, hq⟩
          have hn3 := hn.2.2.1
          have hn4 := hn.2.2.2
          by_cases hkt : k < x.f1.f3.length
          · have hz : x.f1.f3[k]? = some x.f1.f3[k] := List.getElem?_eq_getElem hkt
            have hc3 := call71 l x.f1.f3[k].f0 x.f1.f3[k].f1 ⟨hl1, hln⟩ hw
            rw [all_drop hkt] at hq
            cases k4 : leads l x.f1.f3[k].f0 x.f1.f3[k].f1 with
            | false =>
              rw [k4] at hc3 hq
              simp only [go_sem, T_3, T_4, T_5, T_9, T_22, T_42, T_51, T_69, T_90, T_91, T_93, T_95, T_96, T_98, T_100, T_121, T_145, all100, hkt, hz, k100_enc, hc3]
              have : nodeR l x.f1 = false := by
                unfold nodeR
                rw [← hq]
                rfl
              rw [this] at hg
              rw [← hg]
              rfl
            | true =>
              rw [k4] at hc3 hq
              simp only [go_sem, T_3, T_4, T_5, T_9, T_22, T_42, T_51, T_69, T_90, T_91, T_93, T_95, T_96, T_98, T_100, T_121, T_145, all100, hkt, hz, k100_enc, hc3, wrap_i64s (show k < 1000000000000000000 by omega)]
              exact ⟨k + 1, ⟨by omega, hq⟩, by simp only; omega, rfl⟩
          rw [List.drop_eq_nil_of_le (by omega)] at hq
          simp only [go_sem, T_3, T_4, T_5, T_9, T_22, T_42, T_51, T_69, T_90, T_91, T_93, T_95, T_96, T_98, T_100, T_121, T_145, hkt]
          refine loop_rule (ι := Nat) (S := fun k => ⟨[(0, .fz (l.map k95.enc)), (4, .ptr 0 0 0), (8, .int .i64 l.length), (9, .int .i64 i), (62, .int .i64 x.f1.f4.length), (63, .int .i64 k)], [some (.buf 5 [[.bool x.f1.f0, .fz (x.f1.f1.map k145.enc), .fz (x.f1.f2.map Cd.str.enc), .fz (x.f1.f3.map k100.enc), .fz (x.f1.f4.map k121.enc)]] false true)]⟩) (m := fun k => x.f1.f4.length + 1 - k)
            (I := fun k => k ≤ x.f1.f4.length ∧ (x.f1.f4.drop k).all (msgR l) = x.f1.f4.all (msgR l)) ?_ 0 _ ⟨by omega, by simp⟩ rfl
          clear hk hkt
          rintro k ⟨hk, hr⟩
          by_cases hkt : k < x.f1.f4.length
          · have hz : x.f1.f4[k]? = some x.f1.f4[k] := List.getElem?_eq_getElem hkt
            have hc3 := call71 l x.f1.f4[k].f3 x.f1.f4[k].f4 ⟨hl1, hln⟩ hw
            have hm : msgR l x.f1.f4[k] = !((x.f1.f4[k].f0 == 3) && !leads l x.f1.f4[k].f3 x.f1.f4[k].f4) := rfl
            rw [all_drop hkt] at hr
            cases k5 : (x.f1.f4[k].f0 == 3) with
            | false =>
              rw [hm, k5] at hr
              simp only [go_sem, T_3, T_4, T_5, T_9, T_22, T_42, T_51, T_69, T_90, T_91, T_93, T_95, T_96, T_98, T_100, T_121, T_145, all121, hkt, hz, k121_enc, k5, wrap_i64s (show k < 1000000000000000000 by omega)]
              exact ⟨k + 1, ⟨by omega, hr⟩, by simp only; omega, rfl⟩
            | true =>
              cases k4 : leads l x.f1.f4[k].f3 x.f1.f4[k].f4 with
              | false =>
                rw [hm, k5, k4] at hr
                rw [k4] at hc3
                simp only [go_sem, T_3, T_4, T_5, T_9, T_22, T_42, T_51, T_69, T_90, T_91, T_93, T_95, T_96, T_98, T_100, T_121, T_145, all121, hkt, hz, k121_enc, k5, hc3]
                have : nodeR l x.f1 = false := by
                  unfold nodeR
                  rw [← hr, Bool.and_eq_false_iff]
                  exact .inr rfl
                rw [this] at hg
                rw [← hg]
                rfl
              | true =>
                rw [hm, k5, k4] at hr
                rw [k4] at hc3
                simp only [go_sem, T_3, T_4, T_5, T_9, T_22, T_42, T_51, T_69, T_90, T_91, T_93, T_95, T_96, T_98, T_100, T_121, T_145, all121, hkt, hz, k121_enc, k5, hc3, wrap_i64s (show k < 1000000000000000000 by omega)]
                exact ⟨k + 1, ⟨by omega, hr⟩, by simp only; omega, rfl⟩
          rw [List.drop_eq_nil_of_le (by omega)] at hr
          have hnr : nodeR l x.f1 = true := by
            unfold nodeR
            rw [← hq, ← hr]
            rfl
          rw [hnr, Bool.true_and] at hg
          simp only [go_sem, T_3, T_4, T_5, T_9, T_22, T_42, T_51, T_69, T_90, T_91, T_93, T_95, T_96, T_98, T_100, T_121, T_145, hkt, wrap_i64s (show i < 1000000000000000000 by omega)]
          exact ⟨i + 1, ⟨by omega, by rw [if_neg (by omega), hnext]; exact hg⟩, by simp only; omega, rfl⟩
  · rw [List.drop_eq_nil_of_le (by omega)] at hg
    have hp : rightB l none l = true := by
      rw [← hg]
      cases (if i = 0 then none else l[i - 1]?.map (·.f0)) <;> rfl
    rw [hp]
    simp only [go_sem, T_3, T_4, T_5, T_9, T_22, T_42, T_51, T_69, T_90, T_91, T_93, T_95, T_96, T_98, T_100, T_121, T_145, hlt]
theorem call19 (l : List S95) (hl : fewL l) (hw : wfL l) (k : Nat) : callV (LX T fns) k (.clo 19 []) [.fz (l.map k95.enc)] = .pure (.bool (rightB l none l), []) := callV_plain (fn := fn19) rfl rfl rfl (lim19 l hl hw) k
end Go.Proofs.Ytfdemnefkfkghaa.R
/- Chapter 27's laws: graph.Find, depths, leads, Right (printed by mk112.py). -/
namespace Go.Proofs.Ytfdemnefkfkghaa.R
open Go Go.Proofs
set_option linter.unusedSimpArgs false
set_option linter.unusedVariables false
set_option maxRecDepth 10000
set_option maxHeartbeats 4000000

theorem lim171 (l : List S95) (b : Int) (hl : fewL l) : lim T fns 171 [.fz (l.map k95.enc), .int .u32 b] [] = some (.tup [.agg (k93.enc ((find b l).getD noNode)), .bool (find b l).isSome], []) := by
  refine fn_rule (fn := fn171) rfl rfl (by simp [fn171]) ?_
  unfold fn171
  simp only [Try.f171, Option.getD_some, argEnv, List.map_nil, List.length_nil]
  obtain ⟨hl1, hln⟩ := hl
  simp only [go_sem, T_3, T_4, T_5, T_9, T_22, T_42, T_51, T_69, T_90, T_91, T_93, T_95, T_96, T_98, T_100, T_121, T_145]
  refine loop_rule (ι := Nat) (S := fun i => ⟨[(1, .int .u32 b), (4, .ptr 0 0 0), (8, .fz (l.map k95.enc)), (9, .int .i64 l.length), (10, .int .i64 i)], [some (.buf 5 [[.bool false, .nils, .nils, .nils, .nils]] false true)]⟩) (m := fun i => l.length + 1 - i)
    (I := fun i => i ≤ l.length ∧ find b (l.drop i) = find b l) ?_ 0 _ ⟨by omega, rfl⟩ (by kernel_rfl)
  rintro i ⟨hi, hg⟩
  by_cases hlt : i < l.length
  · have hx : l[i]? = some l[i] := List.getElem?_eq_getElem hlt
    rw [find_drop hlt] at hg
    by_cases hk : l[i].f0 = b
    · have hkb : (l[i].f0 == b) = true := by simpa using hk
      rw [if_pos hk] at hg
      have hc := call133 l[i].f1 (hln l[i] (List.getElem_mem hlt))
      simp only [k93_enc, ownV] at hc
      rw [← hg]
      simp only [Option.getD_some, Option.isSome_some, k93_enc]
      simp only [go_sem, T_3, T_4, T_5, T_9, T_22, T_42, T_51, T_69, T_90, T_91, T_93, T_95, T_96, T_98, T_100, T_121, T_145, all95, hlt, hx, k95_enc, hkb, hc]
      refine finish_fz ?_
      simp only [frz, frzAll, frzG, frzGAll, ms2, msUp, Rd.run, Heap.at?, List.length_map, Nat.zero_add, Nat.le_refl, and_self, if_true, List.drop_zero, FZ]
      repeat rw [List.take_of_length_le (by simp)]
      show _ = _
      kernel_rfl
    · have hkb : (l[i].f0 == b) = false := by simpa using hk
      rw [if_neg hk] at hg
      simp only [go_sem, T_3, T_4, T_5, T_9, T_22, T_42, T_51, T_69, T_90, T_91, T_93, T_95, T_96, T_98, T_100, T_121, T_145, all95, hlt, hx, k95_enc, hkb, wrap_i64s (show i < 1000000000000000000 by omega)]
      exact ⟨i + 1, ⟨by omega, hg⟩, by simp only; omega, by kernel_rfl⟩
  · rw [List.drop_eq_nil_of_le (by omega)] at hg
    rw [← hg]
    simp only [go_sem, T_3, T_4, T_5, T_9, T_22, T_42, T_51, T_69, T_90, T_91, T_93, T_95, T_96, T_98, T_100, T_121, T_145, hlt]
    show _ = _
    kernel_rfl
theorem call171 (l : List S95) (b : Int) (hl : fewL l) (n : Nat) : callV (LX T fns) n (.clo 171 []) [.fz (l.map k95.enc), .int .u32 b] = .pure (.tup [.agg (k93.enc ((find b l).getD noNode)), .bool (find b l).isSome], []) := callV_plain (fn := fn171) rfl rfl rfl (lim171 l b hl) n

theorem wrap_pred {j : Nat} (h : j < 1000000000000000000) : IntKind.i64.wrap (((j + 1 : Nat) : Int) - 1) = (j : Int) := by
  rw [wrap_i64 (by omega) (by omega)]
  omega
theorem gt0 {j : Nat} : (((j + 1 : Nat) : Int) > 0) = True := by simp
theorem gt00 : (((0 : Nat) : Int) > 0) = False := by simp
theorem gt000 : ((0 : Int) > 0) = False := by simp
/-! A map of depths. -/
def dset (b d : Int) : List (Int × Int) → List (Int × Int)
  | [] => [(b, d)]
  | (c, e) :: r => if b = c then (b, d) :: r else (c, e) :: dset b d r
def dfind (b : Int) : List (Int × Int) → Option Int
  | [] => none
  | (c, e) :: r => if b = c then some e else dfind b r
theorem dfind_set {b c d : Int} : ∀ {es : List (Int × Int)}, dfind c (dset b d es) = if c = b then some d else dfind c es
  | [] => by simp [dset, dfind]
  | (x, e) :: r => by
    simp only [dset]
    split
    · rename_i h
      subst h
      simp only [dfind]
      split <;> rfl
    · simp only [dfind, dfind_set (es := r)]
      by_cases h1 : c = x
      · subst h1
        have : ¬ c = b := fun h => by rename_i h2; exact h2 h.symm
        simp [this]
      · simp [h1]
def encD (p : Int × Int) : V × V := (.int .u32 p.1, .int .u16 p.2)
theorem setKeyD {b d : Int} : ∀ {es : List (Int × Int)}, setKey (.int .u32 b) (.int .u16 d) (es.map encD) = some ((dset b d es).map encD)
  | [] => rfl
  | (c, e) :: r => by
    simp only [List.map_cons, encD, setKey, eqCell, if_true, dset]
    by_cases h : b = c
    · subst h
      simp [encD]
    · have e2 : (b == c) = false := by simpa using h
      simp only [e2, h, if_false]
      rw [setKeyD]
      rfl
theorem findKeyD {b : Int} : ∀ {es : List (Int × Int)}, findKey (.int .u32 b) (es.map encD) = some ((dfind b es).map fun d => .int .u16 d)
  | [] => rfl
  | (c, e) :: r => by
    simp only [List.map_cons, encD, findKey, eqCell, if_true, dfind]
    by_cases h : b = c
    · subst h
      simp
    · have e2 : (b == c) = false := by simpa using h
      simp only [e2, h, if_false]
      exact findKeyD
def depsL (l : List S95) : List (Int × Int) := l.foldl (fun es x => dset x.f0 (deepN x.f1) es) []
def mpD (es : List (Int × Int)) : Ob := .mp (es.map encD) true
theorem lim169 (l : List S95) (hl : fewL l) (hw : wfL l) : lim T fns 169 [.fz (l.map k95.enc)] [] = some (.map 0, [some (mpD (depsL l))]) := by
  refine fn_rule (fn := fn169) rfl rfl (by simp [fn169]) ?_
  unfold fn169
  simp only [Try.f169, Option.getD_some, argEnv, List.map_nil, List.length_nil]
  obtain ⟨hl1, hln⟩ := hl
  have hk : ∀ b, isKey T 42 (.int .u32 b) = true := fun b => rfl
  have hf : ∀ d, fits ⟨.int .u16, 1, 2, .int .u16 0⟩ (.int .u16 d) = true := fun d => rfl
  simp only [go_sem, T_3, T_4, T_5, T_9, T_22, T_42, T_51, T_69, T_90, T_91, T_93, T_95, T_96, T_98, T_100, T_121, T_145, T_230]
  refine loop_rule (ι := Nat) (S := fun i => ⟨[(3, .map 0), (7, .fz (l.map k95.enc)), (8, .int .i64 l.length), (9, .int .i64 i)], [some (mpD (depsL (l.take i)))]⟩) (m := fun i => l.length + 1 - i)
    (I := fun i => i ≤ l.length) ?_ 0 _ (Nat.zero_le _) (by kernel_rfl)
  rintro i hi
  by_cases hlt : i < l.length
  · have hx : l[i]? = some l[i] := List.getElem?_eq_getElem hlt
    have hc := call172 l[i].f1 (hln l[i] (List.getElem_mem hlt)) (hw l[i] (List.getElem_mem hlt))
    have hn : depsL (l.take (i + 1)) = dset l[i].f0 (deepN l[i].f1) (depsL (l.take i)) := by
      unfold depsL
      rw [List.take_succ_eq_append_getElem hlt, List.foldl_append]
      rfl
    simp only [k93_enc] at hc
    simp only [mpD]
    simp only [go_sem, T_3, T_4, T_5, T_9, T_22, T_42, T_51, T_69, T_90, T_91, T_93, T_95, T_96, T_98, T_100, T_121, T_145, T_230, all95, hlt, hx, k95_enc, hc, mapUpdateR, hk, hf, setKeyD, wrap_i64s (show i < 1000000000000000000 by omega)]
    repeat (refine ⟨by kernel_rfl, ?_⟩)
    refine ⟨i + 1, by omega, by simp only; omega, ?_⟩
    simp only [hn]
    show _ = _
    kernel_rfl
  · obtain rfl : i = l.length := by omega
    rw [List.take_length]
    simp only [mpD]
    simp only [go_sem, T_3, T_4, T_5, T_9, T_22, T_42, T_51, T_69, T_90, T_91, T_93, T_95, T_96, T_98, T_100, T_121, T_145, T_230, hlt]
    show _ = _
    kernel_rfl
theorem call169 (l : List S95) (hl : fewL l) (hw : wfL l) {n : Nat} {h : Heap} {tr : List Nat} : (callV (LX T fns) n (.clo 169 []) [.fz (l.map k95.enc)]).run h tr = some ((.map n, [(n, some (mpD (depsL l)))]), tr) :=
  callV_newf (fn := fn169) rfl (args' := [.fz (l.map k95.enc)]) (u := []) (us := [(n, some (mpD (depsL l)))]) (fun K => by simp only [fn169, List.append_nil, frzArgs, frz, frzAll, frzG, frzGAll, ms2, msUp, frzG, List.nil_append]) rfl (lim169 l hl hw) (by simp [V.re, back, nth]) (by simp [pushObs, back, nth, Ob.re, mpD]) rfl
def leadsM (es : List (Int × Int)) (b d : Int) : Bool := match dfind b es with
  | some e => decide (e = d) && decide (e < 65535)
  | none => false
theorem lim170 (b d : Int) (es : List (Int × Int)) : lim T fns 170 [.map 0, .int .u32 b, .int .u16 d] [mpD es] = some (.bool (leadsM es b d), [some (mpD es)]) := by
  refine fn_rule (fn := fn170) rfl rfl (by simp [fn170]) ?_
  unfold fn170
  simp only [Try.f170, Option.getD_some, argEnv, List.map_nil, List.length_nil]
  have hk : isKey T 42 (.int .u32 b) = true := rfl
  unfold leadsM
  simp only [mpD]
  cases hd : dfind b es with
  | none =>
    simp only [go_sem, T_42, T_96, T_230, lookupR, hk, findKeyD, hd, giveR, Option.map_none, Option.isSome_none]
    show _ = _
    kernel_rfl
  | some e =>
    by_cases h1 : e = d
    · have h1b : (e == d) = true := by simpa using h1
      by_cases h2 : e < 65535
      · have h2b : decide (e < 65535) = true := by simpa using h2
        have h1d : decide (e = d) = true := by simpa using h1
        simp only [go_sem, T_42, T_96, T_230, lookupR, hk, findKeyD, hd, giveR, Option.map_some, Option.isSome_some, h1b, h2b, h1d, h2]
        show _ = _
        kernel_rfl
      · have h2b : decide (e < 65535) = false := by simpa using h2
        have h1d : decide (e = d) = true := by simpa using h1
        simp only [go_sem, T_42, T_96, T_230, lookupR, hk, findKeyD, hd, giveR, Option.map_some, Option.isSome_some, h1b, h2b, h1d, h2]
        show _ = _
        kernel_rfl
    · have h1b : (e == d) = false := by simpa using h1
      have h1d : decide (e = d) = false := by simpa using h1
      simp only [go_sem, T_42, T_96, T_230, lookupR, hk, findKeyD, hd, giveR, Option.map_some, Option.isSome_some, h1b, h1d]
      show _ = _
      kernel_rfl
theorem call170 (b d : Int) (es : List (Int × Int)) (n : Nat) (hn : 1 ≤ n) (rest : Heap) : (callV (LX T fns) n (.clo 170 []) [.map 0, .int .u32 b, .int .u16 d]).run (some (mpD es) :: rest) [] = some ((.bool (leadsM es b d), [(0, some (mpD es))]), [0]) := by
  have h := lim170 b d es
  simp only [mpD] at h ⊢
  have hf : fns 170 = some fn170 := rfl
  unfold callV
  simp only [hf]
  unfold callR
  simp only [fn170, List.cons_append, List.nil_append, List.append_nil, frzArgs, frz, frzAll, frzG, frzGAll, ms2, msUp, List.tail]
  simp only [V.allIds, V.ids, List.append_nil, List.nil_append, collect, List.map_nil, List.contains_nil, Bool.false_eq_true, if_false, Rd.run, Heap.at?, Ob.ids, rowsIds, List.map_cons, List.cons_append, List.contains_cons, Nat.reduceBEq, Bool.or_self, Bool.or_false, Bool.false_or, Bool.or_true, Bool.true_or, if_true]
  unfold withR
  simp only [List.map_cons, List.map_nil, upd1, List.all_nil, List.all_cons, show 0 < n by omega, decide_true, Bool.and_self, if_true, V.reAll, V.re, idx, Nat.beq, cond_true, cond_false, Option.bind_some, Option.map_some, pullObs, Ob.re, reRows, Nat.reduceAdd, h, List.length_cons, List.length_nil, Nat.le_refl]
  unfold afterR
  simp only [V.re, V.reAll, pushObs, back, nth, Ob.re, reRows, Option.bind_some, Option.map_some, List.isEmpty_cons, Bool.false_and, Bool.false_eq_true, if_false, Rd.run, List.append_nil, Nat.reduceAdd]
def msgM (es : List (Int × Int)) (m : S121) : Bool := !((m.f0 == 3) && !leadsM es m.f3 m.f4)
def nodeM (es : List (Int × Int)) (n : S93) : Bool := (n.f3.all fun e => leadsM es e.f0 e.f1) && n.f4.all (msgM es)
def rightM (es : List (Int × Int)) : Option Int → List S95 → Bool
  | _, [] => true
  | none, x :: r => (mayN x.f1 == 0) && (nodeM es x.f1 && rightM es (some x.f0) r)
  | some p, x :: r => !decide (x.f0 ≤ p) && ((mayN x.f1 == 0) && (nodeM es x.f1 && rightM es (some x.f0) r))
theorem lim112 (l : List S95) (hl : fewL l) (hw : wfL l) : lim T fns 112 [.fz (l.map k95.enc)] [] = some (.bool (rightM (depsL l) none l), []) := by
  have hdep := fun (n : Nat) (h : Heap) (tr : List Nat) => call169 l hl hw (n := n) (h := h) (tr := tr)
  obtain ⟨hl1, hln⟩ := hl
  have hmm : ∀ a : Int, (a != 0) = !(a == 0) := fun a => rfl
  refine fn_rule (fn := fn112) rfl rfl (by simp [fn112]) ?_
  unfold fn112
  simp only [Try.f112, Option.getD_some, argEnv, List.map_nil, List.length_nil]
  simp only [go_sem, T_3, T_4, T_5, T_9, T_22, T_25, T_42, T_51, T_69, T_90, T_91, T_93, T_95, T_96, T_98, T_100, T_121, T_145, T_230, hdep]
  refine loop_rule (ι := Nat) (S := fun i => ⟨[(0, .fz (l.map k95.enc)), (3, .map 0), (12, .fz (l.map k95.enc)), (13, .int .i64 l.length), (14, .int .i64 i)], [some (mpD (depsL l))]⟩) (m := fun i => l.length + 1 - i)
    (I := fun i => i ≤ l.length ∧ rightM (depsL l) (if i = 0 then none else l[i - 1]?.map (·.f0)) (l.drop i) = rightM (depsL l) none l) ?_ 0 _ ⟨by omega, by simp⟩ (by kernel_rfl)
  rintro i ⟨hi, hg⟩
  by_cases hlt : i < l.length
  · have hx : l[i]? = some l[i] := List.getElem?_eq_getElem hlt
    have hn := hln l[i] (List.getElem_mem hlt)
    have hc2 := call129 l[i].f1 hn (hw l[i] (List.getElem_mem hlt))
    rw [List.drop_eq_getElem_cons hlt] at hg
    have hnext : (l[i + 1 - 1]?.map (·.f0)) = some l[i].f0 := by simp [hx]
    generalize l[i] = x at hx hn hc2 hg hnext
    simp only [k93_enc] at hc2
    by_cases h0 : i = 0
    · have k0 : ¬ ((i : Int) > 0) := by omega
      rw [if_pos h0] at hg
      simp only [rightM] at hg
      cases k2 : (mayN x.f1 == 0) with
      | false =>
        rw [k2] at hg
        simp only [mpD]
        simp only [go_sem, T_3, T_4, T_5, T_9, T_22, T_25, T_42, T_51, T_69, T_90, T_91, T_93, T_95, T_96, T_98, T_100, T_121, T_145, T_230, all95, hlt, hx, k95_enc, hc2, k0, hmm, k2]
        simp [← hg]
      | true =>
        rw [k2, Bool.true_and] at hg
        simp only [mpD]
        simp only [go_sem, T_3, T_4, T_5, T_9, T_22, T_25, T_42, T_51, T_69, T_90, T_91, T_93, T_95, T_96, T_98, T_100, T_121, T_145, T_230, all95, hlt, hx, k95_enc, hc2, k0, hmm, k2]
        repeat (refine ⟨by kernel_rfl, ?_⟩)
        refine loop_rule (ι := Nat) (S := fun k => ⟨[(0, .fz (l.map k95.enc)), (3, .map 0), (5, .ptr 1 0 0), (12, .fz (l.map k95.enc)), (13, .int .i64 l.length), (14, .int .i64 i), (40, .fz (x.f1.f3.map k100.enc)), (41, .int .i64 x.f1.f3.length), (42, .int .i64 k)], [some (mpD (depsL l)), some (.buf 6 [[.int .u32 x.f0, .bool x.f1.f0, .fz (x.f1.f1.map k145.enc), .fz (x.f1.f2.map Cd.str.enc), .fz (x.f1.f3.map k100.enc), .fz (x.f1.f4.map k121.enc)]] false true)]⟩) (m := fun k => x.f1.f3.length + 1 - k)
          (I := fun k => k ≤ x.f1.f3.length ∧ ((x.f1.f3.drop k).all fun e => leadsM (depsL l) e.f0 e.f1) = x.f1.f3.all fun e => leadsM (depsL l) e.f0 e.f1) ?_ 0 _ ⟨by omega, by simp⟩ (by kernel_rfl)
        rintro k ⟨hk, hq⟩
        have hn3 := hn.2.2.1
        have hn4 := hn.2.2.2
        by_cases hkt : k < x.f1.f3.length
        · have hz : x.f1.f3[k]? = some x.f1.f3[k] := List.getElem?_eq_getElem hkt
          have hc3 := fun (n : Nat) (hn : 1 ≤ n) (rest : Heap) => call170 x.f1.f3[k].f0 x.f1.f3[k].f1 (depsL l) n hn rest
          rw [all_drop hkt] at hq
          cases k4 : leadsM (depsL l) x.f1.f3[k].f0 x.f1.f3[k].f1 with
          | false =>
            rw [k4] at hq
            simp only [k4, mpD] at hc3
            simp only [mpD]
            simp only [go_sem, T_3, T_4, T_5, T_9, T_22, T_25, T_42, T_51, T_69, T_90, T_91, T_93, T_95, T_96, T_98, T_100, T_121, T_145, T_230, all100, hkt, hz, k100_enc, hc3]
            have : nodeM (depsL l) x.f1 = false := by
              unfold nodeM
              rw [← hq]
              rfl
            rw [this] at hg
            rw [← hg]
            rfl
          | true =>
            rw [k4] at hq
            simp only [k4, mpD] at hc3
            simp only [mpD]
            simp only [go_sem, T_3, T_4, T_5, T_9, T_22, T_25, T_42, T_51, T_69, T_90, T_91, T_93, T_95, T_96, T_98, T_100, T_121, T_145, T_230, all100, hkt, hz, k100_enc, hc3, wrap_i64s (show k < 1000000000000000000 by omega)]
            exact ⟨k + 1, ⟨by omega, hq⟩, by simp only; omega, by kernel_rfl⟩
        rw [List.drop_eq_nil_of_le (by omega)] at hq
        simp only [mpD]
        simp only [go_sem, T_3, T_4, T_5, T_9, T_22, T_25, T_42, T_51, T_69, T_90, T_91, T_93, T_95, T_96, T_98, T_100, T_121, T_145, T_230, hkt]
        refine loop_rule (ι := Nat) (S := fun k => ⟨[(0, .fz (l.map k95.enc)), (3, .map 0), (12, .fz (l.map k95.enc)), (13, .int .i64 l.length), (14, .int .i64 i), (56, .fz (x.f1.f4.map k121.enc)), (57, .int .i64 x.f1.f4.length), (58, .int .i64 k)], [some (mpD (depsL l))]⟩) (m := fun k => x.f1.f4.length + 1 - k)
          (I := fun k => k ≤ x.f1.f4.length ∧ (x.f1.f4.drop k).all (msgM (depsL l)) = x.f1.f4.all (msgM (depsL l))) ?_ 0 _ ⟨by omega, by simp⟩ (by kernel_rfl)
        clear hk hkt
        rintro k ⟨hk, hr⟩
        by_cases hkt : k < x.f1.f4.length
        · have hz : x.f1.f4[k]? = some x.f1.f4[k] := List.getElem?_eq_getElem hkt
          have hc3 := fun (n : Nat) (hn : 1 ≤ n) (rest : Heap) => call170 x.f1.f4[k].f3 x.f1.f4[k].f4 (depsL l) n hn rest
          rw [all_drop hkt] at hr
          cases k5 : (x.f1.f4[k].f0 == 3) with
          | false =>
            have e : msgM (depsL l) x.f1.f4[k] = true := by simp [msgM, k5]
            rw [e] at hr
            simp only [mpD]
            simp only [go_sem, T_3, T_4, T_5, T_9, T_22, T_25, T_42, T_51, T_69, T_90, T_91, T_93, T_95, T_96, T_98, T_100, T_121, T_145, T_230, all121, hkt, hz, k121_enc, k5, wrap_i64s (show k < 1000000000000000000 by omega)]
            exact ⟨k + 1, ⟨by omega, hr⟩, by simp only; omega, by kernel_rfl⟩
          | true =>
            cases k4 : leadsM (depsL l) x.f1.f4[k].f3 x.f1.f4[k].f4 with
            | false =>
              have e : msgM (depsL l) x.f1.f4[k] = false := by simp [msgM, k5, k4]
              rw [e] at hr
              simp only [k4, mpD] at hc3
              simp only [mpD]
              simp only [go_sem, T_3, T_4, T_5, T_9, T_22, T_25, T_42, T_51, T_69, T_90, T_91, T_93, T_95, T_96, T_98, T_100, T_121, T_145, T_230, all121, hkt, hz, k121_enc, k5, hc3]
              have : nodeM (depsL l) x.f1 = false := by
                unfold nodeM
                rw [← hr, Bool.false_and, Bool.and_false]
              rw [this] at hg
              rw [← hg]
              rfl
            | true =>
              have e : msgM (depsL l) x.f1.f4[k] = true := by simp [msgM, k4]
              rw [e] at hr
              simp only [k4, mpD] at hc3
              simp only [mpD]
              simp only [go_sem, T_3, T_4, T_5, T_9, T_22, T_25, T_42, T_51, T_69, T_90, T_91, T_93, T_95, T_96, T_98, T_100, T_121, T_145, T_230, all121, hkt, hz, k121_enc, k5, hc3, wrap_i64s (show k < 1000000000000000000 by omega)]
              exact ⟨k + 1, ⟨by omega, hr⟩, by simp only; omega, by kernel_rfl⟩
        · rw [List.drop_eq_nil_of_le (by omega)] at hr
          have hN : nodeM (depsL l) x.f1 = true := by
            unfold nodeM
            rw [← hq, ← hr]
            rfl
          rw [hN, Bool.true_and] at hg
          simp only [mpD]
          simp only [go_sem, T_3, T_4, T_5, T_9, T_22, T_25, T_42, T_51, T_69, T_90, T_91, T_93, T_95, T_96, T_98, T_100, T_121, T_145, T_230, hkt, wrap_i64s (show i < 1000000000000000000 by omega)]
          exact ⟨i + 1, ⟨by omega, by simp only [Nat.add_one_ne_zero, if_false]; rw [hnext]; exact hg⟩, by simp only; omega, by kernel_rfl⟩
    · obtain ⟨j, rfl⟩ : ∃ j, i = j + 1 := ⟨i - 1, by omega⟩
      have hj : j < l.length := by omega
      have hy : l[j]? = some l[j] := List.getElem?_eq_getElem hj
      simp only [Nat.add_one_ne_zero, if_false, Nat.add_sub_cancel, hy, Option.map_some] at hg
      simp only [rightM] at hg
      by_cases k1 : x.f0 ≤ l[j].f0
      · have k1d : decide (x.f0 ≤ l[j].f0) = true := by simpa using k1
        rw [k1d] at hg
        simp only [mpD]
        simp only [go_sem, T_3, T_4, T_5, T_9, T_22, T_25, T_42, T_51, T_69, T_90, T_91, T_93, T_95, T_96, T_98, T_100, T_121, T_145, T_230, all95, hlt, hx, hj, hy, k95_enc, hc2, gt0, wrap_pred (show j < 1000000000000000000 by omega), k1d, k1]
        simp [← hg]
      · have k1d : decide (x.f0 ≤ l[j].f0) = false := by simpa using k1
        rw [k1d, Bool.not_false, Bool.true_and] at hg
        cases k2 : (mayN x.f1 == 0) with
        | false =>
          rw [k2] at hg
          simp only [mpD]
          simp only [go_sem, T_3, T_4, T_5, T_9, T_22, T_25, T_42, T_51, T_69, T_90, T_91, T_93, T_95, T_96, T_98, T_100, T_121, T_145, T_230, all95, hlt, hx, hj, hy, k95_enc, hc2, gt0, wrap_pred (show j < 1000000000000000000 by omega), k1d, k1, hmm, k2]
          simp [← hg]
        | true =>
          rw [k2, Bool.true_and] at hg
          simp only [mpD]
          simp only [go_sem, T_3, T_4, T_5, T_9, T_22, T_25, T_42, T_51, T_69, T_90, T_91, T_93, T_95, T_96, T_98, T_100, T_121, T_145, T_230, all95, hlt, hx, hj, hy, k95_enc, hc2, gt0, wrap_pred (show j < 1000000000000000000 by omega), k1d, k1, hmm, k2]
          repeat (refine ⟨by kernel_rfl, ?_⟩)
          refine loop_rule (ι := Nat) (S := fun k => ⟨[(0, .fz (l.map k95.enc)), (3, .map 0), (5, .ptr 1 0 0), (12, .fz (l.map k95.enc)), (13, .int .i64 l.length), (14, .int .i64 (j + 1 : Nat)), (40, .fz (x.f1.f3.map k100.enc)), (41, .int .i64 x.f1.f3.length), (42, .int .i64 k)], [some (mpD (depsL l)), some (.buf 6 [[.int .u32 x.f0, .bool x.f1.f0, .fz (x.f1.f1.map k145.enc), .fz (x.f1.f2.map Cd.str.enc), .fz (x.f1.f3.map k100.enc), .fz (x.f1.f4.map k121.enc)]] false true)]⟩) (m := fun k => x.f1.f3.length + 1 - k)
            (I := fun k => k ≤ x.f1.f3.length ∧ ((x.f1.f3.drop k).all fun e => leadsM (depsL l) e.f0 e.f1) = x.f1.f3.all fun e => leadsM (depsL l) e.f0 e.f1) ?_ 0 _ ⟨by omega, by simp⟩ (by kernel_rfl)
          rintro k ⟨hk, hq⟩
          have hn3 := hn.2.2.1
          have hn4 := hn.2.2.2
          by_cases hkt : k < x.f1.f3.length
          · have hz : x.f1.f3[k]? = some x.f1.f3[k] := List.getElem?_eq_getElem hkt
            have hc3 := fun (n : Nat) (hn : 1 ≤ n) (rest : Heap) => call170 x.f1.f3[k].f0 x.f1.f3[k].f1 (depsL l) n hn rest
            rw [all_drop hkt] at hq
            cases k4 : leadsM (depsL l) x.f1.f3[k].f0 x.f1.f3[k].f1 with
            | false =>
              rw [k4] at hq
              simp only [k4, mpD] at hc3
              simp only [mpD]
              simp only [go_sem, T_3, T_4, T_5, T_9, T_22, T_25, T_42, T_51, T_69, T_90, T_91, T_93, T_95, T_96, T_98, T_100, T_121, T_145, T_230, all100, hkt, hz, k100_enc, hc3]
              have : nodeM (depsL l) x.f1 = false := by
                unfold nodeM
                rw [← hq]
                rfl
              rw [this] at hg
              rw [← hg]
              rfl
            | true =>
              rw [k4] at hq
              simp only [k4, mpD] at hc3
              simp only [mpD]
              simp only [go_sem, T_3, T_4, T_5, T_9, T_22, T_25, T_42, T_51, T_69, T_90, T_91, T_93, T_95, T_96, T_98, T_100, T_121, T_145, T_230, all100, hkt, hz, k100_enc, hc3, wrap_i64s (show k < 1000000000000000000 by omega)]
              exact ⟨k + 1, ⟨by omega, hq⟩, by simp only; omega, by kernel_rfl⟩
          rw [List.drop_eq_nil_of_le (by omega)] at hq
          simp only [mpD]
          simp only [go_sem, T_3, T_4, T_5, T_9, T_22, T_25, T_42, T_51, T_69, T_90, T_91, T_93, T_95, T_96, T_98, T_100, T_121, T_145, T_230, hkt]
          refine loop_rule (ι := Nat) (S := fun k => ⟨[(0, .fz (l.map k95.enc)), (3, .map 0), (12, .fz (l.map k95.enc)), (13, .int .i64 l.length), (14, .int .i64 (j + 1 : Nat)), (56, .fz (x.f1.f4.map k121.enc)), (57, .int .i64 x.f1.f4.length), (58, .int .i64 k)], [some (mpD (depsL l))]⟩) (m := fun k => x.f1.f4.length + 1 - k)
            (I := fun k => k ≤ x.f1.f4.length ∧ (x.f1.f4.drop k).all (msgM (depsL l)) = x.f1.f4.all (msgM (depsL l))) ?_ 0 _ ⟨by omega, by simp⟩ (by kernel_rfl)
          clear hk hkt
          rintro k ⟨hk, hr⟩
          by_cases hkt : k < x.f1.f4.length
          · have hz : x.f1.f4[k]? = some x.f1.f4[k] := List.getElem?_eq_getElem hkt
            have hc3 := fun (n : Nat) (hn : 1 ≤ n) (rest : Heap) => call170 x.f1.f4[k].f3 x.f1.f4[k].f4 (depsL l) n hn rest
            rw [all_drop hkt] at hr
            cases k5 : (x.f1.f4[k].f0 == 3) with
            | false =>
              have e : msgM (depsL l) x.f1.f4[k] = true := by simp [msgM, k5]
              rw [e] at hr
              simp only [mpD]
              simp only [go_sem, T_3, T_4, T_5, T_9, T_22, T_25, T_42, T_51, T_69, T_90, T_91, T_93, T_95, T_96, T_98, T_100, T_121, T_145, T_230, all121, hkt, hz, k121_enc, k5, wrap_i64s (show k < 1000000000000000000 by omega)]
              exact ⟨k + 1, ⟨by omega, hr⟩, by simp only; omega, by kernel_rfl⟩
            | true =>
              cases k4 : leadsM (depsL l) x.f1.f4[k].f3 x.f1.f4[k].f4 with
              | false =>
                have e : msgM (depsL l) x.f1.f4[k] = false := by simp [msgM, k5, k4]
                rw [e] at hr
                simp only [k4, mpD] at hc3
                simp only [mpD]
                simp only [go_sem, T_3, T_4, T_5, T_9, T_22, T_25, T_42, T_51, T_69, T_90, T_91, T_93, T_95, T_96, T_98, T_100, T_121, T_145, T_230, all121, hkt, hz, k121_enc, k5, hc3]
                have : nodeM (depsL l) x.f1 = false := by
                  unfold nodeM
                  rw [← hr, Bool.false_and, Bool.and_false]
                rw [this] at hg
                rw [← hg]
                rfl
              | true =>
                have e : msgM (depsL l) x.f1.f4[k] = true := by simp [msgM, k4]
                rw [e] at hr
                simp only [k4, mpD] at hc3
                simp only [mpD]
                simp only [go_sem, T_3, T_4, T_5, T_9, T_22, T_25, T_42, T_51, T_69, T_90, T_91, T_93, T_95, T_96, T_98, T_100, T_121, T_145, T_230, all121, hkt, hz, k121_enc, k5, hc3, wrap_i64s (show k < 1000000000000000000 by omega)]
                exact ⟨k + 1, ⟨by omega, hr⟩, by simp only; omega, by kernel_rfl⟩
          · rw [List.drop_eq_nil_of_le (by omega)] at hr
            have hN : nodeM (depsL l) x.f1 = true := by
              unfold nodeM
              rw [← hq, ← hr]
              rfl
            rw [hN, Bool.true_and] at hg
            simp only [mpD]
            simp only [go_sem, T_3, T_4, T_5, T_9, T_22, T_25, T_42, T_51, T_69, T_90, T_91, T_93, T_95, T_96, T_98, T_100, T_121, T_145, T_230, hkt, wrap_i64s (show (j + 1 : Nat) < 1000000000000000000 by omega)]
            exact ⟨(j + 1 : Nat) + 1, ⟨by omega, by simp only [Nat.add_one_ne_zero, if_false]; rw [hnext]; exact hg⟩, by simp only; omega, by kernel_rfl⟩
  · rw [List.drop_eq_nil_of_le (by omega)] at hg
    simp only [mpD]
    simp only [go_sem, T_3, T_4, T_5, T_9, T_22, T_25, T_42, T_51, T_69, T_90, T_91, T_93, T_95, T_96, T_98, T_100, T_121, T_145, T_230, hlt]
    rw [← hg]
    cases hq : (if i = 0 then none else Option.map (·.f0) l[i - 1]?) <;> rfl
end Go.Proofs.Ytfdemnefkfkghaa.R
/- Chapter 27's laws: named, item, roots, counted, held. -/
namespace Go.Proofs.Ytfdemnefkfkghaa.R
open Go Go.Proofs
set_option linter.unusedSimpArgs false
set_option linter.unusedVariables false
set_option maxRecDepth 10000
set_option maxHeartbeats 4000000

def nameR (b : Int) : List S184 → Int
  | [] => 0
  | x :: r => if x.f0 = b then x.f1 else nameR b r
theorem nameR_drop {b : Int} {l : List S184} {i : Nat} (h : i < l.length) : nameR b (l.drop i) = if l[i].f0 = b then l[i].f1 else nameR b (l.drop (i + 1)) := by
  rw [List.drop_eq_getElem_cons h]
  rfl
theorem lim118 (l : List S184) (b : Int) (hl : l.length < 1000000000000) : lim T fns 118 [.fz (l.map k184.enc), .int .u32 b] [] = some (.int .u32 (nameR b l), []) := by
  refine fn_rule (fn := fn118) rfl rfl (by simp [fn118]) ?_
  unfold fn118
  simp only [Try.f118, Option.getD_some, argEnv, List.map_nil, List.length_nil]
  simp only [go_sem, T_3, T_42, T_77, T_184]
  refine loop_rule (ι := Nat) (S := fun i => ⟨[(0, .fz (l.map k184.enc)), (1, .int .u32 b), (7, .int .i64 l.length), (8, .int .i64 i)], []⟩) (m := fun i => l.length + 1 - i)
    (I := fun i => i ≤ l.length ∧ nameR b (l.drop i) = nameR b l) ?_ 0 _ ⟨by omega, rfl⟩ (by kernel_rfl)
  rintro i ⟨hi, hg⟩
  by_cases hlt : i < l.length
  · have hx : l[i]? = some l[i] := List.getElem?_eq_getElem hlt
    rw [nameR_drop hlt] at hg
    by_cases hk : l[i].f0 = b
    · have hkb : (l[i].f0 == b) = true := by simpa using hk
      rw [if_pos hk] at hg
      simp only [go_sem, T_3, T_42, T_77, T_184, all184, hlt, hx, k184_enc, hkb]
      rw [← hg]
    · have hkb : (l[i].f0 == b) = false := by simpa using hk
      rw [if_neg hk] at hg
      simp only [go_sem, T_3, T_42, T_77, T_184, all184, hlt, hx, k184_enc, hkb, wrap_i64s (show i < 1000000000000000000 by omega)]
      exact ⟨i + 1, ⟨by omega, hg⟩, by simp only; omega, by kernel_rfl⟩
  · rw [List.drop_eq_nil_of_le (by omega)] at hg
    simp only [go_sem, T_3, T_42, T_77, T_184, hlt]
    rw [← hg]
    show _ = _
    kernel_rfl
theorem call118 (l : List S184) (b : Int) (hl : l.length < 1000000000000) (n : Nat) : callV (LX T fns) n (.clo 118 []) [.fz (l.map k184.enc), .int .u32 b] = .pure (.int .u32 (nameR b l), []) := callV_plain (fn := fn118) rfl rfl rfl (lim118 l b hl) n
theorem lim119 (l : List S95) (b : Int) (hl : fewL l) : lim T fns 119 [.fz (l.map k95.enc), .int .u32 b] [] = some (.bool (find b l).isSome, []) := by
  refine fn_rule (fn := fn119) rfl rfl (by simp [fn119]) ?_
  unfold fn119
  simp only [Try.f119, Option.getD_some, argEnv, List.map_nil, List.length_nil]
  simp only [go_sem, T_4, T_5, T_9, T_22, T_42, T_51, T_69, T_90, T_91, T_93, T_95, T_96, T_98, T_100, T_121, T_145, call68 l b hl, k93_enc]
theorem call119 (l : List S95) (b : Int) (hl : fewL l) (n : Nat) : callV (LX T fns) n (.clo 119 []) [.fz (l.map k95.enc), .int .u32 b] = .pure (.bool (find b l).isSome, []) := callV_plain (fn := fn119) rfl rfl rfl (lim119 l b hl) n

def rootB (l : List S95) (v : S179) : Bool := match find v.f1 l with
  | some n => decide (deepN n = v.f2)
  | none => false
theorem few_find {l : List S95} (hl : fewL l) {b : Int} {n : S93} (h : find b l = some n) : fewN n := by
  obtain ⟨x, hx, _, rfl⟩ := find_mem h
  exact hl.2 x hx
theorem wf_find {l : List S95} (hl : wfL l) {b : Int} {n : S93} (h : find b l = some n) : wfN n := by
  obtain ⟨x, hx, _, rfl⟩ := find_mem h
  exact hl x hx
theorem lim113 (l : List S95) (m : S80) (hl : fewL l) (hw : wfL l) (h2 : m.f2.length < 1000000000000) : lim T fns 113 [.fz (l.map k95.enc), .agg (k80.enc m)] [] = some (.bool (m.f2.all (rootB l)), []) := by
  refine fn_rule (fn := fn113) rfl rfl (by simp [fn113]) ?_
  unfold fn113
  simp only [Try.f113, Option.getD_some, argEnv, List.map_nil, List.length_nil]
  simp only [go_sem, T_3, T_4, T_5, T_9, T_22, T_42, T_51, T_69, T_76, T_77, T_78, T_80, T_90, T_91, T_93, T_95, T_96, T_98, T_100, T_121, T_145, T_179, T_184, k80_enc]
  refine loop_rule (ι := Nat) (S := fun i => ⟨[(0, .fz (l.map k95.enc)), (10, .fz (m.f2.map k179.enc)), (11, .int .i64 m.f2.length), (12, .int .i64 i)], []⟩) (m := fun i => m.f2.length + 1 - i)
    (I := fun i => i ≤ m.f2.length ∧ (m.f2.drop i).all (rootB l) = m.f2.all (rootB l)) ?_ 0 _ ⟨by omega, rfl⟩ (by kernel_rfl)
  rintro i ⟨hi, hg⟩
  by_cases hlt : i < m.f2.length
  · have hx : m.f2[i]? = some m.f2[i] := List.getElem?_eq_getElem hlt
    rw [all_drop hlt] at hg
    have hc := call171 l m.f2[i].f1 hl
    cases hf : find m.f2[i].f1 l with
    | none =>
      have hroot : rootB l m.f2[i] = false := by unfold rootB; rw [hf]
      rw [hroot, Bool.false_and] at hg
      rw [hf] at hc
      simp only [Option.getD_none, Option.isSome_none, k93_enc] at hc
      simp only [go_sem, T_3, T_4, T_5, T_9, T_22, T_42, T_51, T_69, T_76, T_77, T_78, T_80, T_90, T_91, T_93, T_95, T_96, T_98, T_100, T_121, T_145, T_179, T_184, all179, hlt, hx, k179_enc, hc]
      rw [← hg]
    | some n =>
      have hroot : rootB l m.f2[i] = decide (deepN n = m.f2[i].f2) := by unfold rootB; rw [hf]
      rw [hroot] at hg
      rw [hf] at hc
      simp only [Option.getD_some, Option.isSome_some, k93_enc] at hc
      have hd := call172 n (few_find hl hf) (wf_find hw hf)
      simp only [k93_enc] at hd
      by_cases hk : deepN n = m.f2[i].f2
      · have hkb : (deepN n != m.f2[i].f2) = false := by simpa using hk
        rw [decide_eq_true hk, Bool.true_and] at hg
        simp only [go_sem, T_3, T_4, T_5, T_9, T_22, T_42, T_51, T_69, T_76, T_77, T_78, T_80, T_90, T_91, T_93, T_95, T_96, T_98, T_100, T_121, T_145, T_179, T_184, all179, hlt, hx, k179_enc, hc, hd, hkb, wrap_i64s (show i < 1000000000000000000 by omega)]
        repeat (refine ⟨by kernel_rfl, ?_⟩)
        exact ⟨i + 1, ⟨by omega, hg⟩, by simp only; omega, by kernel_rfl⟩
      · have hkb : (deepN n != m.f2[i].f2) = true := by simpa using hk
        rw [decide_eq_false hk, Bool.false_and] at hg
        simp only [go_sem, T_3, T_4, T_5, T_9, T_22, T_42, T_51, T_69, T_76, T_77, T_78, T_80, T_90, T_91, T_93, T_95, T_96, T_98, T_100, T_121, T_145, T_179, T_184, all179, hlt, hx, k179_enc, hc, hd, hkb]
        rw [← hg]
  · rw [List.drop_eq_nil_of_le (by omega)] at hg
    simp only [go_sem, T_3, T_4, T_5, T_9, T_22, T_42, T_51, T_69, T_76, T_77, T_78, T_80, T_90, T_91, T_93, T_95, T_96, T_98, T_100, T_121, T_145, T_179, T_184, hlt]
    rw [← hg]
    rfl

theorem call126 (l : List S95) (vols : List S179) (pend : List S184) (hl : fewL l) (h1 : vols.length < 100000000) (h2 : (nmItems l).length < 100000000) (h3 : pend.length < 100000000) (hp : ∀ x ∈ pend, u32B x.f1) (n : Nat) : callV (LX T fns) n (.clo 126 []) [.fz (l.map k95.enc), .fz (vols.map k179.enc), .fz (pend.map k184.enc)] =
    .pure (.fz ((refsU (addsU (nmRoots vols ++ nmItems l ++ nmPend pend) ([], []))).map k184.enc), []) := callV_plain (fn := fn126) rfl rfl rfl (lim126 l vols pend hl h1 h2 h3 hp) n
theorem call117 (l : List S95) (vols : List S179) (pend : List S184) (hl : fewL l) (h1 : vols.length < 100000000) (h2 : (nmItems l).length < 100000000) (h3 : pend.length < 100000000) (hp : ∀ x ∈ pend, u32B x.f1) (n : Nat) : callV (LX T fns) n (.clo 117 []) [.fz (l.map k95.enc), .fz (vols.map k179.enc), .fz (pend.map k184.enc)] =
    .pure (.fz ((addsR (nmRoots vols ++ nmItems l ++ nmPend pend) []).map k184.enc), []) := callV_plain (fn := fn117) rfl rfl rfl (lim117 l vols pend hl h1 h2 h3 hp) n
/-- Counts against how often blocks are named. -/
def countR : List S184 → List Int → Nat → Int
  | nm, [], _ => if nm.isEmpty = true then 0 else 2
  | [], n :: cs, b => if n < 0 then 2 else if n > 0 then 13 else countR [] cs (b + 1)
  | x :: r, n :: cs, b => if x.f0 = b then (if n < x.f1 then 2 else if n > x.f1 then 13 else countR r cs (b + 1)) else (if n < 0 then 2 else if n > 0 then 13 else countR (x :: r) cs (b + 1))
theorem wrap32_n {b : Nat} (h : b < 4294967296) : IntKind.u32.wrap (b : Int) = b := wrap32_u (by unfold u32B; omega)
theorem countR_drop {nm : List S184} {cs : List Int} {b : Nat} (h : b < cs.length) : countR nm (cs.drop b) b = countR nm (cs[b] :: cs.drop (b + 1)) b := by rw [List.drop_eq_getElem_cons h]
theorem lim114 (l : List S95) (m : S80) (hl : fewL l) (h0 : m.f0.length < 1000000000) (h1 : m.f2.length < 100000000) (h2 : (nmItems l).length < 100000000) (h3 : m.f1.length < 100000000) (hp : ∀ x ∈ m.f1, u32B x.f1) : lim T fns 114 [.fz (l.map k95.enc), .agg (k80.enc m)] [] =
    some (.int .i64 (countR (refsU (addsU (nmRoots m.f2 ++ nmItems l ++ nmPend m.f1) ([], []))) m.f0 0), []) := by
  refine fn_rule (fn := fn114) rfl rfl (by simp [fn114]) ?_
  unfold fn114
  simp only [Try.f114, Option.getD_some, argEnv, List.map_nil, List.length_nil]
  have hc := fun n => call126 l m.f2 m.f1 hl h1 h2 h3 hp n
  generalize refsU (addsU (nmRoots m.f2 ++ nmItems l ++ nmPend m.f1) ([], [])) = nm at *
  simp only [go_sem, T_3, T_4, T_5, T_9, T_22, T_42, T_51, T_69, T_76, T_77, T_78, T_80, T_90, T_91, T_93, T_95, T_96, T_98, T_100, T_121, T_145, T_179, T_184, k80_enc, hc]
  refine loop_rule (ι := Nat × List S184) (S := fun p => ⟨[(5, .fz (p.2.map k184.enc)), (16, .fz (m.f0.map (Cd.int .u32).enc)), (17, .int .i64 m.f0.length), (18, .int .i64 p.1)], []⟩) (m := fun p => m.f0.length + 1 - p.1)
    (I := fun p => p.1 ≤ m.f0.length ∧ countR p.2 (m.f0.drop p.1) p.1 = countR nm m.f0 0) ?_ (0, nm) _ ⟨by simp, rfl⟩ (by kernel_rfl)
  rintro ⟨i, q⟩ ⟨hi, hg⟩
  simp only at hi hg
  by_cases hlt : i < m.f0.length
  · have hx : m.f0[i]? = some m.f0[i] := List.getElem?_eq_getElem hlt
    rw [countR_drop hlt] at hg
    have hw := wrap32_n (show i < 4294967296 by omega)
    rcases q with _ | ⟨x, r⟩
    · simp only [countR] at hg
      by_cases k1 : m.f0[i] < 0
      · rw [if_pos k1] at hg
        simp only [go_sem, T_3, T_4, T_5, T_9, T_22, T_42, T_51, T_69, T_76, T_77, T_78, T_80, T_90, T_91, T_93, T_95, T_96, T_98, T_100, T_121, T_145, T_179, T_184, all_int, hlt, hx, gt00, gt000, k1]
        rw [← hg]
      · rw [if_neg k1] at hg
        by_cases k2 : m.f0[i] > 0
        · rw [if_pos k2] at hg
          simp only [go_sem, T_3, T_4, T_5, T_9, T_22, T_42, T_51, T_69, T_76, T_77, T_78, T_80, T_90, T_91, T_93, T_95, T_96, T_98, T_100, T_121, T_145, T_179, T_184, all_int, hlt, hx, gt00, gt000, k1, k2]
          rw [← hg]
        · rw [if_neg k2] at hg
          simp only [go_sem, T_3, T_4, T_5, T_9, T_22, T_42, T_51, T_69, T_76, T_77, T_78, T_80, T_90, T_91, T_93, T_95, T_96, T_98, T_100, T_121, T_145, T_179, T_184, all_int, hlt, hx, gt00, gt000, k1, k2, wrap_i64s (show i < 1000000000000000000 by omega)]
          exact ⟨(i + 1, []), ⟨by simp only; omega, hg⟩, by simp only; omega, by kernel_rfl⟩
    · simp only [countR] at hg
      have cr : List.take (r.length + 1 - 1) (List.map k184.enc r) = List.map k184.enc r := List.take_of_length_le (by simp)
      have cr2 : ∀ y : List V, List.take (r.length + 1 - 1) (List.drop 1 (y :: List.map k184.enc r)) = List.map k184.enc r := fun y => List.take_of_length_le (by simp)
      have n0 : ∀ k : IntKind, natOf (.int k 0) = some 0 := fun _ => rfl
      have n1 : ∀ k : IntKind, natOf (.int k 1) = some 1 := fun _ => rfl
      have l1 : ∀ n : Nat, 1 ≤ n + 1 := fun n => by omega
      by_cases hk : x.f0 = (i : Int)
      · have hkb : (x.f0 == (i : Int)) = true := by simpa using hk
        rw [if_pos hk] at hg
        by_cases k1 : m.f0[i] < x.f1
        · rw [if_pos k1] at hg
          simp only [go_sem, T_3, T_4, T_5, T_9, T_22, T_42, T_51, T_69, T_76, T_77, T_78, T_80, T_90, T_91, T_93, T_95, T_96, T_98, T_100, T_121, T_145, T_179, T_184, all_int, all184, List.map_cons, k184_enc, List.length_cons, hlt, hx, gt0, hw, hkb, k1, n0, n1, l1, cr, cr2, Nat.le_refl]
          rw [← hg]
        · rw [if_neg k1] at hg
          by_cases k2 : m.f0[i] > x.f1
          · rw [if_pos k2] at hg
            simp only [go_sem, T_3, T_4, T_5, T_9, T_22, T_42, T_51, T_69, T_76, T_77, T_78, T_80, T_90, T_91, T_93, T_95, T_96, T_98, T_100, T_121, T_145, T_179, T_184, all_int, all184, List.map_cons, k184_enc, List.length_cons, hlt, hx, gt0, hw, hkb, k1, k2, n0, n1, l1, cr, cr2, Nat.le_refl]
            rw [← hg]
          · rw [if_neg k2] at hg
            simp only [go_sem, T_3, T_4, T_5, T_9, T_22, T_42, T_51, T_69, T_76, T_77, T_78, T_80, T_90, T_91, T_93, T_95, T_96, T_98, T_100, T_121, T_145, T_179, T_184, all_int, all184, List.map_cons, k184_enc, List.length_cons, hlt, hx, gt0, hw, hkb, k1, k2, n0, n1, l1, cr, cr2, Nat.le_refl, wrap_i64s (show i < 1000000000000000000 by omega)]
            exact ⟨(i + 1, r), ⟨by simp only; omega, hg⟩, by simp only; omega, by kernel_rfl⟩
      · have hkb : (x.f0 == (i : Int)) = false := by simpa using hk
        rw [if_neg hk] at hg
        by_cases k1 : m.f0[i] < 0
        · rw [if_pos k1] at hg
          simp only [go_sem, T_3, T_4, T_5, T_9, T_22, T_42, T_51, T_69, T_76, T_77, T_78, T_80, T_90, T_91, T_93, T_95, T_96, T_98, T_100, T_121, T_145, T_179, T_184, all_int, all184, List.map_cons, k184_enc, List.length_cons, hlt, hx, gt0, hw, hkb, k1, n0]
          rw [← hg]
        · rw [if_neg k1] at hg
          by_cases k2 : m.f0[i] > 0
          · rw [if_pos k2] at hg
            simp only [go_sem, T_3, T_4, T_5, T_9, T_22, T_42, T_51, T_69, T_76, T_77, T_78, T_80, T_90, T_91, T_93, T_95, T_96, T_98, T_100, T_121, T_145, T_179, T_184, all_int, all184, List.map_cons, k184_enc, List.length_cons, hlt, hx, gt0, hw, hkb, k1, k2, n0]
            rw [← hg]
          · rw [if_neg k2] at hg
            simp only [go_sem, T_3, T_4, T_5, T_9, T_22, T_42, T_51, T_69, T_76, T_77, T_78, T_80, T_90, T_91, T_93, T_95, T_96, T_98, T_100, T_121, T_145, T_179, T_184, all_int, all184, List.map_cons, k184_enc, List.length_cons, hlt, hx, gt0, hw, hkb, k1, k2, n0, wrap_i64s (show i < 1000000000000000000 by omega)]
            exact ⟨(i + 1, x :: r), ⟨by simp only; omega, hg⟩, by simp only; omega, by kernel_rfl⟩
  · rw [List.drop_eq_nil_of_le (by omega)] at hg
    rcases q with _ | ⟨x, r⟩
    · simp only [countR] at hg
      simp only [go_sem, T_3, T_4, T_5, T_9, T_22, T_42, T_51, T_69, T_76, T_77, T_78, T_80, T_90, T_91, T_93, T_95, T_96, T_98, T_100, T_121, T_145, T_179, T_184, hlt, gt00, gt000]
      rw [← hg]
      rfl
    · simp only [countR] at hg
      simp only [go_sem, T_3, T_4, T_5, T_9, T_22, T_42, T_51, T_69, T_76, T_77, T_78, T_80, T_90, T_91, T_93, T_95, T_96, T_98, T_100, T_121, T_145, T_179, T_184, List.map_cons, List.length_cons, hlt, gt0]
      rw [← hg]
      rfl

def heldR : List S95 → List Int → Nat → Bool
  | r, [], _ => r.isEmpty
  | [], n :: cs, b => if n > 0 then false else heldR [] cs (b + 1)
  | x :: r, n :: cs, b => if x.f0 = b then (if n > 0 then heldR r cs (b + 1) else false) else (if n > 0 then false else heldR (x :: r) cs (b + 1))
theorem heldR_drop {r : List S95} {cs : List Int} {b : Nat} (h : b < cs.length) : heldR r (cs.drop b) b = heldR r (cs[b] :: cs.drop (b + 1)) b := by rw [List.drop_eq_getElem_cons h]
theorem lim115 (l : List S95) (m : S80) (hl : l.length < 1000000000000) (h0 : m.f0.length < 1000000000) : lim T fns 115 [.fz (l.map k95.enc), .agg (k80.enc m)] [] = some (.bool (heldR l m.f0 0), []) := by
  refine fn_rule (fn := fn115) rfl rfl (by simp [fn115]) ?_
  unfold fn115
  simp only [Try.f115, Option.getD_some, argEnv, List.map_nil, List.length_nil]
  simp only [go_sem, T_3, T_4, T_5, T_9, T_22, T_42, T_51, T_69, T_76, T_77, T_78, T_80, T_90, T_91, T_93, T_95, T_96, T_98, T_100, T_121, T_145, T_179, T_184, k80_enc]
  refine loop_rule (ι := Nat × Nat) (S := fun p => ⟨[(0, .fz (l.map k95.enc)), (5, .int .i64 p.2), (10, .fz (m.f0.map (Cd.int .u32).enc)), (11, .int .i64 m.f0.length), (12, .int .i64 p.1)], []⟩) (m := fun p => m.f0.length + 1 - p.1)
    (I := fun p => p.1 ≤ m.f0.length ∧ p.2 ≤ l.length ∧ heldR (l.drop p.2) (m.f0.drop p.1) p.1 = heldR l m.f0 0) ?_ (0, 0) _ ⟨by simp, by simp, rfl⟩ (by kernel_rfl)
  rintro ⟨i, j⟩ ⟨hi, hj, hg⟩
  simp only at hi hj hg
  by_cases hlt : i < m.f0.length
  · have hx : m.f0[i]? = some m.f0[i] := List.getElem?_eq_getElem hlt
    rw [heldR_drop hlt] at hg
    have hw := wrap32_n (show i < 4294967296 by omega)
    by_cases hjl : j < l.length
    · have hy : l[j]? = some l[j] := List.getElem?_eq_getElem hjl
      rw [List.drop_eq_getElem_cons hjl] at hg
      simp only [heldR] at hg
      by_cases hk : l[j].f0 = (i : Int)
      · have hkb : (l[j].f0 == (i : Int)) = true := by simpa using hk
        rw [if_pos hk] at hg
        by_cases k2 : m.f0[i] > 0
        · rw [if_pos k2] at hg
          simp only [go_sem, T_3, T_4, T_5, T_9, T_22, T_42, T_51, T_69, T_76, T_77, T_78, T_80, T_90, T_91, T_93, T_95, T_96, T_98, T_100, T_121, T_145, T_179, T_184, all_int, all95, k95_enc, hlt, hx, hjl, hy, hw, hkb, k2, wrap_i64s (show i < 1000000000000000000 by omega), wrap_i64s (show j < 1000000000000000000 by omega)]
          exact ⟨(i + 1, j + 1), ⟨by simp only; omega, by simp only; omega, hg⟩, by simp only; omega, by kernel_rfl⟩
        · rw [if_neg k2] at hg
          simp only [go_sem, T_3, T_4, T_5, T_9, T_22, T_42, T_51, T_69, T_76, T_77, T_78, T_80, T_90, T_91, T_93, T_95, T_96, T_98, T_100, T_121, T_145, T_179, T_184, all_int, all95, k95_enc, hlt, hx, hjl, hy, hw, hkb, k2]
          rw [← hg]
      · have hkb : (l[j].f0 == (i : Int)) = false := by simpa using hk
        rw [if_neg hk] at hg
        by_cases k2 : m.f0[i] > 0
        · rw [if_pos k2] at hg
          simp only [go_sem, T_3, T_4, T_5, T_9, T_22, T_42, T_51, T_69, T_76, T_77, T_78, T_80, T_90, T_91, T_93, T_95, T_96, T_98, T_100, T_121, T_145, T_179, T_184, all_int, all95, k95_enc, hlt, hx, hjl, hy, hw, hkb, k2]
          rw [← hg]
        · rw [if_neg k2] at hg
          simp only [go_sem, T_3, T_4, T_5, T_9, T_22, T_42, T_51, T_69, T_76, T_77, T_78, T_80, T_90, T_91, T_93, T_95, T_96, T_98, T_100, T_121, T_145, T_179, T_184, all_int, all95, k95_enc, hlt, hx, hjl, hy, hw, hkb, k2, wrap_i64s (show i < 1000000000000000000 by omega)]
          exact ⟨(i + 1, j), ⟨by simp only; omega, by simp only; omega, by simp only; rw [List.drop_eq_getElem_cons hjl]; exact hg⟩, by simp only; omega, by kernel_rfl⟩
    · rw [List.drop_eq_nil_of_le (by omega)] at hg
      simp only [heldR] at hg
      by_cases k2 : m.f0[i] > 0
      · rw [if_pos k2] at hg
        simp only [go_sem, T_3, T_4, T_5, T_9, T_22, T_42, T_51, T_69, T_76, T_77, T_78, T_80, T_90, T_91, T_93, T_95, T_96, T_98, T_100, T_121, T_145, T_179, T_184, all_int, hlt, hx, hjl, k2]
        rw [← hg]
      · rw [if_neg k2] at hg
        simp only [go_sem, T_3, T_4, T_5, T_9, T_22, T_42, T_51, T_69, T_76, T_77, T_78, T_80, T_90, T_91, T_93, T_95, T_96, T_98, T_100, T_121, T_145, T_179, T_184, all_int, hlt, hx, hjl, k2, wrap_i64s (show i < 1000000000000000000 by omega)]
        exact ⟨(i + 1, j), ⟨by simp only; omega, by simp only; omega, by simp only; rw [List.drop_eq_nil_of_le (show l.length ≤ j by omega)]; exact hg⟩, by simp only; omega, by kernel_rfl⟩
  · rw [List.drop_eq_nil_of_le (show m.f0.length ≤ i by omega)] at hg
    have he : (((j : Nat) : Int) == ((l.length : Nat) : Int)) = heldR l m.f0 0 := by
      rw [← hg]
      by_cases hjl : j < l.length
      · rw [List.drop_eq_getElem_cons hjl]
        simp only [heldR, List.isEmpty_cons, beq_eq_false_iff_ne]
        omega
      · rw [List.drop_eq_nil_of_le (by omega)]
        simp only [heldR, List.isEmpty_nil, beq_iff_eq]
        omega
    simp only [go_sem, T_3, T_4, T_5, T_9, T_22, T_42, T_51, T_69, T_76, T_77, T_78, T_80, T_90, T_91, T_93, T_95, T_96, T_98, T_100, T_121, T_145, T_179, T_184, hlt, he]
end Go.Proofs.Ytfdemnefkfkghaa.R
/- Chapter 27's laws: too great? the document's Check; audit.Check. -/
namespace Go.Proofs.Ytfdemnefkfkghaa.R
open Go Go.Proofs
set_option linter.unusedSimpArgs false
set_option linter.unusedVariables false
set_option maxRecDepth 10000
set_option maxHeartbeats 4000000

def greatV (l : List S179) : Bool := decide (60 < l.length) || l.any fun v => decide (100 < v.f0.size)
theorem lim168 (l : List S179) : lim T fns 168 [.fz (l.map k179.enc)] [] = some (.bool (greatV l), []) := by
  refine fn_rule (fn := fn168) rfl rfl (by simp [fn168]) ?_
  unfold fn168
  simp only [Try.f168, Option.getD_some, argEnv, List.map_nil, List.length_nil]
  simp only [go_sem, T_3, T_9, T_42, T_78, T_96, T_179]
  split
  · rename_i h0
    have : 60 < l.length := by omega
    simp [greatV, this]
  · rename_i h0
    have h60 : ¬ 60 < l.length := by omega
    refine loop_rule (ι := Nat) (S := fun i => ⟨[(0, .fz (l.map k179.enc)), (8, .int .i64 l.length), (9, .int .i64 i)], []⟩) (m := fun i => l.length + 1 - i)
      (I := fun i => i ≤ l.length ∧ ((l.drop i).any fun v => decide (100 < v.f0.size)) = greatV l) ?_ 0 _ ⟨by omega, by simp [greatV, h60]⟩ (by kernel_rfl)
    rintro i ⟨hi, hg⟩
    by_cases hlt : i < l.length
    · have hx : l[i]? = some l[i] := List.getElem?_eq_getElem hlt
      rw [any_drop hlt] at hg
      by_cases h1 : 100 < l[i].f0.size
      · have e1 : decide ((l[i].f0.size : Int) > 100) = true := by simp; omega
        have e1' : (l[i].f0.size : Int) > 100 := by omega
        simp only [go_sem, T_3, T_9, T_42, T_78, T_96, T_179, all179, hlt, hx, k179_enc, e1, e1', wrap_i64s (show i < 1000000000000000000 by omega)]
        simpa [h1] using hg
      · have e1 : decide ((l[i].f0.size : Int) > 100) = false := by simp; omega
        have e1' : ¬ (l[i].f0.size : Int) > 100 := by omega
        simp only [go_sem, T_3, T_9, T_42, T_78, T_96, T_179, all179, hlt, hx, k179_enc, e1, e1', wrap_i64s (show i < 1000000000000000000 by omega)]
        exact ⟨i + 1, ⟨by omega, by simpa [h1] using hg⟩, by simp only; omega, by kernel_rfl⟩
    · rw [List.drop_eq_nil_of_le (by omega)] at hg
      simp only [go_sem, T_3, T_9, T_42, T_78, T_96, T_179, hlt]
      rw [← hg]
      rfl
theorem call168 (l : List S179) (n : Nat) : callV (LX T fns) n (.clo 168 []) [.fz (l.map k179.enc)] = .pure (.bool (greatV l), []) := callV_plain (fn := fn168) rfl rfl rfl (lim168 l) n
def greatM (m : S80) : Bool := decide (300 < m.f0.length) || (decide (300 < m.f1.length) || greatV m.f2)
theorem lim111 (m : S80) : lim T fns 111 [.agg (k80.enc m)] [] = some (.bool (greatM m), []) := by
  refine fn_rule (fn := fn111) rfl rfl (by simp [fn111]) ?_
  unfold fn111
  simp only [Try.f111, Option.getD_some, argEnv, List.map_nil, List.length_nil]
  unfold greatM
  by_cases h1 : 300 < m.f0.length
  · have e1 : (m.f0.length : Int) > 300 := by omega
    simp only [go_sem, T_3, T_9, T_42, T_76, T_77, T_78, T_80, T_96, T_179, T_184, k80_enc, e1]
    simp [h1]
  · have e1 : ¬ (m.f0.length : Int) > 300 := by omega
    by_cases h2 : 300 < m.f1.length
    · have e2 : (m.f1.length : Int) > 300 := by omega
      simp only [go_sem, T_3, T_9, T_42, T_76, T_77, T_78, T_80, T_96, T_179, T_184, k80_enc, e1, e2]
      simp [h2]
    · have e2 : ¬ (m.f1.length : Int) > 300 := by omega
      simp only [go_sem, T_3, T_9, T_42, T_76, T_77, T_78, T_80, T_96, T_179, T_184, k80_enc, e1, e2, call168]
      simp [h1, h2]
theorem call111 (m : S80) (n : Nat) : callV (LX T fns) n (.clo 111 []) [.agg (k80.enc m)] = .pure (.bool (greatM m), []) := callV_plain (fn := fn111) rfl rfl rfl (lim111 m) n
theorem lim50 (l : List S95) (m : S80) : lim T fns 50 [.fz (l.map k95.enc), .agg (k80.enc m)] [] = some (.bool (greatL l || greatM m), []) := by
  refine fn_rule (fn := fn50) rfl rfl (by simp [fn50]) ?_
  unfold fn50
  simp only [Try.f50, Option.getD_some, argEnv, List.map_nil, List.length_nil]
  have hm := call111 m
  simp only [k80_enc] at hm ⊢
  cases h1 : greatL l with
  | true => simp only [go_sem, T_4, T_5, T_9, T_22, T_42, T_51, T_69, T_76, T_77, T_78, T_80, T_90, T_91, T_93, T_95, T_96, T_98, T_100, T_121, T_145, T_179, T_184, call14 l, h1]
  | false => simp only [go_sem, T_4, T_5, T_9, T_22, T_42, T_51, T_69, T_76, T_77, T_78, T_80, T_90, T_91, T_93, T_95, T_96, T_98, T_100, T_121, T_145, T_179, T_184, call14 l, h1, hm]
theorem call50 (l : List S95) (m : S80) (n : Nat) : callV (LX T fns) n (.clo 50 []) [.fz (l.map k95.enc), .agg (k80.enc m)] = .pure (.bool (greatL l || greatM m), []) := callV_plain (fn := fn50) rfl rfl rfl (lim50 l m) n
theorem lim51 : lim T fns 51 [] [] = some (.bool true, []) := acall_lim (R := 40) (d := 14) (by kernel_rfl)
theorem call51 (n : Nat) : callV (LX T fns) n (.clo 51 []) [] = .pure (.bool true, []) := callV_plain (fn := fn51) rfl rfl rfl lim51 n

/-- What audit.Check answers. -/
def progCheck (l : List S95) (m : S80) : Int := if rightM (depsL l) none l = false then 3 else if m.f2.all (rootB l) = false then 11 else
  if countR (refsU (addsU (nmRoots m.f2 ++ nmItems l ++ nmPend m.f1) ([], []))) m.f0 0 ≠ 0 then countR (refsU (addsU (nmRoots m.f2 ++ nmItems l ++ nmPend m.f1) ([], []))) m.f0 0 else if heldR l m.f0 0 = false then 1 else 0
theorem lim52 (l : List S95) (m : S80) (hl : fewL l) (hw : wfL l) (h0 : m.f0.length < 1000000000) (h1 : m.f2.length < 100000000) (h2 : (nmItems l).length < 100000000) (h3 : m.f1.length < 100000000) (hp : ∀ x ∈ m.f1, u32B x.f1) : lim T fns 52 [.fz (l.map k95.enc), .agg (k80.enc m)] [] = some (.int .i64 (progCheck l m), []) := by
  have c1 := fun n => callV_plain (T := T) (fns := fns) (g := 112) (fn := fn112) rfl (args := [.fz (l.map k95.enc)]) (caps := []) rfl rfl (lim112 l hl hw) n
  have c2 := fun n => callV_plain (T := T) (fns := fns) (g := 113) (fn := fn113) rfl (args := [.fz (l.map k95.enc), .agg (k80.enc m)]) (caps := []) rfl rfl (lim113 l m hl hw (by omega)) n
  have c3 := fun n => callV_plain (T := T) (fns := fns) (g := 114) (fn := fn114) rfl (args := [.fz (l.map k95.enc), .agg (k80.enc m)]) (caps := []) rfl rfl (lim114 l m hl h0 h1 h2 h3 hp) n
  have c4 := fun n => callV_plain (T := T) (fns := fns) (g := 115) (fn := fn115) rfl (args := [.fz (l.map k95.enc), .agg (k80.enc m)]) (caps := []) rfl rfl (lim115 l m hl.1 h0) n
  unfold progCheck
  generalize countR (refsU (addsU (nmRoots m.f2 ++ nmItems l ++ nmPend m.f1) ([], []))) m.f0 0 = e at *
  simp only [k80_enc] at c2 c3 c4
  refine fn_rule (fn := fn52) rfl rfl (by simp [fn52]) ?_
  unfold fn52
  simp only [Try.f52, Option.getD_some, argEnv, List.map_nil, List.length_nil]
  simp only [k80_enc]
  cases r1 : rightM (depsL l) none l with
  | false =>
    rw [r1] at c1
    simp only [go_sem, T_4, T_5, T_9, T_22, T_25, T_42, T_51, T_69, T_76, T_77, T_78, T_80, T_90, T_91, T_93, T_95, T_96, T_98, T_100, T_121, T_145, T_179, T_184, c1]
  | true =>
    rw [r1] at c1
    cases r2 : m.f2.all (rootB l) with
    | false =>
      rw [r2] at c2
      simp only [go_sem, T_4, T_5, T_9, T_22, T_25, T_42, T_51, T_69, T_76, T_77, T_78, T_80, T_90, T_91, T_93, T_95, T_96, T_98, T_100, T_121, T_145, T_179, T_184, c1, c2, Bool.true_eq_false]
    | true =>
      rw [r2] at c2
      by_cases r3 : e = 0
      · subst r3
        cases r4 : heldR l m.f0 0 with
        | false =>
          rw [r4] at c4
          simp only [go_sem, T_4, T_5, T_9, T_22, T_25, T_42, T_51, T_69, T_76, T_77, T_78, T_80, T_90, T_91, T_93, T_95, T_96, T_98, T_100, T_121, T_145, T_179, T_184, c1, c2, c3, c4, Bool.true_eq_false, not_true_eq_false, show ((0 : Int) != 0) = false from rfl]
        | true =>
          rw [r4] at c4
          simp only [go_sem, T_4, T_5, T_9, T_22, T_25, T_42, T_51, T_69, T_76, T_77, T_78, T_80, T_90, T_91, T_93, T_95, T_96, T_98, T_100, T_121, T_145, T_179, T_184, c1, c2, c3, c4, Bool.true_eq_false, not_true_eq_false, show ((0 : Int) != 0) = false from rfl]
      · have r3b : (e != 0) = true := by simpa using r3
        simp only [go_sem, T_4, T_5, T_9, T_22, T_25, T_42, T_51, T_69, T_76, T_77, T_78, T_80, T_90, T_91, T_93, T_95, T_96, T_98, T_100, T_121, T_145, T_179, T_184, c1, c2, c3, r3b, r3, Bool.true_eq_false]
theorem call52 (l : List S95) (m : S80) (hl : fewL l) (hw : wfL l) (h0 : m.f0.length < 1000000000) (h1 : m.f2.length < 100000000) (h2 : (nmItems l).length < 100000000) (h3 : m.f1.length < 100000000) (hp : ∀ x ∈ m.f1, u32B x.f1) (n : Nat) : callV (LX T fns) n (.clo 52 []) [.fz (l.map k95.enc), .agg (k80.enc m)] = .pure (.int .i64 (progCheck l m), []) := callV_plain (fn := fn52) rfl rfl rfl (lim52 l m hl hw h0 h1 h2 h3 hp) n
end Go.Proofs.Ytfdemnefkfkghaa.R
/- Chapter 27's laws: the document's Check. -/
namespace Go.Proofs.Ytfdemnefkfkghaa.R
open Go Go.Proofs
set_option linter.unusedSimpArgs false
set_option linter.unusedVariables false
set_option maxRecDepth 10000
set_option maxHeartbeats 4000000

def cmpR (all : List S184) : List Int → Nat → Int
  | [], _ => 0
  | n :: r, b => if n < nameR b all then 2 else if n > nameR b all then 13 else cmpR all r (b + 1)
def itemR (l : List S95) : List Int → Nat → Bool
  | [], _ => true
  | n :: r, b => ((find b l).isSome == decide (n > 0)) && itemR l r (b + 1)
def refCheck (l : List S95) (m : S80) : Int := if rightB l none l = false then 3 else if m.f2.all (rootB l) = false then 11 else
  if cmpR (addsR (nmRoots m.f2 ++ nmItems l ++ nmPend m.f1) []) m.f0 0 ≠ 0 then cmpR (addsR (nmRoots m.f2 ++ nmItems l ++ nmPend m.f1) []) m.f0 0 else
  if ((addsR (nmRoots m.f2 ++ nmItems l ++ nmPend m.f1) []).any fun x => decide (x.f0 ≥ m.f0.length)) = true then 2 else if itemR l m.f0 0 = false then 1 else if (l.any fun x => decide (x.f0 ≥ m.f0.length)) = true then 1 else 0
theorem cmpR_drop {all : List S184} {cs : List Int} {b : Nat} (h : b < cs.length) : cmpR all (cs.drop b) b = if cs[b] < nameR b all then 2 else if cs[b] > nameR b all then 13 else cmpR all (cs.drop (b + 1)) (b + 1) := by
  rw [List.drop_eq_getElem_cons h]
  rfl
theorem itemR_drop {l : List S95} {cs : List Int} {b : Nat} (h : b < cs.length) : itemR l (cs.drop b) b = (((find b l).isSome == decide (cs[b] > 0)) && itemR l (cs.drop (b + 1)) (b + 1)) := by
  rw [List.drop_eq_getElem_cons h]
  rfl
theorem lim53 (l : List S95) (m : S80) (hl : fewL l) (hw : wfL l) (h0 : m.f0.length < 1000000000) (h1 : m.f2.length < 100000000) (h2 : (nmItems l).length < 100000000) (h3 : m.f1.length < 100000000) (hp : ∀ x ∈ m.f1, u32B x.f1)
    (hk : ∀ x ∈ addsR (nmRoots m.f2 ++ nmItems l ++ nmPend m.f1) [], u32B x.f0) (hkl : ∀ x ∈ l, u32B x.f0) : lim T fns 53 [.fz (l.map k95.enc), .agg (k80.enc m)] [] = some (.int .i64 (refCheck l m), []) := by
  have c1 := call19 l hl hw
  have c3 := fun n => call117 l m.f2 m.f1 hl h1 h2 h3 hp n
  have hal := addsR_len (l := nmRoots m.f2 ++ nmItems l ++ nmPend m.f1) (acc := [])
  have hal2 : (nmRoots m.f2 ++ nmItems l ++ nmPend m.f1).length = m.f2.length + (nmItems l).length + m.f1.length := by simp [nmRoots, nmPend, Nat.add_assoc]
  rw [hal2, List.length_nil] at hal
  unfold refCheck
  generalize addsR (nmRoots m.f2 ++ nmItems l ++ nmPend m.f1) [] = all at *
  have hl1 := hl.1
  refine fn_rule (fn := fn53) rfl rfl (by simp [fn53]) ?_
  unfold fn53
  simp only [Try.f53, Option.getD_some, argEnv, List.map_nil, List.length_nil]
  simp only [k80_enc]
  cases r1 : rightB l none l with
  | false =>
    rw [r1] at c1
    simp only [go_sem, T_3, T_4, T_5, T_9, T_22, T_42, T_51, T_69, T_76, T_77, T_78, T_80, T_90, T_91, T_93, T_95, T_96, T_98, T_100, T_121, T_130, T_145, T_179, T_184, c1]
  | true =>
  rw [r1] at c1
  simp only [go_sem, T_3, T_4, T_5, T_9, T_22, T_42, T_51, T_69, T_76, T_77, T_78, T_80, T_90, T_91, T_93, T_95, T_96, T_98, T_100, T_121, T_130, T_145, T_179, T_184, c1, Bool.true_eq_false]
  refine loop_rule (ι := Nat) (S := fun i => ⟨[(0, .fz (l.map k95.enc)), (3, .ptr 0 0 0), (19, .int .i64 m.f2.length), (20, .int .i64 i)], [some (.buf 3 [[.fz (m.f0.map (Cd.int .u32).enc), .fz (m.f1.map k184.enc), .fz (m.f2.map k179.enc)]] false true)]⟩) (m := fun i => m.f2.length + 1 - i)
    (I := fun i => i ≤ m.f2.length ∧ (m.f2.drop i).all (rootB l) = m.f2.all (rootB l)) ?_ 0 _ ⟨by omega, rfl⟩ (by kernel_rfl)
  rintro i ⟨hi, hg⟩
  by_cases hlt : i < m.f2.length
  · have hx : m.f2[i]? = some m.f2[i] := List.getElem?_eq_getElem hlt
    rw [all_drop hlt] at hg
    have hc := call68 l m.f2[i].f1 hl
    cases hf : find m.f2[i].f1 l with
    | none =>
      have hroot : rootB l m.f2[i] = false := by unfold rootB; rw [hf]
      rw [hroot, Bool.false_and] at hg
      rw [hf] at hc
      simp only [Option.getD_none, Option.isSome_none, k93_enc] at hc
      simp only [go_sem, T_3, T_4, T_5, T_9, T_22, T_42, T_51, T_69, T_76, T_77, T_78, T_80, T_90, T_91, T_93, T_95, T_96, T_98, T_100, T_121, T_130, T_145, T_179, T_184, all179, hlt, hx, k179_enc, hc]
      repeat (refine ⟨by kernel_rfl, ?_⟩)
      rw [← hg]
      rfl
    | some n =>
      have hroot : rootB l m.f2[i] = decide (deepN n = m.f2[i].f2) := by unfold rootB; rw [hf]
      rw [hroot] at hg
      rw [hf] at hc
      simp only [Option.getD_some, Option.isSome_some, k93_enc] at hc
      have hd := call116 n (few_find hl hf) (wf_find hw hf)
      simp only [k93_enc] at hd
      by_cases hkk : deepN n = m.f2[i].f2
      · have hkb : (deepN n != m.f2[i].f2) = false := by simpa using hkk
        rw [decide_eq_true hkk, Bool.true_and] at hg
        simp only [go_sem, T_3, T_4, T_5, T_9, T_22, T_42, T_51, T_69, T_76, T_77, T_78, T_80, T_90, T_91, T_93, T_95, T_96, T_98, T_100, T_121, T_130, T_145, T_179, T_184, all179, hlt, hx, k179_enc, hc, hd, hkb, wrap_i64s (show i < 1000000000000000000 by omega)]
        repeat (refine ⟨by kernel_rfl, ?_⟩)
        exact ⟨i + 1, ⟨by omega, hg⟩, by simp only; omega, by kernel_rfl⟩
      · have hkb : (deepN n != m.f2[i].f2) = true := by simpa using hkk
        rw [decide_eq_false hkk, Bool.false_and] at hg
        simp only [go_sem, T_3, T_4, T_5, T_9, T_22, T_42, T_51, T_69, T_76, T_77, T_78, T_80, T_90, T_91, T_93, T_95, T_96, T_98, T_100, T_121, T_130, T_145, T_179, T_184, all179, hlt, hx, k179_enc, hc, hd, hkb]
        repeat (refine ⟨by kernel_rfl, ?_⟩)
        rw [← hg]
        rfl
  rw [List.drop_eq_nil_of_le (by omega)] at hg
  have r2 : m.f2.all (rootB l) = true := hg.symm
  simp only [r2, Bool.true_eq_false, if_false]
  simp only [go_sem, T_3, T_4, T_5, T_9, T_22, T_42, T_51, T_69, T_76, T_77, T_78, T_80, T_90, T_91, T_93, T_95, T_96, T_98, T_100, T_121, T_130, T_145, T_179, T_184, hlt, c3]
  clear hlt hi hg
  refine loop_rule (ι := Nat) (S := fun i => ⟨[(0, .fz (l.map k95.enc)), (3, .ptr 0 0 0), (8, .fz (all.map k184.enc)), (56, .int .i64 m.f0.length), (57, .int .i64 i)], [some (.buf 3 [[.fz (m.f0.map (Cd.int .u32).enc), .fz (m.f1.map k184.enc), .fz (m.f2.map k179.enc)]] false true)]⟩) (m := fun i => m.f0.length + 1 - i)
    (I := fun i => i ≤ m.f0.length ∧ cmpR all (m.f0.drop i) i = cmpR all m.f0 0) ?_ 0 _ ⟨by omega, rfl⟩ (by kernel_rfl)
  rintro i ⟨hi, hg⟩
  by_cases hlt : i < m.f0.length
  · have hx : m.f0[i]? = some m.f0[i] := List.getElem?_eq_getElem hlt
    rw [cmpR_drop hlt] at hg
    have hw2 := wrap32_n (show i < 4294967296 by omega)
    have hc := call118 all i (by omega)
    by_cases k1 : m.f0[i] < nameR i all
    · rw [if_pos k1] at hg
      simp only [go_sem, T_3, T_4, T_5, T_9, T_22, T_42, T_51, T_69, T_76, T_77, T_78, T_80, T_90, T_91, T_93, T_95, T_96, T_98, T_100, T_121, T_130, T_145, T_179, T_184, all_int, hlt, hx, hw2, hc, k1]
      rw [← hg]
      rfl
    · rw [if_neg k1] at hg
      by_cases k2 : m.f0[i] > nameR i all
      · rw [if_pos k2] at hg
        simp only [go_sem, T_3, T_4, T_5, T_9, T_22, T_42, T_51, T_69, T_76, T_77, T_78, T_80, T_90, T_91, T_93, T_95, T_96, T_98, T_100, T_121, T_130, T_145, T_179, T_184, all_int, hlt, hx, hw2, hc, k1, k2]
        rw [← hg]
        rfl
      · rw [if_neg k2] at hg
        simp only [go_sem, T_3, T_4, T_5, T_9, T_22, T_42, T_51, T_69, T_76, T_77, T_78, T_80, T_90, T_91, T_93, T_95, T_96, T_98, T_100, T_121, T_130, T_145, T_179, T_184, all_int, hlt, hx, hw2, hc, k1, k2, wrap_i64s (show i < 1000000000000000000 by omega)]
        exact ⟨i + 1, ⟨by omega, hg⟩, by simp only; omega, by kernel_rfl⟩
  rw [List.drop_eq_nil_of_le (by omega)] at hg
  have r3 : cmpR all m.f0 0 = 0 := hg.symm
  simp only [r3, ne_eq, not_true_eq_false, if_false]
  simp only [go_sem, T_3, T_4, T_5, T_9, T_22, T_42, T_51, T_69, T_76, T_77, T_78, T_80, T_90, T_91, T_93, T_95, T_96, T_98, T_100, T_121, T_130, T_145, T_179, T_184, hlt]
  clear hlt hi hg
  refine loop_rule (ι := Nat) (S := fun i => ⟨[(0, .fz (l.map k95.enc)), (3, .ptr 0 0 0), (8, .fz (all.map k184.enc)), (80, .int .i64 all.length), (81, .int .i64 i)], [some (.buf 3 [[.fz (m.f0.map (Cd.int .u32).enc), .fz (m.f1.map k184.enc), .fz (m.f2.map k179.enc)]] false true)]⟩) (m := fun i => all.length + 1 - i)
    (I := fun i => i ≤ all.length ∧ ((all.drop i).any fun x => decide (x.f0 ≥ m.f0.length)) = all.any fun x => decide (x.f0 ≥ m.f0.length)) ?_ 0 _ ⟨by omega, rfl⟩ (by kernel_rfl)
  rintro i ⟨hi, hg⟩
  by_cases hlt : i < all.length
  · have hx : all[i]? = some all[i] := List.getElem?_eq_getElem hlt
    rw [any_drop hlt] at hg
    have hb := hk all[i] (List.getElem_mem hlt)
    unfold u32B at hb
    have w1 := wrap64_u (x := all[i].f0) (by omega) (by omega)
    have w2 := wrap64_u (x := (m.f0.length : Int)) (by omega) (by omega)
    by_cases k1 : all[i].f0 ≥ (m.f0.length : Int)
    · rw [decide_eq_true k1, Bool.true_or] at hg
      simp only [go_sem, T_3, T_4, T_5, T_9, T_22, T_42, T_51, T_69, T_76, T_77, T_78, T_80, T_90, T_91, T_93, T_95, T_96, T_98, T_100, T_121, T_130, T_145, T_179, T_184, all184, hlt, hx, k184_enc, w1, w2, k1]
      repeat (refine ⟨by kernel_rfl, ?_⟩)
      rw [← hg]
      rfl
    · rw [decide_eq_false k1, Bool.false_or] at hg
      simp only [go_sem, T_3, T_4, T_5, T_9, T_22, T_42, T_51, T_69, T_76, T_77, T_78, T_80, T_90, T_91, T_93, T_95, T_96, T_98, T_100, T_121, T_130, T_145, T_179, T_184, all184, hlt, hx, k184_enc, w1, w2, k1, wrap_i64s (show i < 1000000000000000000 by omega)]
      repeat (refine ⟨by kernel_rfl, ?_⟩)
      exact ⟨i + 1, ⟨by omega, hg⟩, by simp only; omega, by kernel_rfl⟩
  rw [List.drop_eq_nil_of_le (by omega)] at hg
  have r4 : (all.any fun x => decide (x.f0 ≥ m.f0.length)) = false := hg.symm
  simp only [r4, Bool.false_eq_true, if_false]
  simp only [go_sem, T_3, T_4, T_5, T_9, T_22, T_42, T_51, T_69, T_76, T_77, T_78, T_80, T_90, T_91, T_93, T_95, T_96, T_98, T_100, T_121, T_130, T_145, T_179, T_184, hlt]
  clear hlt hi hg
  refine loop_rule (ι := Nat) (S := fun i => ⟨[(0, .fz (l.map k95.enc)), (3, .ptr 0 0 0), (98, .int .i64 m.f0.length), (99, .int .i64 i)], [some (.buf 3 [[.fz (m.f0.map (Cd.int .u32).enc), .fz (m.f1.map k184.enc), .fz (m.f2.map k179.enc)]] false true)]⟩) (m := fun i => m.f0.length + 1 - i)
    (I := fun i => i ≤ m.f0.length ∧ itemR l (m.f0.drop i) i = itemR l m.f0 0) ?_ 0 _ ⟨by omega, rfl⟩ (by kernel_rfl)
  rintro i ⟨hi, hg⟩
  by_cases hlt : i < m.f0.length
  · have hx : m.f0[i]? = some m.f0[i] := List.getElem?_eq_getElem hlt
    rw [itemR_drop hlt] at hg
    have hw2 := wrap32_n (show i < 4294967296 by omega)
    have hc := call119 l i hl
    generalize (find (i : Int) l).isSome = s at *
    by_cases k2 : m.f0[i] > 0
    · rw [decide_eq_true k2] at hg
      cases s with
      | true =>
        simp only [go_sem, T_3, T_4, T_5, T_9, T_22, T_42, T_51, T_69, T_76, T_77, T_78, T_80, T_90, T_91, T_93, T_95, T_96, T_98, T_100, T_121, T_130, T_145, T_179, T_184, all_int, hlt, hx, hw2, hc, k2, wrap_i64s (show i < 1000000000000000000 by omega)]
        repeat (refine ⟨by kernel_rfl, ?_⟩)
        exact ⟨i + 1, ⟨by omega, by simpa using hg⟩, by simp only; omega, by kernel_rfl⟩
      | false =>
        simp only [go_sem, T_3, T_4, T_5, T_9, T_22, T_42, T_51, T_69, T_76, T_77, T_78, T_80, T_90, T_91, T_93, T_95, T_96, T_98, T_100, T_121, T_130, T_145, T_179, T_184, all_int, hlt, hx, hw2, hc, k2]
        repeat (refine ⟨by kernel_rfl, ?_⟩)
        rw [← hg]
        rfl
    · rw [decide_eq_false k2] at hg
      cases s with
      | true =>
        simp only [go_sem, T_3, T_4, T_5, T_9, T_22, T_42, T_51, T_69, T_76, T_77, T_78, T_80, T_90, T_91, T_93, T_95, T_96, T_98, T_100, T_121, T_130, T_145, T_179, T_184, all_int, hlt, hx, hw2, hc, k2]
        repeat (refine ⟨by kernel_rfl, ?_⟩)
        rw [← hg]
        rfl
      | false =>
        simp only [go_sem, T_3, T_4, T_5, T_9, T_22, T_42, T_51, T_69, T_76, T_77, T_78, T_80, T_90, T_91, T_93, T_95, T_96, T_98, T_100, T_121, T_130, T_145, T_179, T_184, all_int, hlt, hx, hw2, hc, k2, wrap_i64s (show i < 1000000000000000000 by omega)]
        repeat (refine ⟨by kernel_rfl, ?_⟩)
        exact ⟨i + 1, ⟨by omega, by simpa using hg⟩, by simp only; omega, by kernel_rfl⟩
  rw [List.drop_eq_nil_of_le (by omega)] at hg
  have r5 : itemR l m.f0 0 = true := hg.symm
  simp only [r5, Bool.true_eq_false, if_false]
  simp only [go_sem, T_3, T_4, T_5, T_9, T_22, T_42, T_51, T_69, T_76, T_77, T_78, T_80, T_90, T_91, T_93, T_95, T_96, T_98, T_100, T_121, T_130, T_145, T_179, T_184, hlt]
  clear hlt hi hg
  refine loop_rule (ι := Nat) (S := fun i => ⟨[(0, .fz (l.map k95.enc)), (3, .ptr 0 0 0), (115, .int .i64 l.length), (116, .int .i64 i)], [some (.buf 3 [[.fz (m.f0.map (Cd.int .u32).enc), .fz (m.f1.map k184.enc), .fz (m.f2.map k179.enc)]] false true)]⟩) (m := fun i => l.length + 1 - i)
    (I := fun i => i ≤ l.length ∧ ((l.drop i).any fun x => decide (x.f0 ≥ m.f0.length)) = l.any fun x => decide (x.f0 ≥ m.f0.length)) ?_ 0 _ ⟨by omega, rfl⟩ (by kernel_rfl)
  rintro i ⟨hi, hg⟩
  by_cases hlt : i < l.length
  · have hx : l[i]? = some l[i] := List.getElem?_eq_getElem hlt
    rw [any_drop hlt] at hg
    have hb := hkl l[i] (List.getElem_mem hlt)
    unfold u32B at hb
    have w1 := wrap64_u (x := l[i].f0) (by omega) (by omega)
    have w2 := wrap64_u (x := (m.f0.length : Int)) (by omega) (by omega)
    by_cases k1 : l[i].f0 ≥ (m.f0.length : Int)
    · rw [decide_eq_true k1, Bool.true_or] at hg
      simp only [go_sem, T_3, T_4, T_5, T_9, T_22, T_42, T_51, T_69, T_76, T_77, T_78, T_80, T_90, T_91, T_93, T_95, T_96, T_98, T_100, T_121, T_130, T_145, T_179, T_184, all95, hlt, hx, k95_enc, w1, w2, k1]
      repeat (refine ⟨by kernel_rfl, ?_⟩)
      rw [← hg]
      rfl
    · rw [decide_eq_false k1, Bool.false_or] at hg
      simp only [go_sem, T_3, T_4, T_5, T_9, T_22, T_42, T_51, T_69, T_76, T_77, T_78, T_80, T_90, T_91, T_93, T_95, T_96, T_98, T_100, T_121, T_130, T_145, T_179, T_184, all95, hlt, hx, k95_enc, w1, w2, k1, wrap_i64s (show i < 1000000000000000000 by omega)]
      repeat (refine ⟨by kernel_rfl, ?_⟩)
      exact ⟨i + 1, ⟨by omega, hg⟩, by simp only; omega, by kernel_rfl⟩
  rw [List.drop_eq_nil_of_le (by omega)] at hg
  simp only [go_sem, T_3, T_4, T_5, T_9, T_22, T_42, T_51, T_69, T_76, T_77, T_78, T_80, T_90, T_91, T_93, T_95, T_96, T_98, T_100, T_121, T_130, T_145, T_179, T_184, hlt]
  rw [← hg]
  rfl
end Go.Proofs.Ytfdemnefkfkghaa.R
/- Chapter 27's plain law: whether a graph and what is told of it agree. -/
namespace Go.Proofs.Ytfdemnefkfkghaa.R
open Go
set_option linter.unusedVariables false
set_option linter.unusedSimpArgs false

/-! Refs that rise. -/
def risesR : List S184 → Bool
  | a :: b :: r => decide (a.f0 < b.f0) && risesR (b :: r)
  | _ => true
theorem risesR_tail {a : S184} {r : List S184} (h : risesR (a :: r) = true) : risesR r = true := by
  cases r with
  | nil => rfl
  | cons b r => simp only [risesR, Bool.and_eq_true] at h; exact h.2
theorem risesR_lt : ∀ {r : List S184} {a : S184}, risesR (a :: r) = true → ∀ x ∈ r, a.f0 < x.f0
  | [], a, _, x, hx => by simp at hx
  | b :: r, a, h, x, hx => by
    simp only [risesR, Bool.and_eq_true, decide_eq_true_eq] at h
    rcases List.mem_cons.1 hx with rfl | hx
    · exact h.1
    · exact Int.lt_trans h.1 (risesR_lt h.2 x hx)
theorem risesR_cons {a : S184} {r : List S184} (h : risesR r = true) (k : ∀ x ∈ r, a.f0 < x.f0) : risesR (a :: r) = true := by
  cases r with
  | nil => rfl
  | cons b r => simp only [risesR, Bool.and_eq_true, decide_eq_true_eq]; exact ⟨k b (.head _), h⟩
theorem nameR_lt {b : Int} : ∀ {l : List S184}, (∀ x ∈ l, b < x.f0) → nameR b l = 0
  | [], _ => rfl
  | x :: r, h => by
    have h1 : ¬ x.f0 = b := fun e => by have := h x (.head _); omega
    simp only [nameR, h1, if_false]
    exact nameR_lt fun y hy => h y (.tail _ hy)
/-- Two rows of refs that rise and name each block as often, and no block in vain, are the same. -/
theorem refs_ext : ∀ {l m : List S184}, risesR l = true → risesR m = true → (∀ x ∈ l, 0 < x.f1) → (∀ x ∈ m, 0 < x.f1) → (∀ b, nameR b l = nameR b m) → l = m
  | [], [], _, _, _, _, _ => rfl
  | [], y :: s, _, _, _, pm, h => by have := h y.f0; have := pm y (.head _); simp [nameR] at *; omega
  | x :: r, [], _, _, pl, _, h => by have := h x.f0; have := pl x (.head _); simp [nameR] at *; omega
  | x :: r, y :: s, hl, hm, pl, pm, h => by
    have hlt := risesR_lt hl
    have hmt := risesR_lt hm
    have px := pl x (.head _)
    have py := pm y (.head _)
    have hxy : x.f0 = y.f0 := by
      have e1 := h x.f0
      have e2 := h y.f0
      rcases Int.lt_trichotomy x.f0 y.f0 with h1 | h1 | h1
      · rw [nameR_lt (b := x.f0) (l := y :: s) fun z hz => by
          rcases List.mem_cons.1 hz with rfl | hz
          · exact h1
          · exact Int.lt_trans h1 (hmt z hz)] at e1
        simp only [nameR, if_true] at e1
        omega
      · exact h1
      · rw [nameR_lt (b := y.f0) (l := x :: r) fun z hz => by
          rcases List.mem_cons.1 hz with rfl | hz
          · exact h1
          · exact Int.lt_trans h1 (hlt z hz)] at e2
        simp only [nameR, if_true] at e2
        omega
    have e := h x.f0
    simp only [nameR, if_true, hxy] at e
    have e1 : x = y := by
      obtain ⟨a, b⟩ := x
      obtain ⟨c, d⟩ := y
      simp only at hxy e
      rw [hxy, e]
    subst e1
    rw [refs_ext (risesR_tail hl) (risesR_tail hm) (fun z hz => pl z (.tail _ hz)) (fun z hz => pm z (.tail _ hz)) fun b => ?_]
    by_cases hk : x.f0 = b
    · subst hk
      rw [nameR_lt hlt, nameR_lt hmt]
    · have e := h b
      simpa only [nameR, hk, if_false] using e

/-! The program's sum. -/
theorem addU_look {b n : Int} {p : List Int × List Int} (h : cntInv p) (j : Int) : (lookI j (addU b n p).1 (addU b n p).2).getD 0 = if b = j then capA ((lookI b p.1 p.2).getD 0) n else (lookI j p.1 p.2).getD 0 := by
  unfold addU
  cases hb : hasI b p.1 with
  | true =>
    rw [if_pos rfl]
    simp only
    rw [lookI_set h.1 h.2.1 hb, gtI_look h.1 h.2.1]
    split
    · rfl
    · rfl
  | false =>
    rw [if_neg (by simp)]
    simp only
    unfold insAt
    rw [lookI_ins h.1 h.2.1 hb]
    split
    · have := lookI_has (k := b) h.1 h.2.1
      rw [hb] at this
      have hn : lookI b p.1 p.2 = none := by simpa using this.symm
      rw [hn]
      rfl
    · rfl
theorem refsU_rises : ∀ {ks vs : List Int}, risesI ks = true → risesR (refsU (ks, vs)) = true
  | [], vs, _ => by simp [refsU, risesR]
  | k :: ks, [], _ => by simp [refsU, risesR]
  | k :: ks, v :: vs, h => by
    have ih := refsU_rises (ks := ks) (vs := vs) (risesI_tail h)
    unfold refsU at ih ⊢
    simp only [List.zip_cons_cons, List.filter_cons]
    split
    · simp only [List.map_cons]
      refine risesR_cons ih fun x hx => ?_
      obtain ⟨y, hy, rfl⟩ := List.mem_map.1 hx
      have := (List.mem_filter.1 hy).1
      exact risesI_lt h _ (List.of_mem_zip this).1
    · exact ih
theorem refsU_pos {ks vs : List Int} : ∀ x ∈ refsU (ks, vs), 0 < x.f1 := fun x hx => by
  obtain ⟨y, hy, rfl⟩ := List.mem_map.1 hx
  have := (List.mem_filter.1 hy).2
  simpa [mk184] using this
theorem refsU_name {b : Int} : ∀ {ks vs : List Int}, risesI ks = true → vs.length = ks.length → (∀ x ∈ vs, u32B x) → nameR b (refsU (ks, vs)) = (lookI b ks vs).getD 0
  | [], vs, _, _, _ => by simp [refsU, nameR, lookI]
  | k :: ks, [], _, h, _ => by simp at h
  | k :: ks, v :: vs, h, hl, hv => by
    have ih := refsU_name (b := b) (ks := ks) (vs := vs) (risesI_tail h) (by simpa using hl) fun x hx => hv x (.tail _ hx)
    have hvb := hv v (.head _)
    unfold refsU at ih ⊢
    simp only [List.zip_cons_cons, List.filter_cons, lookI]
    by_cases hk : k = b
    · subst hk
      rw [if_pos rfl]
      by_cases hp : v > 0
      · simp [hp, mk184, nameR]
      · have hv0 : v = 0 := by unfold u32B at hvb; omega
        subst hv0
        simp only [Int.lt_irrefl, gt_iff_lt, decide_false, Bool.false_eq_true, if_false, Option.getD_some]
        refine nameR_lt fun x hx => ?_
        obtain ⟨y, hy, rfl⟩ := List.mem_map.1 hx
        have := (List.mem_filter.1 hy).1
        exact risesI_lt h _ (List.of_mem_zip this).1
    · rw [if_neg hk, ← ih]
      split
      · simp [mk184, nameR, hk]
      · rfl

/-! The document's sum. -/
theorem refGo_true {b n : Int} : ∀ {r : List S184}, (∀ x ∈ r, b < x.f0) → refGo b n true r = r
  | [], _ => rfl
  | x :: r, h => by
    have h1 := h x (.head _)
    simp only [refGo]
    rw [if_neg (by omega), if_neg (by simp), refGo_true fun y hy => h y (.tail _ hy)]
theorem refGo_mem {b n : Int} : ∀ {l : List S184} {d : Bool} {x : S184}, x ∈ refGo b n d l → x.f0 = b ∨ ∃ y ∈ l, y.f0 = x.f0
  | [], d, x, h => by
    simp only [refGo] at h
    split at h
    · simp at h
    · simp only [List.mem_singleton] at h; subst h; exact .inl rfl
  | y :: r, d, x, h => by
    simp only [refGo] at h
    split at h
    · rcases List.mem_cons.1 h with rfl | h
      · exact .inr ⟨y, .head _, rfl⟩
      · rcases refGo_mem h with h | ⟨z, hz, e⟩
        · exact .inl h
        · exact .inr ⟨z, .tail _ hz, e⟩
    · split at h
      · rcases List.mem_cons.1 h with rfl | h
        · exact .inl rfl
        · rcases List.mem_cons.1 h with rfl | h
          · exact .inr ⟨x, .head _, rfl⟩
          · rcases refGo_mem h with h | ⟨z, hz, e⟩
            · exact .inl h
            · exact .inr ⟨z, .tail _ hz, e⟩
      · rcases List.mem_cons.1 h with rfl | h
        · exact .inr ⟨x, .head _, rfl⟩
        · rcases refGo_mem h with h | ⟨z, hz, e⟩
          · exact .inl h
          · exact .inr ⟨z, .tail _ hz, e⟩
theorem refGo_rises {b n : Int} : ∀ {l : List S184}, risesR l = true → risesR (refGo b n false l) = true
  | [], _ => rfl
  | x :: r, h => by
    have hlt := risesR_lt h
    simp only [refGo]
    split
    · rename_i e
      rw [refGo_true fun y hy => by rw [← e]; exact hlt y hy]
      exact risesR_cons (risesR_tail h) hlt
    · rename_i e
      split
      · rename_i e2
        rw [refGo_true fun y hy => Int.lt_trans e2.2 (hlt y hy)]
        exact risesR_cons h fun y hy => by
          rcases List.mem_cons.1 hy with rfl | hy
          · exact e2.2
          · exact Int.lt_trans e2.2 (hlt y hy)
      · rename_i e2
        refine risesR_cons (refGo_rises (risesR_tail h)) fun y hy => ?_
        rcases refGo_mem hy with hy | ⟨z, hz, e3⟩
        · have : ¬ b < x.f0 := fun q => e2 ⟨trivial, q⟩
          omega
        · rw [← e3]; exact hlt z hz
theorem refGo_name {b n j : Int} : ∀ {l : List S184}, risesR l = true → n ≤ 4294967295 → nameR j (refGo b n false l) = if b = j then (if nameR b l = 0 ∧ (∀ x ∈ l, x.f0 ≠ b) then n else capA (nameR b l) n) else nameR j l
  | [], _, hn => by
    simp only [refGo, Bool.false_eq_true, if_false, nameR]
    split <;> simp
  | x :: r, h, hn => by
    have hlt := risesR_lt h
    simp only [refGo]
    split
    · rename_i e
      rw [refGo_true fun y hy => by rw [← e]; exact hlt y hy]
      simp only [nameR, e]
      by_cases hj : b = j
      · simp [hj, e]
      · simp [hj]
    · rename_i e
      split
      · rename_i e2
        rw [refGo_true fun y hy => Int.lt_trans e2.2 (hlt y hy)]
        have hno : ∀ y ∈ x :: r, y.f0 ≠ b := fun y hy => by
          rcases List.mem_cons.1 hy with rfl | hy
          · exact e
          · have := hlt y hy; omega
        have h0 : nameR b (x :: r) = 0 := nameR_lt fun y hy => by
          rcases List.mem_cons.1 hy with rfl | hy
          · exact e2.2
          · exact Int.lt_trans e2.2 (hlt y hy)
        by_cases hj : b = j
        · rw [if_pos hj, if_pos ⟨h0, hno⟩]
          simp [nameR, hj]
        · rw [if_neg hj]
          simp [nameR, hj]
      · rename_i e2
        have ih := refGo_name (b := b) (n := n) (j := j) (risesR_tail h) hn
        by_cases hj : b = j
        · subst hj
          rw [if_pos rfl] at ih ⊢
          have e3 : nameR b (x :: r) = nameR b r := by simp [nameR, e]
          rw [show nameR b (x :: refGo b n false r) = nameR b (refGo b n false r) by simp [nameR, e], ih, e3]
          have : (∀ y ∈ x :: r, y.f0 ≠ b) ↔ ∀ y ∈ r, y.f0 ≠ b := ⟨fun h y hy => h y (.tail _ hy), fun h y hy => by
            rcases List.mem_cons.1 hy with rfl | hy
            · exact e
            · exact h y hy⟩
          simp only [this]
        · rw [if_neg hj] at ih ⊢
          simp only [nameR, ih]
theorem nameR_none {b : Int} : ∀ {l : List S184}, (∀ x ∈ l, x.f0 ≠ b) → nameR b l = 0
  | [], _ => rfl
  | x :: r, h => by
    simp only [nameR, h x (.head _), if_false]
    exact nameR_none fun y hy => h y (.tail _ hy)
theorem refAdd_name {l : List S184} {b n j : Int} (h : risesR l = true) (hb : ∀ x ∈ l, u32B x.f1) (hn : u32B n) : nameR j (refAdd l b n) = if b = j then capA (nameR b l) n else nameR j l := by
  have nb : ∀ l : List S184, (∀ x ∈ l, u32B x.f1) → u32B (nameR b l) := by
    intro l
    induction l with
    | nil => intro _; simp [nameR, u32B]
    | cons x r ih =>
      intro h
      simp only [nameR]
      split
      · exact h x (.head _)
      · exact ih fun y hy => h y (.tail _ hy)
  have hc := nb l hb
  unfold refAdd
  by_cases h0 : n = 0
  · subst h0
    rw [if_pos rfl]
    split
    · rename_i e
      subst e
      unfold capA u32B at *
      rw [if_neg (by omega)]
      omega
    · rfl
  · rw [if_neg h0, refGo_name h hn.2]
    split
    · split
      · rename_i e
        unfold capA u32B at *
        rw [e.1, if_neg (by omega)]
        omega
      · rfl
    · rfl
theorem refAdd_rises {l : List S184} {b n : Int} (h : risesR l = true) : risesR (refAdd l b n) = true := by
  unfold refAdd
  split
  · exact h
  · exact refGo_rises h
theorem refGo_pos {b n : Int} (hn : u32B n) (h0 : n ≠ 0) : ∀ {l : List S184} {d : Bool}, (∀ x ∈ l, 0 < x.f1 ∧ u32B x.f1) → ∀ x ∈ refGo b n d l, 0 < x.f1
  | [], d, _, x, hx => by
    simp only [refGo] at hx
    split at hx
    · simp at hx
    · simp only [List.mem_singleton] at hx
      subst hx
      unfold u32B at hn
      simp only
      omega
  | y :: r, d, h, x, hx => by
    have hr : ∀ x ∈ r, 0 < x.f1 ∧ u32B x.f1 := fun x hx => h x (.tail _ hx)
    have hy := h y (.head _)
    simp only [refGo] at hx
    split at hx
    · rcases List.mem_cons.1 hx with rfl | hx
      · unfold capA u32B at *
        simp only
        split <;> omega
      · exact refGo_pos hn h0 hr x hx
    · split at hx
      · rcases List.mem_cons.1 hx with rfl | hx
        · unfold u32B at hn; simp only; omega
        · rcases List.mem_cons.1 hx with rfl | hx
          · exact hy.1
          · exact refGo_pos hn h0 hr x hx
      · rcases List.mem_cons.1 hx with rfl | hx
        · exact hy.1
        · exact refGo_pos hn h0 hr x hx
theorem refAdd_pos {l : List S184} {b n : Int} (hn : u32B n) (h : ∀ x ∈ l, 0 < x.f1 ∧ u32B x.f1) : ∀ x ∈ refAdd l b n, 0 < x.f1 := by
  unfold refAdd
  split
  · exact fun x hx => (h x hx).1
  · rename_i h0
    exact refGo_pos hn h0 h
/-- Both sums are the same. -/
theorem counts_eq : ∀ {l : List (Int × Int)} {p : List Int × List Int} {acc : List S184}, (∀ x ∈ l, u32B x.2) → cntInv p → risesR acc = true → (∀ x ∈ acc, 0 < x.f1 ∧ u32B x.f1) → (∀ b, (lookI b p.1 p.2).getD 0 = nameR b acc) → refsU (addsU l p) = addsR l acc
  | [], p, acc, _, hp, hr, ha, hs => by
    obtain ⟨ks, vs⟩ := p
    exact refs_ext (refsU_rises hp.1) hr refsU_pos (fun x hx => (ha x hx).1) fun b => by
      have e := refsU_name (b := b) hp.1 hp.2.1 hp.2.2
      exact e.trans (hs b)
  | x :: r, p, acc, hl, hp, hr, ha, hs => by
    have hn := hl x (.head _)
    show refsU (addsU r (addU x.1 x.2 p)) = addsR r (refAdd acc x.1 x.2)
    refine counts_eq (fun y hy => hl y (.tail _ hy)) (addU_inv hp hn) (refAdd_rises hr) (fun y hy => ⟨refAdd_pos hn ha y hy, refAdd_b hn (fun z hz => (ha z hz).2) y hy⟩) fun b => ?_
    rw [addU_look hp, refAdd_name hr (fun z hz => (ha z hz).2) hn, hs, hs]
theorem addsR_rises : ∀ {l : List (Int × Int)} {acc : List S184}, risesR acc = true → risesR (addsR l acc) = true
  | [], acc, h => h
  | x :: r, acc, h => addsR_rises (l := r) (refAdd_rises h)
theorem refAdd_keys {l : List S184} {b n : Int} {x : S184} (h : x ∈ refAdd l b n) : x.f0 = b ∨ ∃ y ∈ l, y.f0 = x.f0 := by
  unfold refAdd at h
  split at h
  · exact .inr ⟨x, h, rfl⟩
  · exact refGo_mem h
theorem addsR_keys : ∀ {l : List (Int × Int)} {acc : List S184}, (∀ x ∈ l, u32B x.1) → (∀ x ∈ acc, u32B x.f0) → ∀ x ∈ addsR l acc, u32B x.f0
  | [], acc, _, h => h
  | y :: r, acc, hl, h => addsR_keys (l := r) (fun z hz => hl z (.tail _ hz)) fun x hx => by
    rcases refAdd_keys hx with e | ⟨z, hz, e⟩
    · rw [e]; exact hl y (.head _)
    · rw [← e]; exact h z hz
theorem addsR_pos : ∀ {l : List (Int × Int)} {acc : List S184}, (∀ x ∈ l, u32B x.2) → (∀ x ∈ acc, 0 < x.f1 ∧ u32B x.f1) → ∀ x ∈ addsR l acc, 0 < x.f1
  | [], acc, _, h => fun x hx => (h x hx).1
  | y :: r, acc, hl, h => addsR_pos (l := r) (fun z hz => hl z (.tail _ hz)) fun x hx => ⟨refAdd_pos (hl y (.head _)) h x hx, refAdd_b (hl y (.head _)) (fun z hz => (h z hz).2) x hx⟩

/-! What is counted. -/
theorem countR_cmp : ∀ {cs : List Int} {nm : List S184} {b : Nat}, risesR nm = true → (∀ x ∈ nm, (b : Int) ≤ x.f0 ∧ 0 < x.f1) →
    countR nm cs b = if cmpR nm cs b ≠ 0 then cmpR nm cs b else if (nm.any fun x => decide (x.f0 ≥ ((b + cs.length : Nat) : Int))) = true then 2 else 0
  | [], nm, b, hr, hb => by
    cases nm with
    | nil => simp [countR, cmpR]
    | cons x r =>
      have := (hb x (.head _)).1
      simp [countR, cmpR, this]
  | n :: cs, nm, b, hr, hb => by
    have hlen : b + (n :: cs).length = b + 1 + cs.length := by simp only [List.length_cons]; omega
    cases nm with
    | nil =>
      have ih := countR_cmp (cs := cs) (nm := []) (b := b + 1) rfl (by simp)
      simp only [countR, cmpR, nameR]
      by_cases k1 : n < 0
      · simp [k1]
      · by_cases k2 : n > 0
        · simp [k1, k2]
        · rw [if_neg k1, if_neg k2, ih, hlen]
          simp only [k1, k2, if_false]
    | cons x r =>
      have hx := hb x (.head _)
      have hlt := risesR_lt hr
      simp only [countR]
      by_cases hk : x.f0 = (b : Int)
      · rw [if_pos hk]
        have hrb : ∀ y ∈ r, ((b + 1 : Nat) : Int) ≤ y.f0 ∧ 0 < y.f1 := fun y hy => ⟨by have := hlt y hy; omega, (hb y (.tail _ hy)).2⟩
        have ih := countR_cmp (cs := cs) (nm := r) (b := b + 1) (risesR_tail hr) hrb
        have hname : nameR b (x :: r) = x.f1 := by simp [nameR, hk]
        have hcmp : cmpR (x :: r) cs (b + 1) = cmpR r cs (b + 1) := by
          have : ∀ (cs : List Int) (c : Nat), b < c → cmpR (x :: r) cs c = cmpR r cs c := by
            intro cs
            induction cs with
            | nil => intro c _; rfl
            | cons m cs ih2 =>
              intro c hc
              have e : nameR c (x :: r) = nameR c r := by
                simp only [nameR]
                rw [if_neg (by omega)]
              simp only [cmpR, e, ih2 (c + 1) (by omega)]
          exact this cs (b + 1) (by omega)
        simp only [cmpR, hname]
        by_cases k1 : n < x.f1
        · simp [k1]
        · by_cases k2 : n > x.f1
          · simp [k1, k2]
          · rw [if_neg k1, if_neg k2, ih, hlen, hcmp]
            simp only [k1, k2, if_false]
            have hx2 : decide (x.f0 ≥ ((b + 1 + cs.length : Nat) : Int)) = false := by simp only [decide_eq_false_iff_not]; omega
            rw [List.any_cons, hx2, Bool.false_or]
      · rw [if_neg hk]
        have hnb : ∀ y ∈ x :: r, ((b + 1 : Nat) : Int) ≤ y.f0 ∧ 0 < y.f1 := fun y hy => by
          rcases List.mem_cons.1 hy with rfl | hy
          · exact ⟨by omega, hx.2⟩
          · exact ⟨by have := hlt y hy; omega, (hb y (.tail _ hy)).2⟩
        have ih := countR_cmp (cs := cs) (nm := x :: r) (b := b + 1) hr hnb
        have hname : nameR b (x :: r) = 0 := nameR_lt fun y hy => by have := (hnb y hy).1; omega
        simp only [cmpR, hname]
        by_cases k1 : n < 0
        · simp [k1]
        · by_cases k2 : n > 0
          · simp [k1, k2]
          · rw [if_neg k1, if_neg k2, ih, hlen]
            simp only [k1, k2, if_false]
theorem find_none_lt {b : Int} : ∀ {l : List S95}, (∀ x ∈ l, b < x.f0) → find b l = none
  | [], _ => rfl
  | x :: r, h => by
    have : ¬ x.f0 = b := by have := h x (.head _); omega
    simp only [find, this, if_false]
    exact find_none_lt fun y hy => h y (.tail _ hy)
theorem heldR_item : ∀ {cs : List Int} {l : List S95} {b : Nat}, risesB l = true → (∀ x ∈ l, (b : Int) ≤ x.f0) →
    heldR l cs b = (itemR l cs b && !(l.any fun x => decide (x.f0 ≥ ((b + cs.length : Nat) : Int))))
  | [], l, b, hr, hb => by
    cases l with
    | nil => simp [heldR, itemR]
    | cons x r =>
      have := hb x (.head _)
      simp [heldR, itemR, this]
  | n :: cs, l, b, hr, hb => by
    have hlen : b + (n :: cs).length = b + 1 + cs.length := by simp only [List.length_cons]; omega
    cases l with
    | nil =>
      have ih := heldR_item (cs := cs) (l := []) (b := b + 1) rfl (by simp)
      simp only [heldR, itemR, find, Option.isSome_none]
      by_cases k2 : n > 0
      · simp [k2]
      · rw [if_neg k2, ih, hlen]
        simp [k2]
    | cons x r =>
      have hx := hb x (.head _)
      have hlt := rises_lt hr
      simp only [heldR, itemR]
      by_cases hk : x.f0 = (b : Int)
      · rw [if_pos hk]
        have hrb : ∀ y ∈ r, ((b + 1 : Nat) : Int) ≤ y.f0 := fun y hy => by have := hlt y hy; omega
        have ih := heldR_item (cs := cs) (l := r) (b := b + 1) (rises_tail hr) hrb
        have hf : find b (x :: r) = some x.f1 := by simp [find, hk]
        have hit : itemR (x :: r) cs (b + 1) = itemR r cs (b + 1) := by
          have : ∀ (cs : List Int) (c : Nat), b < c → itemR (x :: r) cs c = itemR r cs c := by
            intro cs
            induction cs with
            | nil => intro c _; rfl
            | cons m cs ih2 =>
              intro c hc
              have e : find c (x :: r) = find c r := by
                simp only [find]
                rw [if_neg (by omega)]
              simp only [itemR, e, ih2 (c + 1) (by omega)]
          exact this cs (b + 1) (by omega)
        rw [hf, hlen]
        by_cases k2 : n > 0
        · rw [if_pos k2, ih, hit]
          have hx2 : decide (x.f0 ≥ ((b + 1 + cs.length : Nat) : Int)) = false := by simp only [decide_eq_false_iff_not]; omega
          rw [List.any_cons, hx2, Bool.false_or]
          simp [k2]
        · rw [if_neg k2]
          simp [k2]
      · rw [if_neg hk]
        have hnb : ∀ y ∈ x :: r, ((b + 1 : Nat) : Int) ≤ y.f0 := fun y hy => by
          rcases List.mem_cons.1 hy with rfl | hy
          · omega
          · have := hlt y hy; omega
        have ih := heldR_item (cs := cs) (l := x :: r) (b := b + 1) hr hnb
        have hf : find b (x :: r) = none := find_none_lt fun y hy => by have := hnb y hy; omega
        rw [hf, hlen]
        by_cases k2 : n > 0
        · rw [if_pos k2]
          simp [k2]
        · rw [if_neg k2, ih]
          simp [k2]
end Go.Proofs.Ytfdemnefkfkghaa.R
/- Chapter 27's plain law: the program's Check is the document's. -/
namespace Go.Proofs.Ytfdemnefkfkghaa.R
open Go
set_option linter.unusedVariables false
set_option linter.unusedSimpArgs false

theorem rightB_rises {L : List S95} : ∀ {l : List S95} {p : Option Int}, rightB L p l = true → risesB l = true
  | [], _, _ => rfl
  | [x], _, _ => rfl
  | x :: y :: r, p, h => by
    have h2 : rightB L (some x.f0) (y :: r) = true := by
      cases p <;> simp only [rightB, Bool.and_eq_true] at h
      · simp only [rightB, Bool.and_eq_true]; exact h.2.2
      · simp only [rightB, Bool.and_eq_true]; exact h.2.2.2
    have h3 := rightB_rises h2
    simp only [rightB, Bool.and_eq_true, Bool.not_eq_true', decide_eq_false_iff_not] at h2
    simp only [risesB, Bool.and_eq_true, decide_eq_true_eq]
    exact ⟨by have := h2.1; omega, h3⟩
theorem rightM_rises {es : List (Int × Int)} : ∀ {l : List S95} {p : Option Int}, rightM es p l = true → risesB l = true
  | [], _, _ => rfl
  | [x], _, _ => rfl
  | x :: y :: r, p, h => by
    have h2 : rightM es (some x.f0) (y :: r) = true := by
      cases p <;> simp only [rightM, Bool.and_eq_true] at h
      · simp only [rightM, Bool.and_eq_true]; exact h.2.2
      · simp only [rightM, Bool.and_eq_true]; exact h.2.2.2
    have h3 := rightM_rises h2
    simp only [rightM, Bool.and_eq_true, Bool.not_eq_true', decide_eq_false_iff_not] at h2
    simp only [risesB, Bool.and_eq_true, decide_eq_true_eq]
    exact ⟨by have := h2.1; omega, h3⟩
theorem dfind_fold {b : Int} : ∀ {l : List S95} {es : List (Int × Int)}, risesB l = true → dfind b (l.foldl (fun es x => dset x.f0 (deepN x.f1) es) es) = match find b l with
    | some n => some (deepN n)
    | none => dfind b es
  | [], es, _ => rfl
  | x :: r, es, h => by
    have hlt : ∀ y ∈ r, x.f0 < y.f0 := rises_lt h
    show dfind b (r.foldl _ (dset x.f0 (deepN x.f1) es)) = _
    rw [dfind_fold (rises_tail h), dfind_set]
    simp only [find]
    by_cases hb : x.f0 = b
    · subst hb
      rw [find_none_lt hlt, if_pos rfl]
      simp
    · rw [if_neg hb, if_neg (fun e => hb e.symm)]
theorem leads_eq {l : List S95} (h : risesB l = true) (b d : Int) : leadsM (depsL l) b d = leads l b d := by
  unfold leadsM leads depsL
  rw [dfind_fold h]
  cases find b l with
  | none => rfl
  | some n =>
    simp only
    by_cases e : deepN n = d
    · rw [e, Bool.and_comm]
    · simp [e]
theorem right_eq {L : List S95} (h : risesB L = true) : ∀ {l : List S95} {p : Option Int}, rightM (depsL L) p l = rightB L p l := by
  have hm : ∀ n, nodeM (depsL L) n = nodeR L n := fun n => by
    unfold nodeM nodeR
    congr 1
    · congr 1
      funext e
      exact leads_eq h _ _
    · congr 1
      funext m
      unfold msgM msgR
      rw [leads_eq h]
  intro l
  induction l with
  | nil => intro p; cases p <;> rfl
  | cons x r ih =>
    intro p
    cases p <;> simp only [rightM, rightB, hm, ih]
theorem right_same (l : List S95) : rightM (depsL l) none l = rightB l none l := by
  cases h : risesB l with
  | true => exact right_eq h
  | false =>
    have h1 : rightM (depsL l) none l = false := by
      cases e : rightM (depsL l) none l with
      | false => rfl
      | true => rw [rightM_rises e] at h; cases h
    have h2 : rightB l none l = false := by
      cases e : rightB l none l with
      | false => rfl
      | true => rw [rightB_rises e] at h; cases h
    rw [h1, h2]
/-- Blocks are numbers of 32 bits. -/
def blocksB (l : List S95) : Prop := (∀ x ∈ l, u32B x.f0) ∧ ∀ x ∈ nmItems l, u32B x.1
theorem check_eq {l : List S95} {m : S80} (hb : blocksB l) (hv : ∀ v ∈ m.f2, u32B v.f1) (hp : ∀ x ∈ m.f1, u32B x.f0 ∧ u32B x.f1) : progCheck l m = refCheck l m := by
  have h2 : ∀ x ∈ nmRoots m.f2 ++ nmItems l ++ nmPend m.f1, u32B x.1 ∧ u32B x.2 := fun x hx => by
    simp only [List.mem_append] at hx
    rcases hx with (hx | hx) | hx
    · obtain ⟨v, hv2, rfl⟩ := List.mem_map.1 hx
      exact ⟨hv v hv2, one_b⟩
    · exact ⟨hb.2 x hx, itemsB l x hx⟩
    · obtain ⟨y, hy, rfl⟩ := List.mem_map.1 hx
      exact hp y hy
  have hc : refsU (addsU (nmRoots m.f2 ++ nmItems l ++ nmPend m.f1) ([], [])) = addsR (nmRoots m.f2 ++ nmItems l ++ nmPend m.f1) [] :=
    counts_eq (fun x hx => (h2 x hx).2) ⟨rfl, rfl, by simp⟩ rfl (by simp) fun b => by simp [lookI, nameR]
  have hr := addsR_rises (l := nmRoots m.f2 ++ nmItems l ++ nmPend m.f1) (acc := []) rfl
  have hk := addsR_keys (l := nmRoots m.f2 ++ nmItems l ++ nmPend m.f1) (acc := []) (fun x hx => (h2 x hx).1) (by simp)
  have hpos := addsR_pos (l := nmRoots m.f2 ++ nmItems l ++ nmPend m.f1) (acc := []) (fun x hx => (h2 x hx).2) (by simp)
  unfold progCheck refCheck
  rw [right_same, hc]
  generalize addsR (nmRoots m.f2 ++ nmItems l ++ nmPend m.f1) [] = all at *
  cases hR : rightB l none l with
  | false => rfl
  | true =>
    have hrise := rightB_rises hR
    simp only [Bool.true_eq_false, if_false]
    cases hA : m.f2.all (rootB l) with
    | false => rfl
    | true =>
      simp only [Bool.true_eq_false, if_false]
      have e1 := countR_cmp (cs := m.f0) (nm := all) (b := 0) hr fun x hx => ⟨(hk x hx).1, hpos x hx⟩
      have e2 := heldR_item (cs := m.f0) (l := l) (b := 0) hrise fun x hx => (hb.1 x hx).1
      rw [Nat.zero_add] at e1 e2
      rw [e1, e2]
      by_cases h3 : cmpR all m.f0 0 = 0
      · simp only [h3, ne_eq, not_true_eq_false, if_false]
        cases h4 : (all.any fun x => decide (x.f0 ≥ (m.f0.length : Int))) with
        | true => simp
        | false =>
          simp only [Bool.false_eq_true, if_false, not_true_eq_false]
          cases h5 : itemR l m.f0 0 with
          | false => simp
          | true =>
            cases h6 : (l.any fun x => decide (x.f0 ≥ (m.f0.length : Int))) with
            | true => simp
            | false => simp
      · simp [h3]
end Go.Proofs.Ytfdemnefkfkghaa.R
/- Chapter 27's laws: AuditChecks. -/
namespace Go.Proofs.Ytfdemnefkfkghaa.R
open Go Go.Proofs
set_option linter.unusedSimpArgs false
set_option linter.unusedVariables false
set_option maxRecDepth 10000
set_option maxHeartbeats 4000000

theorem u16_of {x : Int} (h : g96 x) : 0 ≤ x ∧ x ≤ 65535 := by
  unfold g96 Lit.wf at h
  simp only [Bool.and_eq_true, decide_eq_true_eq, IntKind.min, IntKind.max, IntKind.signed, IntKind.bits] at h
  have h1 := h.1
  have h2 := h.2
  simp at h1 h2
  omega
theorem u32_of {x : Int} (h : g42 x) : u32B x := by
  unfold g42 Lit.wf at h
  simp only [Bool.and_eq_true, decide_eq_true_eq, IntKind.min, IntKind.max, IntKind.signed, IntKind.bits] at h
  have h1 := h.1
  have h2 := h.2
  simp at h1 h2
  unfold u32B
  omega
theorem wf_of {l : List S95} (h : g22 l) : wfL l := fun x hx => by
  have h1 := h.2 x hx
  obtain ⟨_, _, _, _, h4, h5⟩ := h1
  exact ⟨fun e he => u16_of (h4.2 e he).2.1, fun m hm => u16_of (h5.2 m hm).2.2.2.2.1⟩
theorem blocks_of {l : List S95} (h : g22 l) : blocksB l := by
  refine ⟨fun x hx => u32_of (h.2 x hx).1, fun p hp => ?_⟩
  obtain ⟨q, hq, hp⟩ := List.mem_flatten.1 hp
  obtain ⟨x, hx, rfl⟩ := List.mem_map.1 hq
  obtain ⟨t, ht, rfl⟩ := List.mem_map.1 hp
  obtain ⟨_, _, _, _, h4, h5⟩ := h.2 x hx
  unfold targets at ht
  rcases List.mem_append.1 ht with ht | ht
  · obtain ⟨e, he, rfl⟩ := List.mem_map.1 ht
    exact u32_of (h4.2 e he).1
  · unfold gotos at ht
    obtain ⟨m, hm, rfl⟩ := List.mem_map.1 ht
    exact u32_of (h5.2 m (List.mem_filter.1 hm).1).2.2.2.1
theorem targets_few {n : S93} (h : greatNode n = false) : (nmNode n).length ≤ 120 := by
  unfold greatNode greatMsgs at h
  simp only [Bool.or_eq_false_iff, decide_eq_false_iff_not] at h
  unfold nmNode targets
  rw [List.length_map, List.length_append, List.length_map]
  have : (gotos n.f4).length ≤ n.f4.length := by
    unfold gotos
    rw [List.length_map]
    exact List.length_filter_le _ _
  omega
theorem items_few : ∀ {l : List S95}, (∀ x ∈ l, greatNode x.f1 = false) → (nmItems l).length ≤ 120 * l.length
  | [], _ => by simp [nmItems]
  | x :: r, h => by
    have h1 := targets_few (h x (.head _))
    have h2 := items_few (l := r) fun y hy => h y (.tail _ hy)
    have : nmItems (x :: r) = nmNode x.f1 ++ nmItems r := by simp [nmItems]
    rw [this, List.length_append, List.length_cons]
    omega
theorem lim12 (l : List S95) (m : S80) (hl : g22 l) (hm : g80 m) : lim T fns 12 [.fz (l.map k95.enc), .agg (k80.enc m)] [] = some (.bool true, []) := by
  have c50 := call50 l m
  cases hg : (greatL l || greatM m) with
  | true =>
    rw [hg] at c50
    simp only [k80_enc] at c50 ⊢
    refine fn_rule (fn := fn12) rfl rfl (by simp [fn12]) ?_
    unfold fn12
    simp only [Try.f12, Option.getD_some, argEnv, List.map_nil, List.length_nil]
    simp only [go_sem, T_3, T_4, T_5, T_9, T_22, T_42, T_51, T_69, T_76, T_77, T_78, T_80, T_90, T_91, T_93, T_95, T_96, T_98, T_100, T_121, T_145, T_179, T_184, c50, call51]
  | false =>
  rw [hg] at c50
  simp only [Bool.or_eq_false_iff] at hg
  obtain ⟨fl, l30⟩ := few_of_great hg.1
  have hgl := hg.1
  have hgm := hg.2
  unfold greatL at hgl
  simp only [Bool.or_eq_false_iff, decide_eq_false_iff_not, List.any_eq_false] at hgl
  have hit := items_few (l := l) fun x hx => by simpa using hgl.2 x hx
  unfold greatM greatV at hgm
  simp only [Bool.or_eq_false_iff, decide_eq_false_iff_not] at hgm
  have hw := wf_of hl
  have hb := blocks_of hl
  have hv : ∀ v ∈ m.f2, u32B v.f1 := fun v hv => u32_of (hm.2.2.2 v hv).2.1
  have hp : ∀ x ∈ m.f1, u32B x.f0 ∧ u32B x.f1 := fun x hx => ⟨u32_of (hm.2.1.2 x hx).1, u32_of (hm.2.1.2 x hx).2⟩
  have h2 : ∀ x ∈ nmRoots m.f2 ++ nmItems l ++ nmPend m.f1, u32B x.1 := fun x hx => by
    simp only [List.mem_append] at hx
    rcases hx with (hx | hx) | hx
    · obtain ⟨v, hv2, rfl⟩ := List.mem_map.1 hx
      exact hv v hv2
    · exact hb.2 x hx
    · obtain ⟨y, hy, rfl⟩ := List.mem_map.1 hx
      exact (hp y hy).1
  have hk := addsR_keys (l := nmRoots m.f2 ++ nmItems l ++ nmPend m.f1) (acc := []) h2 (by simp)
  have c52 := call52 l m fl hw (by omega) (by omega) (by omega) (by omega) fun x hx => (hp x hx).2
  have c53 := fun n => callV_plain (T := T) (fns := fns) (g := 53) (fn := fn53) rfl (args := [.fz (l.map k95.enc), .agg (k80.enc m)]) (caps := []) rfl rfl (lim53 l m fl hw (by omega) (by omega) (by omega) (by omega) (fun x hx => (hp x hx).2) hk hb.1) n
  rw [check_eq hb hv hp] at c52
  have he : (refCheck l m == refCheck l m) = true := by simp
  generalize refCheck l m = e at *
  simp only [k80_enc] at c50 c52 c53 ⊢
  refine fn_rule (fn := fn12) rfl rfl (by simp [fn12]) ?_
  unfold fn12
  simp only [Try.f12, Option.getD_some, argEnv, List.map_nil, List.length_nil]
  simp only [go_sem, T_3, T_4, T_5, T_9, T_22, T_42, T_51, T_69, T_76, T_77, T_78, T_80, T_90, T_91, T_93, T_95, T_96, T_98, T_100, T_121, T_145, T_179, T_184, c50, call51, c52, c53, he]
end Go.Proofs.Ytfdemnefkfkghaa.R
/- What is reached: the list of it; the document's rounds; what is not reached. -/
namespace Go.Proofs.Ytfdemnefkfkghaa.R
open Go Go.Proofs
set_option linter.unusedSimpArgs false
set_option linter.unusedVariables false
def puts (ts acc : List Int) : List Int := ts.foldl putB acc
theorem puts_app {a b acc : List Int} : puts (a ++ b) acc = puts b (puts a acc) := by unfold puts; rw [List.foldl_append]
theorem puts_snoc {a acc : List Int} {b : Int} : puts (a ++ [b]) acc = putB (puts a acc) b := by rw [puts_app]; rfl
theorem puts_rises : ∀ {ts acc : List Int}, risesI acc = true → risesI (puts ts acc) = true
  | [], _, h => h
  | _ :: r, _, h => puts_rises (ts := r) (putB_rises h)
theorem puts_mem : ∀ {ts acc : List Int} {x : Int}, x ∈ puts ts acc ↔ x ∈ acc ∨ x ∈ ts
  | [], acc, x => by simp [puts]
  | t :: r, acc, x => by
    show x ∈ puts r (putB acc t) ↔ _
    rw [puts_mem (ts := r), putB_mem, List.mem_cons]
    exact ⟨fun h => h.elim (fun h => h.elim (fun h => .inr (.inl h)) .inl) fun h => .inr (.inr h), fun h => h.elim (fun h => .inl (.inr h)) fun h => h.elim (fun h => .inl (.inl h)) .inr⟩
theorem putG_len {b : Int} : ∀ {l : List Int}, (putG b false l).length = l.length + 1
  | [] => rfl
  | y :: r => by
    simp only [putG, Bool.not_false, Bool.true_and, decide_eq_true_eq]
    split
    · rw [putG_true]; simp
    · simp [putG_len (l := r)]
theorem putB_in {l : List Int} {b : Int} (h : b ∈ l) : putB l b = l := by
  unfold putB
  rw [if_pos (hasB_iff.2 h)]
theorem putB_len {l : List Int} {b : Int} : (putB l b).length = l.length + if b ∈ l then 0 else 1 := by
  by_cases h : b ∈ l
  · rw [putB_in h, if_pos h]; rfl
  · unfold putB
    rw [if_neg (fun e => h (hasB_iff.1 e)), if_neg h, putG_len]
theorem puts_length : ∀ {ts acc : List Int}, acc.length ≤ (puts ts acc).length ∧ (puts ts acc).length ≤ acc.length + ts.length
  | [], _ => by simp [puts]
  | t :: r, acc => by
    have h := puts_length (ts := r) (acc := putB acc t)
    have h2 := putB_len (l := acc) (b := t)
    show acc.length ≤ (puts r (putB acc t)).length ∧ (puts r (putB acc t)).length ≤ _
    rw [List.length_cons]
    split at h2 <;> omega
theorem puts_same : ∀ {ts acc : List Int}, (puts ts acc).length = acc.length → ∀ t ∈ ts, t ∈ acc
  | [], _, _ => by simp
  | t :: r, acc, h => by
    have h1 := puts_length (ts := r) (acc := putB acc t)
    have h2 := putB_len (l := acc) (b := t)
    have h3 : (puts r (putB acc t)).length = acc.length := h
    by_cases ht : t ∈ acc
    · rw [putB_in ht] at h3
      have := puts_same (ts := r) h3
      intro x hx
      rcases List.mem_cons.1 hx with e | hx
      · exact e ▸ ht
      · exact this x hx
    · rw [if_neg ht] at h2
      omega
theorem few_node {l : List S95} {b : Int} (hl : fewL l) : fewN ((find b l).getD noNode) := by
  cases h : find b l with
  | none => exact ⟨by simp [noNode], by simp [noNode], by simp [noNode], by simp [noNode]⟩
  | some n =>
    obtain ⟨x, hx, _, e⟩ := find_mem h
    exact e ▸ hl.2 x hx
/-- All targets of some blocks. -/
def tgtsAll (l : List S95) (now : List Int) : List Int := now.flatMap (tgts l)
theorem tgtsAll_snoc {l : List S95} {now : List Int} {b : Int} : tgtsAll l (now ++ [b]) = tgtsAll l now ++ tgts l b := by
  unfold tgtsAll
  rw [List.flatMap_append]
  simp
theorem tgts_items {l : List S95} {b t : Int} (h : t ∈ tgts l b) : t ∈ (nmItems l).map (·.1) := by
  unfold tgts at h
  cases hf : find b l with
  | none =>
    rw [hf] at h
    simp [noNode, targets, gotos] at h
  | some n =>
    rw [hf, Option.getD_some] at h
    obtain ⟨x, hx, _, e⟩ := find_mem hf
    rw [List.mem_map]
    refine ⟨(t, 1), ?_, rfl⟩
    unfold nmItems nmNode
    rw [List.mem_flatten]
    exact ⟨_, List.mem_map.2 ⟨x, hx, rfl⟩, List.mem_map.2 ⟨t, e ▸ h, rfl⟩⟩
/-- Whatever is reached is a root or a target. -/
theorem rch_univ {l : List S95} {roots : List Int} {b : Int} (h : RchS l roots b) : b ∈ roots ++ (nmItems l).map (·.1) := by
  cases h with
  | root h => exact List.mem_append.2 (.inl h)
  | step _ h => exact List.mem_append.2 (.inr (tgts_items h))
open Classical in
theorem reached_is (l : List S95) (roots : List Int) : ∃ q, risesI q = true ∧ (∀ b, b ∈ q ↔ RchS l roots b) ∧ q.length ≤ roots.length + (nmItems l).length := by
  refine ⟨puts ((roots ++ (nmItems l).map (·.1)).filter fun b => decide (RchS l roots b)) [], puts_rises rfl, fun b => ?_, ?_⟩
  · rw [puts_mem, List.mem_filter]
    simp only [List.not_mem_nil, false_or, decide_eq_true_eq]
    exact ⟨fun h => h.2, fun h => ⟨rch_univ h, h⟩⟩
  · have h1 := (puts_length (ts := (roots ++ (nmItems l).map (·.1)).filter fun b => decide (RchS l roots b)) (acc := [])).2
    have h2 := List.length_filter_le (fun b => decide (RchS l roots b)) (roots ++ (nmItems l).map (·.1))
    rw [List.length_append, List.length_map] at h2
    simp only [List.length_nil] at h1
    omega
theorem rises_nodup : ∀ {l : List Int}, risesI l = true → l.Nodup
  | [], _ => List.nodup_nil
  | x :: r, h => by
    rw [List.nodup_cons]
    refine ⟨fun hm => ?_, rises_nodup (risesI_tail h)⟩
    have := risesI_lt h x hm
    omega
/-- Of the rounds: what was found is reached, the roots are there. -/
structure Rnd (l : List S95) (roots out : List Int) : Prop where
  rises : risesI out = true
  rch : ∀ b ∈ out, RchS l roots b
  root : ∀ b ∈ roots, b ∈ out
theorem Rnd.init {l : List S95} {roots : List Int} : Rnd l roots (puts roots []) where
  rises := puts_rises rfl
  rch := fun b h => by
    rw [puts_mem] at h
    simp only [List.not_mem_nil, false_or] at h
    exact .root h
  root := fun b h => puts_mem.2 (.inr h)
theorem Rnd.next {l : List S95} {roots out : List Int} (h : Rnd l roots out) : Rnd l roots (puts (tgtsAll l out) out) where
  rises := puts_rises h.rises
  rch := fun b hb => by
    rcases puts_mem.1 hb with hb | hb
    · exact h.rch b hb
    · unfold tgtsAll at hb
      obtain ⟨c, hc, hb⟩ := List.mem_flatMap.1 hb
      exact .step (h.rch c hc) hb
  root := fun b hb => puts_mem.2 (.inl (h.root b hb))
theorem Rnd.len {l : List S95} {roots out q : List Int} (h : Rnd l roots out) (hm : ∀ b, b ∈ q ↔ RchS l roots b) : out.length ≤ q.length :=
  nodup_len (rises_nodup h.rises) fun x hx => (hm x).2 (h.rch x hx)
theorem Rnd.done {l : List S95} {roots out q : List Int} (h : Rnd l roots out) (hq : risesI q = true) (hm : ∀ b, b ∈ q ↔ RchS l roots b) (he : (puts (tgtsAll l out) out).length = out.length) : out = q := by
  have hs := puts_same he
  refine rises_ext h.rises hq fun b => ⟨fun hb => (hm b).2 (h.rch b hb), fun hb => ?_⟩
  have hr := (hm b).1 hb
  clear hb
  induction hr with
  | root hb => exact h.root _ hb
  | step _ ht ih => exact hs _ (List.mem_flatMap.2 ⟨_, ih, ht⟩)
/-! Garbage. -/
def blocks (l : List S95) : List Int := l.map (·.f0)
theorem rch_nil {roots : List Int} {b : Int} : RchS [] roots b ↔ b ∈ roots := by
  refine ⟨fun h => ?_, .root⟩
  cases h with
  | root h => exact h
  | step _ h => simp [tgts, find, noNode, targets, gotos] at h
/-- Neighbours that are the same become one. -/
def compI : List Int → List Int
  | [] => []
  | [x] => [x]
  | x :: y :: r => if x = y then compI (y :: r) else x :: compI (y :: r)
theorem compI_mem {b : Int} : ∀ {l : List Int}, b ∈ compI l ↔ b ∈ l
  | [] => by simp [compI]
  | [x] => by simp [compI]
  | x :: y :: r => by
    have ih := compI_mem (b := b) (l := y :: r)
    simp only [compI]
    split
    · rename_i e
      subst e
      rw [ih, List.mem_cons, List.mem_cons, List.mem_cons]
      exact ⟨fun h => .inr h, fun h => h.elim .inl id⟩
    · rw [List.mem_cons, ih, List.mem_cons (a := b) (b := x)]
theorem compI_rises : ∀ {l : List Int}, l.Pairwise (fun x y => x ≤ y) → risesI (compI l) = true
  | [], _ => rfl
  | [x], _ => rfl
  | x :: y :: r, h => by
    rw [List.pairwise_cons] at h
    have ih := compI_rises (l := y :: r) h.2
    simp only [compI]
    split
    · exact ih
    · rename_i hne
      refine risesI_cons ih fun z hz => ?_
      rw [compI_mem] at hz
      have h1 := h.1 z hz
      have h2 := h.1 y (.head _)
      rcases List.mem_cons.1 hz with e | hz
      · omega
      · have := (List.pairwise_cons.1 h.2).1 z hz
        omega
theorem sortI_pair (l : List Int) : (sortI l).Pairwise fun x y => x ≤ y := by
  have hp : (sortI l).Pairwise fun x y => decide (x ≤ y) = true := List.pairwise_mergeSort (fun a b c h1 h2 => by simp only [decide_eq_true_eq] at *; omega) (fun a b => by simp only [Bool.or_eq_true, decide_eq_true_eq]; omega) l
  exact hp.imp fun h => by simpa using h
theorem rises_filter {f : Int → Bool} : ∀ {l : List Int}, risesI l = true → risesI (l.filter f) = true
  | [], _ => rfl
  | x :: r, h => by
    rw [List.filter_cons]
    split
    · exact risesI_cons (rises_filter (risesI_tail h)) fun y hy => risesI_lt h y (List.mem_filter.1 hy).1
    · exact rises_filter (risesI_tail h)
/-- Blocks that are not in a list. -/
def notIn (live : List Int) (l : List Int) : List Int := l.filter fun b => !hasB b live
theorem garbage_eq {live all bs : List Int} (ha : risesI all = true) (hm : ∀ b, b ∈ all ↔ b ∈ bs) : compI (sortI (notIn live bs)) = notIn live all := by
  refine rises_ext (compI_rises (sortI_pair _)) (rises_filter ha) fun b => ?_
  rw [compI_mem, sortI_mem]
  unfold notIn
  rw [List.mem_filter, List.mem_filter, hm]
end Go.Proofs.Ytfdemnefkfkghaa.R
/- graph.Reach. -/
namespace Go.Proofs.Ytfdemnefkfkghaa.R
open Go Go.Proofs
set_option linter.unusedSimpArgs false
set_option linter.unusedVariables false
set_option maxRecDepth 10000
set_option maxHeartbeats 4000000
theorem cloneF_at {n : Nat} {rows : List (List V)} {h : Heap} {tr : List Nat} (ha : (rows.all fun r => r.length == 1) = true) (hb : rows.length < 1000000000000) :
    (callV (LX T fns) n (.clo 174 []) [.fz rows]).run h tr = some ((.ms n 1 0 rows.length none, [(n, some (.buf 1 rows false true))]), tr) := by
  refine callV_newf (fn := fn174) rfl (args' := [.fz rows]) (u := []) (us := [(n, some (.buf 1 rows false true))]) (r := .ms 0 1 0 rows.length none) (H := [some (.buf 1 rows false true)]) (fun K => by simp only [fn174, List.append_nil, frzArgs, frz, frzAll, frzG, frzGAll, ms2, msUp, frzG, List.nil_append]) rfl ?_ ?_ ?_ rfl
  · refine lim_clone T fns (fn := fn174) rfl (st := 1) (bytes := 4) rfl ?_
    simp only [cloneFn]
    rw [if_pos ⟨by decide, ha, by omega⟩]
  · simp [V.re, back, nth]
  · simp [pushObs, back, nth, Ob.re]
theorem call122_2 (l : List Int) (c : Option Nat) (hs : l.length < 1000000000) (o0 o1 : Option Ob) (n : Nat) (hm : 3 ≤ n) (rest : Heap) : (callV (LX T fns) n (.clo 122 []) [.ms 2 1 0 l.length c]).run (o0 :: o1 :: some (.buf 1 (l.map (Cd.int .u32).enc) false true) :: rest) [] =
    some ((.tup [], [(2, some (.buf 1 ((sortI l).map (Cd.int .u32).enc) false true))]), [2]) := by
  have h := lim122 l c hs
  have hf : fns 122 = some fn122 := rfl
  unfold callV
  simp only [hf]
  unfold callR
  simp only [fn122, List.cons_append, List.nil_append, List.append_nil, frzArgs, frz, frzAll, frzG, frzGAll, ms2, msUp, List.tail]
  simp only [V.allIds, V.ids, List.append_nil, List.nil_append, collect, List.map_nil, List.contains_nil, Bool.false_eq_true, if_false, Rd.run, Heap.at?, Ob.ids, rowsIds, List.map_cons, List.cons_append, List.contains_cons, Nat.reduceBEq, Bool.or_self, Bool.or_false, Bool.false_or, Bool.or_true, Bool.true_or, if_true]
  unfold withR
  simp only [List.map_cons, List.map_nil, upd1, List.all_nil, List.all_cons, show 2 < n by omega, decide_true, Bool.and_self, if_true, V.reAll, V.re, idx, Nat.beq, cond_true, cond_false, Option.bind_some, Option.map_some, pullObs, Ob.re, reRows, Nat.reduceAdd, h, List.length_cons, List.length_nil, Nat.le_refl]
  unfold afterR
  simp only [V.re, V.reAll, pushObs, back, nth, Ob.re, reRows, Option.bind_some, Option.map_some, List.isEmpty_cons, Bool.false_and, Bool.false_eq_true, if_false, Rd.run, List.append_nil, Nat.reduceAdd]
theorem lim120 (l : List S95) (roots q : List Int) (K : Nat) (hl : fewL l) (hK : ∀ b, (tgts l b).length ≤ K) (hKb : K < 1000) (hr : roots.length < 1000000) (hql : q.length < 100000) (hq : risesI q = true) (hm : ∀ b, b ∈ q ↔ RchS l roots b) :
    lim T fns 120 [.fz (l.map k95.enc), .fz (roots.map (Cd.int .u32).enc)] [] = some (.fz (q.map (Cd.int .u32).enc), []) := by
  have hcl := fun (n : Nat) (h : Heap) (tr : List Nat) => cloneF_at (n := n) (rows := roots.map (Cd.int .u32).enc) (h := h) (tr := tr) (all_int .u32 roots) (by rw [List.length_map]; omega)
  rw [List.length_map] at hcl
  have hk : ∀ b, isKey T 42 (.int .u32 b) = true := fun b => rfl
  refine fn_rule (fn := fn120) rfl rfl (by simp [fn120]) ?_
  unfold fn120
  simp only [Try.f120, Option.getD_some, argEnv, List.map_nil, List.length_nil]
  simp only [go_sem, T_1, T_3, T_4, T_5, T_9, T_22, T_42, T_51, T_69, T_76, T_90, T_91, T_93, T_95, T_96, T_98, T_100, T_121, T_145, T_194, hcl]
  refine loop_rule (ι := List Int × List Int × List (List V)) (S := fun p => ⟨[(0, .fz (l.map k95.enc)), (5, .map 0), (6, .ms 1 1 0 p.1.length none), (7, .ms 2 1 0 p.2.1.length none)], [some (.mp (seenE p.2.1) true), some (.buf 1 (p.1.map (Cd.int .u32).enc ++ p.2.2) false true), some (.buf 1 (p.2.1.map (Cd.int .u32).enc) false true)]⟩)
    (m := fun p => (q.length - p.2.1.length) * (K + 2) + p.1.length)
    (I := fun p => Srch l roots p.1 p.2.1 ∧ p.1.length ≤ roots.length + K * p.2.1.length) ?_ (roots, [], []) _ ⟨Srch.init, by simp⟩ (by simp only [List.append_nil]; kernel_rfl)
  rintro ⟨todo, out, ex⟩ ⟨hi, hlen⟩
  simp only at hi hlen
  have ho : out.length ≤ q.length := nodup_len hi.nodup fun x hx => (hm x).2 (hi.outR x hx)
  rcases List.eq_nil_or_concat todo with rfl | ⟨t, b, rfl⟩
  · have hs := call122_2 out none (by omega)
    have hg : ¬ ((0 : Nat) : Int) > 0 := by decide
    have hone := reach_one hi hq hm
    simp only [List.length_nil]
    simp only [go_sem, T_1, T_3, T_4, T_5, T_9, T_22, T_42, T_51, T_69, T_76, T_90, T_91, T_93, T_95, T_96, T_98, T_100, T_121, T_145, T_194, hg, hs]
    rw [finish_ms rfl (by simp [sortI]), hone]
  · rw [List.concat_eq_append] at *
    have hlen2 : (t ++ [b]).length = t.length + 1 := by simp
    rw [hlen2] at hlen
    have hx : ((t ++ [b]).map (Cd.int .u32).enc ++ ex)[t.length]? = some [.int .u32 b] := by
      rw [List.map_append, List.append_assoc, List.getElem?_append_right (by simp)]
      simp
      rfl
    have hg : ((t.length + 1 : Nat) : Int) > 0 := by omega
    have wp := wrap_pred1 (j := t.length) (by have := Nat.mul_le_mul (show K ≤ 1000 by omega) (show out.length ≤ 100000 by omega); omega)
    have hc := call171 l b hl
    have ht := call131 _ (few_node (b := b) hl)
    simp only [k93_enc] at ht
    have hlt : t.length < t.length + 1 := by omega
    have hle : t.length ≤ t.length + 1 := by omega
    by_cases hb : b ∈ out
    · simp only [hlen2]
      simp only [go_sem, T_1, T_3, T_4, T_5, T_9, T_22, T_42, T_51, T_69, T_76, T_90, T_91, T_93, T_95, T_96, T_98, T_100, T_121, T_145, T_194, hg, wp, hx, hlt, lookupR, hk, seen_find, giveR, hb, cutS, sliceR, optNat, okOr, Nat.zero_le, hle]
      refine ⟨(t, out, [.int .u32 b] :: ex), ⟨hi.skip hb, by simp only; omega⟩, by simp only [hlen2]; omega, ?_⟩
      simp only [List.map_append, List.append_assoc, List.map_cons, List.map_nil, List.singleton_append]
      show _ = _
      kernel_rfl
    · have hset := seen_set hb
      have hf : fits ⟨.bool, 1, 1, .bool false⟩ (.bool true) = true := rfl
      have b1 : (out.length + 1) * 4 ≤ 140737488355328 := by omega
      have b2 : out.length + 1 ≤ 140737488355328 := by omega
      simp only [hlen2]
      have hv := hi.visit hb
      have hql2 := nodup_len hv.nodup (fun x hx => (hm x).2 (hv.outR x hx))
      rw [List.length_append, List.length_singleton] at hql2
      have hkb := hK b
      have hte : targets ((find b l).getD noNode) = tgts l b := rfl
      rw [hte] at ht
      have hmul : K * (out.length + 1) = K * out.length + K := Nat.mul_succ _ _
      have hmul2 : (q.length - out.length) * (K + 2) = (q.length - (out.length + 1)) * (K + 2) + (K + 2) := by
        rw [← Nat.succ_mul]
        congr 1
        omega
      generalize tgts l b = ts at *
      by_cases hnil : ts = []
      · subst hnil
        simp only [List.map_nil] at ht
        simp only [go_sem, T_1, T_3, T_4, T_5, T_9, T_22, T_42, T_51, T_69, T_76, T_90, T_91, T_93, T_95, T_96, T_98, T_100, T_121, T_145, T_194, hg, wp, hx, hlt, lookupR, mapUpdateR, hk, hf, seen_find, hset, giveR, hb, cutS, sliceR, optNat, okOr, Nat.zero_le, hle, hc, ht, k93_enc, b1, b2]
        refine ⟨(t, out ++ [b], [.int .u32 b] :: ex), ⟨by simpa using hv, by simp only [List.length_append, List.length_singleton]; omega⟩, by simp only [hlen2, List.length_append, List.length_singleton]; omega, ?_⟩
        simp only [List.map_append, List.append_assoc, List.map_cons, List.map_nil, List.singleton_append, List.length_append, List.length_cons, List.length_nil, Nat.zero_add]
        show _ = _
        kernel_rfl
      · have hne : ts.length ≠ 0 := fun e => hnil (List.length_eq_zero_iff.1 e)
        have htl : t.length < 200000000 := by
          have := Nat.mul_le_mul (show K ≤ 1000 by omega) (show out.length ≤ 100000 by omega)
          omega
        simp only [go_sem, T_1, T_3, T_4, T_5, T_9, T_22, T_42, T_51, T_69, T_76, T_90, T_91, T_93, T_95, T_96, T_98, T_100, T_121, T_145, T_194, hg, wp, hx, hlt, lookupR, mapUpdateR, hk, hf, seen_find, hset, giveR, hb, cutS, sliceR, optNat, okOr, Nat.zero_le, hle, hc, ht, k93_enc, b1, b2]
        rw [app_fz (rows := List.map (Cd.int IntKind.u32).enc (t ++ [b]) ++ ex)]
        case hat => rfl
        case hl => simp
        case hb => simp; omega
        case hne => simpa using hne
        have htake : List.take t.length (List.map (Cd.int IntKind.u32).enc (t ++ [b]) ++ ex) = t.map (Cd.int IntKind.u32).enc := by
          rw [List.map_append, List.append_assoc, List.take_append_of_le_length (by simp)]
          rw [List.take_of_length_le (by simp)]
        rw [htake]
        generalize List.map (Cd.int IntKind.u32).enc (t ++ [b]) ++ ex = rows
        split
        · simp only [go_sem, T_1, T_3, T_4, T_5, T_9, T_22, T_42, T_51, T_69, T_76, T_90, T_91, T_93, T_95, T_96, T_98, T_100, T_121, T_145, T_194]
          refine ⟨(t ++ ts, out ++ [b], rows.drop (t.length + ts.length)), ⟨hv, by simp only [List.length_append, List.length_singleton]; omega⟩, by simp only [hlen2, List.length_append, List.length_singleton]; omega, ?_⟩
          simp only [List.map_append, List.append_assoc, List.map_cons, List.map_nil, List.singleton_append, List.length_append, List.length_cons, List.length_nil, Nat.zero_add, List.length_map]
          show _ = _
          kernel_rfl
        · simp only [go_sem, T_1, T_3, T_4, T_5, T_9, T_22, T_42, T_51, T_69, T_76, T_90, T_91, T_93, T_95, T_96, T_98, T_100, T_121, T_145, T_194]
          refine ⟨(t ++ ts, out ++ [b], []), ⟨hv, by simp only [List.length_append, List.length_singleton]; omega⟩, by simp only [hlen2, List.length_append, List.length_singleton]; omega, ?_⟩
          simp only [List.map_append, List.append_assoc, List.map_cons, List.map_nil, List.singleton_append, List.length_append, List.length_cons, List.length_nil, Nat.zero_add, List.length_map, List.append_nil]
          show _ = _
          kernel_rfl
end Go.Proofs.Ytfdemnefkfkghaa.R
/- The document's Reach (ref09.Reach). -/
namespace Go.Proofs.Ytfdemnefkfkghaa.R
open Go Go.Proofs
set_option linter.unusedSimpArgs false
set_option linter.unusedVariables false
set_option maxRecDepth 10000
set_option maxHeartbeats 4000000
/-- Numbers that stand as an empty object, at first. -/
def k8 (o : Option (List Int)) : V := match o with
  | none => .ms 0 1 0 0 none
  | some l => .fz (l.map (Cd.int .u32).enc)
def h8 (o : Option (List Int)) : Heap := match o with
  | none => [some (.buf 1 [] false true)]
  | some _ => []
theorem lim124 (l : List S95) (roots q : List Int) (hl : fewL l) (hr : roots.length < 10000000) (hql : q.length < 10000000) (hq : risesI q = true) (hm : ∀ b, b ∈ q ↔ RchS l roots b) (hT : ∀ b, (tgts l b).length < 10000000) :
    lim T fns 124 [.fz (l.map k95.enc), .fz (roots.map (Cd.int .u32).enc)] [] = some (.fz (q.map (Cd.int .u32).enc), []) := by
  refine fn_rule (fn := fn124) rfl rfl (by simp [fn124]) ?_
  unfold fn124
  simp only [Try.f124, Option.getD_some, argEnv, List.map_nil, List.length_nil]
  have hfz := callFz 179 fn179 (T := T) (fns := fns) rfl rfl 2 rfl
  have hput0 := fun (b : Int) => lim179 [] b (by simp)
  simp only [List.map_nil] at hput0
  simp only [go_sem, T_3, T_4, T_5, T_9, T_22, T_42, T_51, T_69, T_76, T_90, T_91, T_93, T_95, T_96, T_98, T_100, T_121, T_145]
  refine loop_rule (ι := Nat × Option (List Int)) (S := fun p => ⟨[(0, .fz (l.map k95.enc)), (1, .fz (roots.map (Cd.int .u32).enc)), (5, k8 p.2), (16, .int .i64 roots.length), (17, .int .i64 p.1)], h8 p.2⟩) (m := fun p => roots.length + 1 - p.1)
    (I := fun p => p.1 ≤ roots.length ∧ p.2.getD [] = puts (roots.take p.1) []) ?_ (0, none) _ ⟨by simp, rfl⟩ (by kernel_rfl)
  rintro ⟨i, o⟩ ⟨hi, hg⟩
  simp only at hi hg
  by_cases hlt : i < roots.length
  · have hx : roots[i]? = some roots[i] := List.getElem?_eq_getElem hlt
    have hn : puts (roots.take (i + 1)) [] = putB (puts (roots.take i) []) roots[i] := by
      rw [List.take_succ_eq_append_getElem hlt, puts_snoc]
    have hlen := (puts_length (ts := roots.take i) (acc := [])).2
    have hlen2 : (roots.take i).length ≤ i := by simp; omega
    rw [← hg] at hn hlen
    simp only [List.length_nil] at hlen
    generalize roots[i] = b at *
    rcases o with _ | all
    · simp only [k8, h8]
      simp only [go_sem, T_3, T_4, T_5, T_9, T_22, T_42, T_51, T_69, T_76, T_90, T_91, T_93, T_95, T_96, T_98, T_100, T_121, T_145, all_int, hlt, hx, hfz, hput0, wrap_i64s (show i < 1000000000000000000 by omega)]
      exact ⟨(i + 1, some (putB [] b)), ⟨by simp only; omega, hn.symm⟩, by simp only; omega, by kernel_rfl⟩
    · simp only [Option.getD_some] at hn hlen
      simp only [k8, h8]
      simp only [go_sem, T_3, T_4, T_5, T_9, T_22, T_42, T_51, T_69, T_76, T_90, T_91, T_93, T_95, T_96, T_98, T_100, T_121, T_145, all_int, hlt, hx, hfz, lim179 all _ (show all.length < 1000000000 by omega), wrap_i64s (show i < 1000000000000000000 by omega)]
      exact ⟨(i + 1, some (putB all b)), ⟨by simp only; omega, hn.symm⟩, by simp only; omega, by kernel_rfl⟩
  obtain rfl : i = roots.length := by omega
  rw [List.take_length] at hg
  have hR0 : Rnd l roots (o.getD []) := hg ▸ Rnd.init
  clear hg hi
  simp only [go_sem, T_3, T_4, T_5, T_9, T_22, T_42, T_51, T_69, T_76, T_90, T_91, T_93, T_95, T_96, T_98, T_100, T_121, T_145, hlt]
  clear hlt
  refine loop_rule (ι := Option (List Int)) (S := fun o => ⟨[(0, .fz (l.map k95.enc)), (5, k8 o)], h8 o⟩) (m := fun o => q.length + 1 - (o.getD []).length)
    (I := fun o => Rnd l roots (o.getD [])) ?_ o _ hR0 (by cases o <;> kernel_rfl)
  clear hR0 o
  intro o hR
  have hRl := hR.len hm
  rcases o with _ | now
  · simp only [Option.getD_none] at hR
    have hd : ([] : List Int) = q := hR.done hq hm (by simp [tgtsAll, puts])
    subst hd
    simp only [k8, h8]
    simp only [go_sem, T_3, T_4, T_5, T_9, T_22, T_42, T_51, T_69, T_76, T_90, T_91, T_93, T_95, T_96, T_98, T_100, T_121, T_145]
    refine loop_rule (ι := Unit) (S := fun _ => ⟨[(0, .fz (l.map k95.enc)), (5, .ms 0 1 0 0 none), (7, .int .i64 0), (8, .ms 0 1 0 0 none), (31, .int .i64 0), (32, .int .i64 0)], [some (.buf 1 [] false true)]⟩) (m := fun _ => 0)
      (I := fun _ => True) ?_ () _ trivial (by kernel_rfl)
    rintro _ _
    simp only [go_sem, T_3, T_4, T_5, T_9, T_22, T_42, T_51, T_69, T_76, T_90, T_91, T_93, T_95, T_96, T_98, T_100, T_121, T_145]
    exact finish_ms rfl rfl
  · simp only [Option.getD_some] at hR hRl ⊢
    simp only [k8, h8]
    simp only [go_sem, T_3, T_4, T_5, T_9, T_22, T_42, T_51, T_69, T_76, T_90, T_91, T_93, T_95, T_96, T_98, T_100, T_121, T_145]
    refine loop_rule (ι := Nat × List Int) (S := fun p => ⟨[(0, .fz (l.map k95.enc)), (5, .fz (p.2.map (Cd.int .u32).enc)), (7, .int .i64 now.length), (8, .fz (now.map (Cd.int .u32).enc)), (31, .int .i64 now.length), (32, .int .i64 p.1)], []⟩) (m := fun p => now.length + 1 - p.1)
      (I := fun p => p.1 ≤ now.length ∧ p.2 = puts (tgtsAll l (now.take p.1)) now) ?_ (0, now) _ ⟨by simp, rfl⟩ (by kernel_rfl)
    rintro ⟨i, out⟩ ⟨hi, hg⟩
    simp only at hi hg
    have hin : ∀ x ∈ puts (tgtsAll l (now.take i)) now, x ∈ puts (tgtsAll l now) now := fun x hx => by
      rcases puts_mem.1 hx with h | h
      · exact puts_mem.2 (.inl h)
      · refine puts_mem.2 (.inr ?_)
        unfold tgtsAll at *
        obtain ⟨c, hc, h⟩ := List.mem_flatMap.1 h
        exact List.mem_flatMap.2 ⟨c, List.mem_of_mem_take hc, h⟩
    have hol : out.length ≤ q.length := by
      rw [hg]
      exact Nat.le_trans (nodup_len (rises_nodup (puts_rises hR.rises)) hin) (hR.next.len hm)
    by_cases hlt : i < now.length
    · have hx : now[i]? = some now[i] := List.getElem?_eq_getElem hlt
      have hfew := few_node (b := now[i]) hl
      have hf := call68 l now[i] hl
      have ht := call67 _ hfew
      have htl := hT now[i]
      have hnext : puts (tgtsAll l (now.take (i + 1))) now = puts (tgts l now[i]) out := by
        rw [List.take_succ_eq_append_getElem hlt, tgtsAll_snoc, puts_app, hg]
      simp only [k93_enc] at ht hf
      have hte : targets ((find now[i] l).getD noNode) = tgts l now[i] := rfl
      rw [hte] at ht
      have hol2 : (puts (tgts l now[i]) out).length ≤ q.length := by
        rw [← hnext]
        refine Nat.le_trans (nodup_len (rises_nodup (puts_rises hR.rises)) (q := puts (tgtsAll l now) now) fun x hx => ?_) (hR.next.len hm)
        rcases puts_mem.1 hx with h | h
        · exact puts_mem.2 (.inl h)
        · refine puts_mem.2 (.inr ?_)
          unfold tgtsAll at *
          obtain ⟨c, hc, h⟩ := List.mem_flatMap.1 h
          exact List.mem_flatMap.2 ⟨c, List.mem_of_mem_take hc, h⟩
      simp only [go_sem, T_3, T_4, T_5, T_9, T_22, T_42, T_51, T_69, T_76, T_90, T_91, T_93, T_95, T_96, T_98, T_100, T_121, T_145, all_int, hlt, hx, hf, ht]
      generalize tgts l now[i] = ts at *
      refine loop_rule (ι := Nat × List Int) (S := fun p => ⟨[(0, .fz (l.map k95.enc)), (5, .fz (p.2.map (Cd.int .u32).enc)), (7, .int .i64 now.length), (8, .fz (now.map (Cd.int .u32).enc)), (12, .fz (ts.map (Cd.int .u32).enc)), (31, .int .i64 now.length), (32, .int .i64 i), (47, .int .i64 ts.length), (48, .int .i64 p.1)], []⟩) (m := fun p => ts.length + 1 - p.1)
        (I := fun p => p.1 ≤ ts.length ∧ p.2 = puts (ts.take p.1) out) ?_ (0, out) _ ⟨by simp, rfl⟩ (by kernel_rfl)
      rintro ⟨j, acc⟩ ⟨hj, hga⟩
      simp only at hj hga
      by_cases hlj : j < ts.length
      · have hy : ts[j]? = some ts[j] := List.getElem?_eq_getElem hlj
        have hacc : acc.length < 1000000000 := by
          have := (puts_length (ts := ts.take j) (acc := out)).2
          rw [← hga, List.length_take] at this
          omega
        have hcall := hfz
        simp only [go_sem, T_3, T_4, T_5, T_9, T_22, T_42, T_51, T_69, T_76, T_90, T_91, T_93, T_95, T_96, T_98, T_100, T_121, T_145, all_int, hlj, hy, hfz, lim179 acc _ hacc, wrap_i64s (show j < 1000000000000000000 by omega)]
        refine ⟨(j + 1, putB acc ts[j]), ⟨by simp only; omega, ?_⟩, by simp only; omega, by kernel_rfl⟩
        simp only
        rw [List.take_succ_eq_append_getElem hlj, puts_snoc, hga]
      · obtain rfl : j = ts.length := by omega
        rw [List.take_length] at hga
        simp only [go_sem, T_3, T_4, T_5, T_9, T_22, T_42, T_51, T_69, T_76, T_90, T_91, T_93, T_95, T_96, T_98, T_100, T_121, T_145, hlj, Nat.lt_irrefl, wrap_i64s (show i < 1000000000000000000 by omega)]
        exact ⟨(i + 1, acc), ⟨by simp only; omega, by simp only; rw [hnext, hga]⟩, by simp only; omega, by kernel_rfl⟩
    · obtain rfl : i = now.length := by omega
      rw [List.take_length] at hg
      by_cases hsame : out.length = now.length
      · have hd : now = q := hR.done hq hm (by rw [← hg]; exact hsame)
        have hoq : out = q := by
          rw [hg]
          exact hR.next.done hq hm (by
            have e : puts (tgtsAll l now) now = now := by
              refine rises_ext (puts_rises hR.rises) hR.rises fun b => ?_
              rw [puts_mem]
              exact ⟨fun h => h.elim id fun h => puts_same (by rw [← hg]; exact hsame) b h, .inl⟩
            rw [e, e])
        have hb : (out.length : Int) = now.length := by omega
        simp only [go_sem, T_3, T_4, T_5, T_9, T_22, T_42, T_51, T_69, T_76, T_90, T_91, T_93, T_95, T_96, T_98, T_100, T_121, T_145, hlt, hb, beq_self_eq_true]
        rw [hoq]
      · have hb : ((out.length : Int) == now.length) = false := by
          simp only [beq_eq_false_iff_ne, ne_eq]
          omega
        have hb2 : ¬ (out.length : Int) = now.length := by omega
        have hge := (puts_length (ts := tgtsAll l now) (acc := now)).1
        rw [← hg] at hge
        simp only [go_sem, T_3, T_4, T_5, T_9, T_22, T_42, T_51, T_69, T_76, T_90, T_91, T_93, T_95, T_96, T_98, T_100, T_121, T_145, hlt, hb, hb2]
        exact ⟨some out, by simp only [Option.getD_some]; rw [hg]; exact hR.next, by simp only [Option.getD_some]; omega, by kernel_rfl⟩
end Go.Proofs.Ytfdemnefkfkghaa.R
/- slices.Compact. -/
namespace Go.Proofs.Ytfdemnefkfkghaa.R
open Go Go.Proofs
set_option linter.unusedSimpArgs false
set_option linter.unusedVariables false
set_option maxRecDepth 10000
set_option maxHeartbeats 4000000
theorem compI_drop_ne {l : List Int} {m : Nat} {x y : Int} (hx : l[m]? = some x) (hy : l[m + 1]? = some y) (h : x ≠ y) : compI (l.drop m) = x :: compI (l.drop (m + 1)) := by
  obtain ⟨h1, h1e⟩ := List.getElem?_eq_some_iff.1 hx
  obtain ⟨h2, h2e⟩ := List.getElem?_eq_some_iff.1 hy
  rw [List.drop_eq_getElem_cons h1, List.drop_eq_getElem_cons h2, h1e, h2e]
  simp only [compI]
  rw [if_neg h]
theorem compI_drop_eq {l : List Int} {m : Nat} {x : Int} (hx : l[m]? = some x) (hy : l[m + 1]? = some x) : compI (l.drop m) = compI (l.drop (m + 1)) := by
  obtain ⟨h1, h1e⟩ := List.getElem?_eq_some_iff.1 hx
  obtain ⟨h2, h2e⟩ := List.getElem?_eq_some_iff.1 hy
  rw [List.drop_eq_getElem_cons h1, List.drop_eq_getElem_cons h2, h1e, h2e]
  simp only [compI, if_true]
theorem compI_drop_end {l : List Int} {m : Nat} {x : Int} (hx : l[m]? = some x) (h : m + 1 = l.length) : compI (l.drop m) = [x] := by
  obtain ⟨h1, h1e⟩ := List.getElem?_eq_some_iff.1 hx
  rw [List.drop_eq_getElem_cons h1, List.drop_eq_nil_of_le (by omega), h1e]
  rfl
theorem compI_len : ∀ {l : List Int}, (compI l).length ≤ l.length
  | [] => Nat.le_refl _
  | [x] => Nat.le_refl _
  | x :: y :: r => by
    have := compI_len (l := y :: r)
    simp only [compI]
    split <;> simp only [List.length_cons] at * <;> omega
theorem lim123 (l : List Int) (hs : l.length < 1000000000) : lim T fns 123 [.ms 0 1 0 l.length none] [.buf 1 (l.map (Cd.int .u32).enc) false true] =
    some (.ms 0 1 0 (compI l).length none, [some (.buf 1 ((compI l ++ List.replicate (l.length - (compI l).length) 0).map (Cd.int .u32).enc) false true)]) := by
  refine fn_rule (fn := fn123) rfl rfl (by simp [fn123]) ?_
  unfold fn123
  simp only [Try.f123, Option.getD_some, argEnv, List.map_nil, List.length_nil]
  rcases Nat.lt_or_ge l.length 2 with h2 | h2
  · have e : compI l = l := by
      rcases l with _ | ⟨x, _ | ⟨y, r⟩⟩
      · rfl
      · rfl
      · simp at h2
        omega
    have h2i : ((l.length : Nat) : Int) < 2 := by omega
    simp only [go_sem, T_3, T_42, T_76, h2i]
    rw [e, Nat.sub_self, List.replicate_zero, List.append_nil]
    show _ = _
    kernel_rfl
  · have h2i : ¬ ((l.length : Nat) : Int) < 2 := by omega
    simp only [go_sem, T_3, T_42, T_76, h2i]
    refine loop_rule (ι := Nat) (S := fun k => ⟨[(0, .ms 0 1 0 l.length none), (3, .int .i64 (k + 1 : Nat))], [some (.buf 1 (l.map (Cd.int .u32).enc) false true)]⟩) (m := fun k => l.length - k)
      (I := fun k => k < l.length ∧ compI l = l.take k ++ compI (l.drop k)) ?_ 0 _ ⟨by omega, by simp⟩ (by kernel_rfl)
    rintro k ⟨hk, hc⟩
    have hx : l[k]? = some l[k] := List.getElem?_eq_getElem hk
    have wp := wrap_pred1 (j := k) (by omega)
    by_cases hlt : k + 1 < l.length
    · have hy : l[k + 1]? = some l[k + 1] := List.getElem?_eq_getElem hlt
      have hle : k + 1 ≤ l.length := by omega
      by_cases he : l[k + 1] = l[k]
      · have hd := compI_drop_eq hx (he ▸ hy)
        simp only [go_sem, T_3, T_42, T_76, hlt, hx, hy, wp, he, hk, cutS, sliceR, optNat, okOr, Nat.zero_le, hle, Nat.le_refl]
        repeat (refine ⟨by kernel_rfl, ?_⟩)
        refine loop_rule (ι := List Int × Nat × Int × List Int) (S := fun p => ⟨[(0, .ms 0 1 0 l.length none), (3, .int .i64 (p.1.length + 1 : Nat)), (4, .ms 0 1 (k + 1) (l.length - (k + 1)) none), (5, .int .i64 (p.2.1 + 1 : Nat))], [some (.buf 1 (p.2.2.2.map (Cd.int .u32).enc) false true)]⟩) (m := fun p => l.length - p.2.1)
          (I := fun p => p.1.length ≤ k + p.2.1 ∧ k + 1 + p.2.1 < l.length ∧ l[k + 1 + p.2.1]? = some p.2.2.1 ∧ p.2.2.2.length = l.length ∧ p.2.2.2.take (p.1.length + 1) = p.1 ++ [p.2.2.1] ∧ p.2.2.2.drop (k + 1 + p.2.1) = l.drop (k + 1 + p.2.1) ∧ compI l = p.1 ++ compI (l.drop (k + 1 + p.2.1))) ?_ (l.take k, 0, l[k], l) _ ?_ ?_
        · rintro ⟨o, j, x, c⟩ ⟨h1, h2, h3, h4, h5, h6, h7⟩
          simp only at h1 h2 h3 h4 h5 h6 h7
          have wpj := wrap_pred1 (j := j) (by omega)
          have hget : ∀ i, k + 1 + j ≤ i → c[i]? = l[i]? := fun i hi => by
            have e := congrArg (fun z => z[i - (k + 1 + j)]?) h6
            simp only [List.getElem?_drop] at e
            rwa [show k + 1 + j + (i - (k + 1 + j)) = i by omega] at e
          have hx1 : c[k + 1 + j]? = some x := by rw [hget _ (Nat.le_refl _), h3]
          by_cases hj : j + 1 < l.length - (k + 1)
          · have hjx : j < l.length - (k + 1) := by omega
            have hm : k + 1 + (j + 1) < l.length := by omega
            have hy0 : l[k + 1 + (j + 1)]? = some l[k + 1 + (j + 1)] := List.getElem?_eq_getElem hm
            have hy1 : c[k + 1 + (j + 1)]? = some l[k + 1 + (j + 1)] := by rw [hget _ (by omega), hy0]
            have b1 : k + 1 + (j + 1) < c.length := by omega
            have b2 : k + 1 + j < c.length := by omega
            have b3 : o.length + 1 < l.length := by omega
            have b4 : o.length + 1 < c.length := by omega
            obtain ⟨z, hz⟩ : ∃ z, c[o.length + 1]? = some z := ⟨_, List.getElem?_eq_getElem b4⟩
            generalize l[k + 1 + (j + 1)] = y at *
            by_cases hxy : y = x
            · subst hxy
              simp only [go_sem, T_3, T_42, T_76, hj, hjx, hx1, hy1, wpj, b1, b2, bne_self_eq_false, wrap_i64s (show j + 1 < 1000000000000000000 by omega)]
              repeat (refine ⟨by kernel_rfl, ?_⟩)
              refine ⟨(o, j + 1, y, c), ⟨by simp only; omega, by simp only; omega, hy0, h4, h5, ?_, ?_⟩, by simp only; omega, by kernel_rfl⟩
              · have e := congrArg (List.drop 1) h6
                simp only [List.drop_drop] at e
                exact e
              · simp only
                rw [h7, compI_drop_eq h3 (by rw [Nat.add_assoc]; exact hy0)]
                rfl
            · have hne : (y != x) = true := by simpa using hxy
              simp only [go_sem, T_3, T_42, T_76, hj, hjx, hx1, hy1, wpj, b1, b2, b3, b4, hz, hne, Nat.le_refl, wrap_i64s (show j + 1 < 1000000000000000000 by omega), wrap_i64s (show o.length + 1 < 1000000000000000000 by omega)]
              repeat (refine ⟨by kernel_rfl, ?_⟩)
              refine ⟨(o ++ [x], j + 1, y, c.set (o.length + 1) y), ⟨by simp; omega, by simp only; omega, hy0, by simpa using h4, ?_, ?_, ?_⟩, by simp only; omega, ?_⟩
              · simp only [List.length_append, List.length_singleton]
                rw [List.take_succ_eq_append_getElem (by simpa using b4), List.take_set_of_le (Nat.le_refl _), h5]
                simp
              · have e := congrArg (List.drop 1) h6
                simp only [List.drop_drop] at e ⊢
                rw [List.drop_set_of_lt (by omega)]
                exact e
              · simp only
                rw [h7, compI_drop_ne h3 (by rw [Nat.add_assoc]; exact hy0) (fun h => hxy h.symm)]
                simp [Nat.add_assoc]
              · simp only [List.map_set, List.length_append, List.length_singleton]
                show _ = _
                kernel_rfl
          · have hm1 : k + 1 + j + 1 = l.length := by omega
            have hcl : compI l = o ++ [x] := by rw [h7, compI_drop_end h3 hm1]
            have hol : o.length + 1 ≤ l.length := by omega
            have hlc : o.length + 1 + (l.length - (o.length + 1)) ≤ c.length := by omega
            have hlc2 : o.length + 1 + (l.length - (o.length + 1)) = c.length := by omega
            simp only [go_sem, T_3, T_42, T_76, hj, cutS, sliceR, optNat, okOr, Nat.zero_le, Nat.le_refl, hol, clearR, hlc]
            rw [hcl, List.drop_eq_nil_of_le (by rw [List.length_map]; omega), List.append_nil, ← List.map_take, h5]
            simp only [List.length_append, List.length_singleton, List.map_append, List.map_replicate]
            show _ = _
            kernel_rfl
        · refine ⟨by simp; omega, by simp only; omega, by simp only [Nat.add_zero]; rw [hy, he], rfl, ?_, rfl, ?_⟩
          · simp only [List.length_take, Nat.min_eq_left (Nat.le_of_lt hk)]
            rw [List.take_succ_eq_append_getElem hk]
          · simp only [Nat.add_zero]
            rw [← hd]
            exact hc
        · simp only [List.length_take, Nat.min_eq_left (Nat.le_of_lt hk)]
          show _ = _
          kernel_rfl
      · simp only [go_sem, T_3, T_42, T_76, hlt, hx, hy, wp, he, hk, wrap_i64s (show k + 1 < 1000000000000000000 by omega)]
        repeat (refine ⟨by kernel_rfl, ?_⟩)
        refine ⟨k + 1, ⟨hlt, ?_⟩, by simp only; omega, by kernel_rfl⟩
        rw [hc, compI_drop_ne hx hy (fun h => he h.symm), List.take_succ_eq_append_getElem hk, List.append_assoc]
        rfl
    · have e : compI l = l := by
        have e2 : l.take k ++ [l[k]] = l := by
          rw [← List.take_succ_eq_append_getElem hk, List.take_of_length_le (by omega)]
        rw [hc, compI_drop_end hx (by omega), e2]
      simp only [go_sem, T_3, T_42, T_76, hlt, hx, wp]
      rw [e, Nat.sub_self, List.replicate_zero, List.append_nil]
      show _ = _
      kernel_rfl
theorem call123 (l : List Int) (hs : l.length < 1000000000) (n : Nat) (hm : 1 ≤ n) (rest : Heap) : (callV (LX T fns) n (.clo 123 []) [.ms 0 1 0 l.length none]).run (some (.buf 1 (l.map (Cd.int .u32).enc) false true) :: rest) [] =
    some ((.ms 0 1 0 (compI l).length none, [(0, some (.buf 1 ((compI l ++ List.replicate (l.length - (compI l).length) 0).map (Cd.int .u32).enc) false true))]), [0]) := by
  have h := lim123 l hs
  have hf : fns 123 = some fn123 := rfl
  unfold callV
  simp only [hf]
  unfold callR
  simp only [fn123, List.cons_append, List.nil_append, List.append_nil, frzArgs, frz, frzAll, frzG, frzGAll, ms2, msUp, List.tail]
  simp only [V.allIds, V.ids, List.append_nil, List.nil_append, collect, List.map_nil, List.contains_nil, Bool.false_eq_true, if_false, Rd.run, Heap.at?, Ob.ids, rowsIds, List.map_cons, List.cons_append, List.contains_cons, Nat.reduceBEq, Bool.or_self, Bool.or_false, Bool.false_or, Bool.or_true, Bool.true_or, if_true]
  unfold withR
  simp only [List.map_cons, List.map_nil, upd1, List.all_nil, List.all_cons, show 0 < n by omega, decide_true, Bool.and_self, if_true, V.reAll, V.re, idx, Nat.beq, cond_true, cond_false, Option.bind_some, Option.map_some, pullObs, Ob.re, reRows, Nat.reduceAdd, h, List.length_cons, List.length_nil, Nat.le_refl]
  unfold afterR
  simp only [V.re, V.reAll, pushObs, back, nth, Ob.re, reRows, Option.bind_some, Option.map_some, List.isEmpty_cons, Bool.false_and, Bool.false_eq_true, if_false, Rd.run, List.append_nil, Nat.reduceAdd]
end Go.Proofs.Ytfdemnefkfkghaa.R
/- Chapter 27's laws: Garbage. -/
namespace Go.Proofs.Ytfdemnefkfkghaa.R
open Go Go.Proofs
set_option linter.unusedSimpArgs false
set_option linter.unusedVariables false
set_option maxRecDepth 10000
set_option maxHeartbeats 4000000
theorem hasI_hasB {k : Int} : ∀ {l : List Int}, risesI l = true → hasI k l = hasB k l
  | [], _ => rfl
  | x :: r, h => by
    by_cases h1 : x < k
    · rw [hasI_next h1, hasI_hasB (risesI_tail h)]
      have h2 : (x == k) = false := by simpa using fun e : x = k => by omega
      simp [hasB, h2]
    · rw [hasI_here h1]
      by_cases h2 : x = k
      · simp [hasB, h2]
      · have h3 : (x == k) = false := by simpa using h2
        have h4 : hasB k r = false := by
          cases e : hasB k r with
          | false => rfl
          | true =>
            have := risesI_lt h k (hasB_iff.1 e)
            omega
        unfold hasB at h4 ⊢
        rw [List.any_cons, h3, h4]
        simp [h2]
theorem notIn_succ {live : List Int} {l : List S95} {i : Nat} (h : i < l.length) : notIn live (blocks (l.take (i + 1))) = notIn live (blocks (l.take i)) ++ if hasB l[i].f0 live then [] else [l[i].f0] := by
  unfold notIn blocks
  rw [List.take_succ_eq_append_getElem h, List.map_append, List.filter_append]
  congr 1
  simp only [List.map_cons, List.map_nil, List.filter_cons, List.filter_nil]
  cases hasB l[i].f0 live <;> rfl
theorem notIn_len {live l : List Int} : (notIn live l).length ≤ l.length := List.length_filter_le _ _
/-- The first rows of an object are the answer. -/
theorem finish_part {h : Heap} {i st n : Nat} {c : Option Nat} {rows : List (List V)} {f : Bool} (hat : h.at? i = some (.buf st rows f true)) (hl : n ≤ rows.length) : finish 0 true (.ms i st 0 n c) h = some (.fz (rows.take n), []) := by
  refine finish_true (u := [(i, some (.buf st rows true true))]) (l := [i]) ?_ rfl
  simp only [frz, frzAll, frzG, frzGAll, ms2, msUp, Rd.run, hat]
  rw [if_pos ⟨trivial, by omega⟩]
  simp [Rd.run]
theorem lim55 (l : List S95) (m : S80) (q : List Int) (K : Nat) (hl : fewL l) (hK : ∀ b, (tgts l b).length ≤ K) (hKb : K < 1000) (hv : m.f2.length < 1000000) (hql : q.length < 100000) (hq : risesI q = true) (hm : ∀ b, b ∈ q ↔ RchS l (m.f2.map (·.f1)) b) (hll : l.length < 1000000) :
    lim T fns 55 [.fz (l.map k95.enc), .agg (k80.enc m)] [] = some (.fz ((compI (sortI (notIn q (blocks l)))).map (Cd.int .u32).enc), []) := by
  simp only [k80_enc]
  refine fn_rule (fn := fn55) rfl rfl (by simp [fn55]) ?_
  unfold fn55
  simp only [Try.f55, Option.getD_some, argEnv, List.map_nil, List.length_nil]
  have hfz := callFz 120 fn120 (T := T) (fns := fns) rfl rfl 2 rfl
  have hreach := lim120 l (m.f2.map (·.f1)) q K hl hK hKb (by simpa using hv) hql hq hm
  simp only [go_sem, T_1, T_3, T_4, T_5, T_9, T_22, T_42, T_51, T_69, T_76, T_77, T_78, T_80, T_90, T_91, T_93, T_95, T_96, T_98, T_100, T_121, T_145, T_179, T_184]
  refine loop_rule (ι := Nat) (S := fun i => ⟨[(0, .fz (l.map k95.enc)), (5, .ms 0 1 0 i none), (15, .fz (m.f2.map k179.enc)), (16, .int .i64 m.f2.length), (17, .int .i64 i)], [some (.buf 1 (((m.f2.map (·.f1)).take i).map (Cd.int .u32).enc) false true)]⟩) (m := fun i => m.f2.length + 1 - i)
    (I := fun i => i ≤ m.f2.length) ?_ 0 _ (Nat.zero_le _) (by kernel_rfl)
  rintro i hi
  by_cases hlt : i < m.f2.length
  · have hx : m.f2[i]? = some m.f2[i] := List.getElem?_eq_getElem hlt
    have b1 : (i + 1) * 4 ≤ 140737488355328 := by omega
    have b2 : i + 1 ≤ 140737488355328 := by omega
    have hlen : ((m.f2.map (·.f1)).take i).length = i := by simp; omega
    have hsucc : (m.f2.map (·.f1)).take (i + 1) = (m.f2.map (·.f1)).take i ++ [m.f2[i].f1] := by
      rw [List.take_succ_eq_append_getElem (by simpa using hlt)]
      simp
    simp only [go_sem, T_1, T_3, T_4, T_5, T_9, T_22, T_42, T_51, T_69, T_76, T_77, T_78, T_80, T_90, T_91, T_93, T_95, T_96, T_98, T_100, T_121, T_145, T_179, T_184, all179, hlt, hx, k179_enc, hlen, b1, b2, wrap_i64s (show i < 1000000000000000000 by omega)]
    refine ⟨i + 1, by omega, by simp only; omega, ?_⟩
    simp only [hsucc, List.map_append, List.map_cons, List.map_nil]
    show _ = _
    kernel_rfl
  obtain rfl : i = m.f2.length := by omega
  have htk : (m.f2.map (·.f1)).take m.f2.length = m.f2.map (·.f1) := List.take_of_length_le (by simp)
  have hlen : (m.f2.map (·.f1)).length = m.f2.length := by simp
  simp only [htk]
  generalize hroots : m.f2.map (·.f1) = roots at *
  rw [← hlen]
  have hnl : ¬ roots.length < roots.length := Nat.lt_irrefl _
  simp only [go_sem, T_1, T_3, T_4, T_5, T_9, T_22, T_42, T_51, T_69, T_76, T_77, T_78, T_80, T_90, T_91, T_93, T_95, T_96, T_98, T_100, T_121, T_145, T_179, T_184, hlt, hfz, hreach, hnl]
  clear hlt hi
  refine loop_rule (ι := Nat) (S := fun i => ⟨[(8, .fz (q.map (Cd.int .u32).enc)), (9, .ms 0 1 0 (notIn q (blocks (l.take i))).length none), (30, .fz (l.map k95.enc)), (31, .int .i64 l.length), (32, .int .i64 i)], [some (.buf 1 ((notIn q (blocks (l.take i))).map (Cd.int .u32).enc) false true)]⟩) (m := fun i => l.length + 1 - i)
    (I := fun i => i ≤ l.length) ?_ 0 _ (Nat.zero_le _) (by kernel_rfl)
  rintro i hi
  have hnl := notIn_len (live := q) (l := blocks (l.take i))
  have hbl : (blocks (l.take i)).length ≤ i := by simp [blocks]; omega
  by_cases hlt : i < l.length
  · have hx : l[i]? = some l[i] := List.getElem?_eq_getElem hlt
    have hsearch := call121 l[i].f0 q hq (by omega)
    have hsucc := notIn_succ (live := q) hlt
    have hh := hasI_hasB (k := l[i].f0) hq
    have b1 : ((notIn q (blocks (l.take i))).length + 1) * 4 ≤ 140737488355328 := by omega
    have b2 : (notIn q (blocks (l.take i))).length + 1 ≤ 140737488355328 := by omega
    generalize notIn q (blocks (l.take i)) = acc at *
    cases hb : hasB l[i].f0 q with
    | true =>
      rw [hb, if_pos rfl, List.append_nil] at hsucc
      rw [hb] at hh
      simp only [go_sem, T_1, T_3, T_4, T_5, T_9, T_22, T_42, T_51, T_69, T_76, T_77, T_78, T_80, T_90, T_91, T_93, T_95, T_96, T_98, T_100, T_121, T_145, T_179, T_184, all95, hlt, hx, k95_enc, hsearch, hh, wrap_i64s (show i < 1000000000000000000 by omega)]
      exact ⟨i + 1, by omega, by simp only; omega, by simp only [hsucc]; kernel_rfl⟩
    | false =>
      rw [hb, if_neg (by simp)] at hsucc
      rw [hb] at hh
      simp only [go_sem, T_1, T_3, T_4, T_5, T_9, T_22, T_42, T_51, T_69, T_76, T_77, T_78, T_80, T_90, T_91, T_93, T_95, T_96, T_98, T_100, T_121, T_145, T_179, T_184, all95, hlt, hx, k95_enc, hsearch, hh, b1, b2, wrap_i64s (show i < 1000000000000000000 by omega)]
      exact ⟨i + 1, by omega, by simp only; omega, by
        simp only [hsucc, List.map_append, List.map_cons, List.map_nil, List.length_append, List.length_cons, List.length_nil]
        kernel_rfl⟩
  · obtain rfl : i = l.length := by omega
    rw [List.take_length] at *
    have hs := fun (n : Nat) (hn : 1 ≤ n) (rest : Heap) => call122 (notIn q (blocks l)) none (by omega) n hn rest
    have hslen : (sortI (notIn q (blocks l))).length = (notIn q (blocks l)).length := by simp [sortI]
    have hc := fun (n : Nat) (hn : 1 ≤ n) (rest : Heap) => call123 (sortI (notIn q (blocks l))) (by omega) n hn rest
    rw [hslen] at hc
    simp only [go_sem, T_1, T_3, T_4, T_5, T_9, T_22, T_42, T_51, T_69, T_76, T_77, T_78, T_80, T_90, T_91, T_93, T_95, T_96, T_98, T_100, T_121, T_145, T_179, T_184, hlt, hs, hc]
    rw [finish_part rfl (by simp)]
    rw [← List.map_take, List.take_left]
theorem or_hasB {live : List Int} {b : Int} {i : Nat} (h : i < live.length) : (hasB b (live.take i) || decide (live[i] = b)) = hasB b (live.take (i + 1)) := by
  unfold hasB
  rw [List.take_succ_eq_append_getElem h, List.any_append]
  congr 1
  by_cases e : live[i] = b <;> simp [e]
theorem notIn_succI {live all : List Int} {i : Nat} (h : i < all.length) : notIn live (all.take (i + 1)) = notIn live (all.take i) ++ if hasB all[i] live then [] else [all[i]] := by
  unfold notIn
  rw [List.take_succ_eq_append_getElem h, List.filter_append]
  congr 1
  simp only [List.filter_cons, List.filter_nil]
  cases hasB all[i] live <;> rfl
theorem lim56 (l : List S95) (m : S80) (q all : List Int) (hl : fewL l) (hv : m.f2.length < 1000000) (hql : q.length < 10000000) (hq : risesI q = true) (hm : ∀ b, b ∈ q ↔ RchS l (m.f2.map (·.f1)) b) (hT : ∀ b, (tgts l b).length < 10000000) (hll : l.length < 1000000)
    (ha : risesI all = true) (ham : ∀ b, b ∈ all ↔ b ∈ blocks l) (hal : all.length < 10000000) :
    lim T fns 56 [.fz (l.map k95.enc), .agg (k80.enc m)] [] = some (.fz ((notIn q all).map (Cd.int .u32).enc), []) := by
  simp only [k80_enc]
  refine fn_rule (fn := fn56) rfl rfl (by simp [fn56]) ?_
  unfold fn56
  simp only [Try.f56, Option.getD_some, argEnv, List.map_nil, List.length_nil]
  have hfz := callFz 124 fn124 (T := T) (fns := fns) rfl rfl 2 rfl
  have hreach := lim124 l (m.f2.map (·.f1)) q hl (by simpa using Nat.lt_of_lt_of_le hv (by decide)) hql hq hm hT
  have hreach2 := lim124 [] (blocks l) all ⟨by simp, by simp⟩ (by simp only [blocks, List.length_map]; omega) hal ha (fun b => by rw [ham, rch_nil]) (fun b => by simp [tgts, find, noNode, targets, gotos])
  simp only [List.map_nil] at hreach2
  simp only [go_sem, T_1, T_3, T_4, T_5, T_9, T_22, T_42, T_51, T_69, T_76, T_77, T_78, T_80, T_90, T_91, T_93, T_95, T_96, T_98, T_100, T_121, T_145, T_179, T_184]
  refine loop_rule (ι := Nat) (S := fun i => ⟨[(0, .fz (l.map k95.enc)), (3, .ptr 0 0 0), (5, .ms 1 1 0 i none), (18, .int .i64 m.f2.length), (19, .int .i64 i)], [some (.buf 3 [[.fz (m.f0.map (Cd.int .u32).enc), .fz (m.f1.map k184.enc), .fz (m.f2.map k179.enc)]] false true), some (.buf 1 (((m.f2.map (·.f1)).take i).map (Cd.int .u32).enc) false true)]⟩) (m := fun i => m.f2.length + 1 - i)
    (I := fun i => i ≤ m.f2.length) ?_ 0 _ (Nat.zero_le _) (by kernel_rfl)
  rintro i hi
  by_cases hlt : i < m.f2.length
  · have hx : m.f2[i]? = some m.f2[i] := List.getElem?_eq_getElem hlt
    have b1 : (i + 1) * 4 ≤ 140737488355328 := by omega
    have b2 : i + 1 ≤ 140737488355328 := by omega
    have hlen : ((m.f2.map (·.f1)).take i).length = i := by simp; omega
    have hsucc : (m.f2.map (·.f1)).take (i + 1) = (m.f2.map (·.f1)).take i ++ [m.f2[i].f1] := by
      rw [List.take_succ_eq_append_getElem (by simpa using hlt)]
      simp
    simp only [go_sem, T_1, T_3, T_4, T_5, T_9, T_22, T_42, T_51, T_69, T_76, T_77, T_78, T_80, T_90, T_91, T_93, T_95, T_96, T_98, T_100, T_121, T_145, T_179, T_184, all179, hlt, hx, k179_enc, hlen, b1, b2, wrap_i64s (show i < 1000000000000000000 by omega)]
    refine ⟨i + 1, by omega, by simp only; omega, ?_⟩
    simp only [hsucc, List.map_append, List.map_cons, List.map_nil]
    show _ = _
    kernel_rfl
  obtain rfl : i = m.f2.length := by omega
  have htk : (m.f2.map (·.f1)).take m.f2.length = m.f2.map (·.f1) := List.take_of_length_le (by simp)
  have hlen : (m.f2.map (·.f1)).length = m.f2.length := by simp
  simp only [htk]
  generalize hroots : m.f2.map (·.f1) = roots at *
  rw [← hlen]
  have hnl : ¬ roots.length < roots.length := Nat.lt_irrefl _
  simp only [go_sem, T_1, T_3, T_4, T_5, T_9, T_22, T_42, T_51, T_69, T_76, T_77, T_78, T_80, T_90, T_91, T_93, T_95, T_96, T_98, T_100, T_121, T_145, T_179, T_184, hlt, hfz, hreach, hnl]
  clear hlt hi
  refine loop_rule (ι := Nat) (S := fun i => ⟨[(0, .fz (l.map k95.enc)), (7, .fz (q.map (Cd.int .u32).enc)), (8, .ms 0 1 0 i none), (37, .int .i64 l.length), (38, .int .i64 i)], [some (.buf 1 (((blocks l).take i).map (Cd.int .u32).enc) false true)]⟩) (m := fun i => l.length + 1 - i)
    (I := fun i => i ≤ l.length) ?_ 0 _ (Nat.zero_le _) (by kernel_rfl)
  rintro i hi
  by_cases hlt : i < l.length
  · have hx : l[i]? = some l[i] := List.getElem?_eq_getElem hlt
    have b1 : (i + 1) * 4 ≤ 140737488355328 := by omega
    have b2 : i + 1 ≤ 140737488355328 := by omega
    have hlen : ((blocks l).take i).length = i := by simp [blocks]; omega
    have hsucc : (blocks l).take (i + 1) = (blocks l).take i ++ [l[i].f0] := by
      unfold blocks
      rw [List.take_succ_eq_append_getElem (by simpa using hlt)]
      simp
    simp only [go_sem, T_1, T_3, T_4, T_5, T_9, T_22, T_42, T_51, T_69, T_76, T_77, T_78, T_80, T_90, T_91, T_93, T_95, T_96, T_98, T_100, T_121, T_145, T_179, T_184, all95, hlt, hx, k95_enc, hlen, b1, b2, wrap_i64s (show i < 1000000000000000000 by omega)]
    refine ⟨i + 1, by omega, by simp only; omega, ?_⟩
    simp only [hsucc, List.map_append, List.map_cons, List.map_nil]
    show _ = _
    kernel_rfl
  obtain rfl : i = l.length := by omega
  have htk : (blocks l).take l.length = blocks l := List.take_of_length_le (by simp [blocks])
  simp only [htk]
  have hbl : l.length = (blocks l).length := by simp [blocks]
  generalize blocks l = bs at *
  rw [hbl]
  have hnl : ¬ bs.length < bs.length := Nat.lt_irrefl _
  simp only [go_sem, T_1, T_3, T_4, T_5, T_9, T_22, T_42, T_51, T_69, T_76, T_77, T_78, T_80, T_90, T_91, T_93, T_95, T_96, T_98, T_100, T_121, T_145, T_179, T_184, hlt, hfz, hreach2, hnl]
  clear hlt hi
  refine loop_rule (ι := Nat) (S := fun i => ⟨[(7, .fz (q.map (Cd.int .u32).enc)), (10, .fz (all.map (Cd.int .u32).enc)), (11, .ms 0 1 0 (notIn q (all.take i)).length none), (55, .int .i64 all.length), (56, .int .i64 i)], [some (.buf 1 ((notIn q (all.take i)).map (Cd.int .u32).enc) false true)]⟩) (m := fun i => all.length + 1 - i)
    (I := fun i => i ≤ all.length) ?_ 0 _ (Nat.zero_le _) (by kernel_rfl)
  rintro i hi
  have hnl := notIn_len (live := q) (l := all.take i)
  have hbl : (all.take i).length ≤ i := by simp; omega
  by_cases hlt : i < all.length
  · have hx : all[i]? = some all[i] := List.getElem?_eq_getElem hlt
    have hsucc := notIn_succI (live := q) hlt
    have b1 : ((notIn q (all.take i)).length + 1) * 4 ≤ 140737488355328 := by omega
    have b2 : (notIn q (all.take i)).length + 1 ≤ 140737488355328 := by omega
    generalize notIn q (all.take i) = acc at *
    simp only [go_sem, T_1, T_3, T_4, T_5, T_9, T_22, T_42, T_51, T_69, T_76, T_77, T_78, T_80, T_90, T_91, T_93, T_95, T_96, T_98, T_100, T_121, T_145, T_179, T_184, hlt]
    refine loop_rule (ι := Nat) (S := fun j => ⟨[(7, .fz (q.map (Cd.int .u32).enc)), (10, .fz (all.map (Cd.int .u32).enc)), (11, .ms 0 1 0 acc.length none), (12, .int .i64 i), (13, .bool (hasB all[i] (q.take j))), (55, .int .i64 all.length), (56, .int .i64 i), (60, .int .i64 q.length), (61, .int .i64 j)], [some (.buf 1 (acc.map (Cd.int .u32).enc) false true)]⟩) (m := fun j => q.length + 1 - j)
      (I := fun j => j ≤ q.length) ?_ 0 _ (Nat.zero_le _) (by kernel_rfl)
    rintro j hj
    by_cases hlj : j < q.length
    · have hy : q[j]? = some q[j] := List.getElem?_eq_getElem hlj
      have hor := or_hasB (b := all[i]) hlj
      cases hb : hasB all[i] (q.take j) with
      | true =>
        rw [hb, Bool.true_or] at hor
        simp only [go_sem, T_1, T_3, T_4, T_5, T_9, T_22, T_42, T_51, T_69, T_76, T_77, T_78, T_80, T_90, T_91, T_93, T_95, T_96, T_98, T_100, T_121, T_145, T_179, T_184, hlj, hlt, hy, hx, wrap_i64s (show j < 1000000000000000000 by omega)]
        repeat (refine ⟨by kernel_rfl, ?_⟩)
        exact ⟨j + 1, by omega, by simp only; omega, by simp only [← hor]; kernel_rfl⟩
      | false =>
        rw [hb, Bool.false_or] at hor
        simp only [go_sem, T_1, T_3, T_4, T_5, T_9, T_22, T_42, T_51, T_69, T_76, T_77, T_78, T_80, T_90, T_91, T_93, T_95, T_96, T_98, T_100, T_121, T_145, T_179, T_184, hlj, hlt, hy, hx, wrap_i64s (show j < 1000000000000000000 by omega)]
        repeat (refine ⟨by kernel_rfl, ?_⟩)
        exact ⟨j + 1, by omega, by simp only; omega, by simp only [← hor]; kernel_rfl⟩
    · obtain rfl : j = q.length := by omega
      rw [List.take_length]
      cases hb : hasB all[i] q with
      | true =>
        rw [hb, if_pos rfl, List.append_nil] at hsucc
        simp only [go_sem, T_1, T_3, T_4, T_5, T_9, T_22, T_42, T_51, T_69, T_76, T_77, T_78, T_80, T_90, T_91, T_93, T_95, T_96, T_98, T_100, T_121, T_145, T_179, T_184, hlj, hlt, hx, wrap_i64s (show i < 1000000000000000000 by omega)]
        exact ⟨i + 1, by omega, by simp only; omega, by simp only [hsucc]; kernel_rfl⟩
      | false =>
        rw [hb, if_neg (by simp)] at hsucc
        simp only [go_sem, T_1, T_3, T_4, T_5, T_9, T_22, T_42, T_51, T_69, T_76, T_77, T_78, T_80, T_90, T_91, T_93, T_95, T_96, T_98, T_100, T_121, T_145, T_179, T_184, hlj, hlt, hx, b1, b2, wrap_i64s (show i < 1000000000000000000 by omega)]
        exact ⟨i + 1, by omega, by simp only; omega, by
          simp only [hsucc, List.map_append, List.map_cons, List.map_nil, List.length_append, List.length_cons, List.length_nil]
          kernel_rfl⟩
  · obtain rfl : i = all.length := by omega
    rw [List.take_length]
    simp only [go_sem, T_1, T_3, T_4, T_5, T_9, T_22, T_42, T_51, T_69, T_76, T_77, T_78, T_80, T_90, T_91, T_93, T_95, T_96, T_98, T_100, T_121, T_145, T_179, T_184, hlt]
    exact finish_ms rfl (by simp)
end Go.Proofs.Ytfdemnefkfkghaa.R
/- Chapter 27's laws: Count. -/
namespace Go.Proofs.Ytfdemnefkfkghaa.R
open Go Go.Proofs
set_option linter.unusedSimpArgs false
set_option linter.unusedVariables false
set_option maxRecDepth 10000
set_option maxHeartbeats 4000000
theorem cmpG {a b : Nat} : (((a : Nat) : Int) > (b : Int)) = (a > b) := by simp
def nsum (f : S95 → Nat) (l : List S95) : Nat := (l.map f).sum
theorem nsum_succ {f : S95 → Nat} {l : List S95} {i : Nat} (h : i < l.length) : nsum f (l.take (i + 1)) = nsum f (l.take i) + f l[i] := by
  unfold nsum
  rw [List.take_succ_eq_append_getElem h, List.map_append, List.sum_append]
  simp
theorem nsum_le {f : S95 → Nat} {K : Nat} : ∀ {l : List S95}, (∀ x ∈ l, f x ≤ K) → ∀ i, nsum f (l.take i) ≤ K * i
  | l, h, 0 => by simp [nsum]
  | l, h, i + 1 => by
    have ih := nsum_le h i
    rcases Nat.lt_or_ge i l.length with hl | hl
    · rw [nsum_succ hl, Nat.mul_succ]
      have := h l[i] (List.getElem_mem hl)
      omega
    · rw [List.take_of_length_le (by omega)]
      rw [List.take_of_length_le hl] at ih
      rw [Nat.mul_succ]
      omega
def leafN (x : S95) : Nat := x.f1.f0.toNat
def pairN (x : S95) : Nat := x.f1.f1.length
def msgN (x : S95) : Nat := x.f1.f4.length
def gotoN (x : S95) : Nat := (gotos x.f1.f4).length
def sharedN (all : List S184) : Nat := (all.filter fun x => decide (1 < x.f1)).length
theorem shared_succ {all : List S184} {i : Nat} (h : i < all.length) : sharedN (all.take (i + 1)) = sharedN (all.take i) + if 1 < all[i].f1 then 1 else 0 := by
  unfold sharedN
  rw [List.take_succ_eq_append_getElem h, List.filter_append, List.length_append]
  congr 1
  by_cases e : 1 < all[i].f1 <;> simp [e]
theorem shared_le {all : List S184} {i : Nat} : sharedN (all.take i) ≤ i := by
  unfold sharedN
  exact Nat.le_trans (List.length_filter_le _ _) (by simp; omega)
def deepV (l : List S179) : Int := l.foldl (fun d v => if v.f2 > d then v.f2 else d) 0
theorem deepV_succ {l : List S179} {i : Nat} (h : i < l.length) : deepV (l.take (i + 1)) = if l[i].f2 > deepV (l.take i) then l[i].f2 else deepV (l.take i) := by
  unfold deepV
  rw [List.take_succ_eq_append_getElem h, List.foldl_append]
  rfl
/-- How much there is. -/
def cntC (l : List S95) (all : List S184) (vs : List S179) (g : Nat) : List V := [.int .i64 l.length, .int .i64 (nsum leafN l : Nat), .int .i64 (nsum pairN l : Nat), .int .i64 (nsum msgN l : Nat), .int .i64 (nsum gotoN l : Nat), .int .i64 (sharedN all : Nat), .int .i64 g, .int .i64 (deepV vs)]
theorem wrap_deep {x : Int} (h : 0 ≤ x ∧ x ≤ 65535) : IntKind.i64.wrap x = x := wrap_i64 (by omega) (by omega)
theorem wrap_sub2 {a b : Nat} (h : a + b < 1000000000000000000) : IntKind.i64.wrap (((a + b : Nat) : Int) - (b : Int)) = ((a : Nat) : Int) := by
  rw [wrap_i64 (by omega) (by omega)]
  omega
theorem lim57 (l : List S95) (m : S80) (G : List Int) (all : List S184) (hl : fewL l) (hll : l.length < 1000000) (hk : ∀ x ∈ l, pairN x ≤ 1000 ∧ msgN x ≤ 1000) (hv : m.f2.length < 1000000) (hd : ∀ v ∈ m.f2, 0 ≤ v.f2 ∧ v.f2 ≤ 65535) (hal : all.length < 10000000000)
    (hG : lim T fns 55 [.fz (l.map k95.enc), .agg (k80.enc m)] [] = some (.fz (G.map (Cd.int .u32).enc), []))
    (hall : lim T fns 126 [.fz (l.map k95.enc), .fz (m.f2.map k179.enc), .fz (m.f1.map k184.enc)] [] = some (.fz (all.map k184.enc), [])) :
    lim T fns 57 [.fz (l.map k95.enc), .agg (k80.enc m)] [] = some (.agg (cntC l all m.f2 G.length), []) := by
  have c55 := fun n => callV_plain (T := T) (fns := fns) (g := 55) (fn := fn55) rfl (args := [.fz (l.map k95.enc), .agg (k80.enc m)]) (caps := []) rfl rfl hG n
  have c126 := fun n => callV_plain (T := T) (fns := fns) (g := 126) (fn := fn126) rfl (args := [.fz (l.map k95.enc), .fz (m.f2.map k179.enc), .fz (m.f1.map k184.enc)]) (caps := []) rfl rfl hall n
  simp only [k80_enc] at c55 ⊢
  refine fn_rule (fn := fn57) rfl rfl (by simp [fn57]) ?_
  unfold fn57
  simp only [Try.f57, Option.getD_some, argEnv, List.map_nil, List.length_nil]
  simp only [go_sem, T_3, T_4, T_5, T_9, T_22, T_42, T_51, T_69, T_76, T_77, T_78, T_80, T_87, T_90, T_91, T_93, T_95, T_96, T_98, T_100, T_121, T_145, T_179, T_184, c55]
  refine loop_rule (ι := Nat) (S := fun i => ⟨[(0, .fz (l.map k95.enc)), (3, .ptr 0 0 0), (4, .ptr 1 0 0), (5, .ptr 2 0 0), (19, .fz (l.map k95.enc)), (20, .int .i64 l.length), (21, .int .i64 i)], [some (.buf 3 [[.fz (m.f0.map (Cd.int .u32).enc), .fz (m.f1.map k184.enc), .fz (m.f2.map k179.enc)]] false true), some (.buf 8 [[.int .i64 0, .int .i64 0, .int .i64 0, .int .i64 0, .int .i64 0, .int .i64 0, .int .i64 0, .int .i64 0]] false true), some (.buf 8 [[.int .i64 l.length, .int .i64 (nsum leafN (l.take i) : Nat), .int .i64 (nsum pairN (l.take i) : Nat), .int .i64 (nsum msgN (l.take i) : Nat), .int .i64 (nsum gotoN (l.take i) : Nat), .int .i64 0, .int .i64 G.length, .int .i64 0]] false true)]⟩) (m := fun i => l.length + 1 - i)
    (I := fun i => i ≤ l.length) ?_ 0 _ (Nat.zero_le _) (by kernel_rfl)
  rintro i hi
  have s1 := nsum_le (f := leafN) (K := 1) (l := l) (fun x _ => Bool.toNat_le _) i
  have s2 := nsum_le (f := pairN) (K := 1000) (l := l) (fun x hx => (hk x hx).1) i
  have s3 := nsum_le (f := msgN) (K := 1000) (l := l) (fun x hx => (hk x hx).2) i
  have hgl : ∀ x : S95, gotoN x ≤ msgN x := fun x => by
    unfold gotoN gotos msgN
    rw [List.length_map]
    exact List.length_filter_le _ _
  have s4 := nsum_le (f := gotoN) (K := 1000) (l := l) (fun x hx => Nat.le_trans (hgl x) (hk x hx).2) i
  by_cases hlt : i < l.length
  · have hx : l[i]? = some l[i] := List.getElem?_eq_getElem hlt
    have hfew := hl.2 l[i] (List.getElem_mem hlt)
    have c125 := call125 l[i].f1.f4 hfew.2.2.2
    have hkx := hk l[i] (List.getElem_mem hlt)
    have hgx := hgl l[i]
    simp only [pairN, msgN, gotoN] at hkx hgx
    have w2 := wrap_add2 (a := nsum pairN (l.take i)) (b := l[i].f1.f1.length) (by omega)
    have w3 := wrap_add2 (a := nsum msgN (l.take i)) (b := l[i].f1.f4.length) (by omega)
    have w4 := wrap_add2 (a := nsum gotoN (l.take i)) (b := (gotos l[i].f1.f4).length) (by omega)
    cases hb : l[i].f1.f0 with
    | true =>
      simp only [go_sem, T_3, T_4, T_5, T_9, T_22, T_42, T_51, T_69, T_76, T_77, T_78, T_80, T_87, T_90, T_91, T_93, T_95, T_96, T_98, T_100, T_121, T_145, T_179, T_184, all95, hlt, hx, k95_enc, hb, c125, w2, w3, w4, wrap_i64s (show nsum leafN (l.take i) < 1000000000000000000 by omega), wrap_i64s (show i < 1000000000000000000 by omega)]
      repeat (refine ⟨by kernel_rfl, ?_⟩)
      refine ⟨i + 1, by omega, by simp only; omega, ?_⟩
      simp only [nsum_succ hlt, leafN, pairN, msgN, gotoN, hb, Bool.toNat_true]
      show _ = _
      kernel_rfl
    | false =>
      simp only [go_sem, T_3, T_4, T_5, T_9, T_22, T_42, T_51, T_69, T_76, T_77, T_78, T_80, T_87, T_90, T_91, T_93, T_95, T_96, T_98, T_100, T_121, T_145, T_179, T_184, all95, hlt, hx, k95_enc, hb, c125, w2, w3, w4, wrap_i64s (show nsum leafN (l.take i) < 1000000000000000000 by omega), wrap_i64s (show i < 1000000000000000000 by omega)]
      repeat (refine ⟨by kernel_rfl, ?_⟩)
      refine ⟨i + 1, by omega, by simp only; omega, ?_⟩
      simp only [nsum_succ hlt, leafN, pairN, msgN, gotoN, hb, Bool.toNat_false, Nat.add_zero]
      show _ = _
      kernel_rfl
  obtain rfl : i = l.length := by omega
  rw [List.take_length]
  unfold cntC
  generalize nsum leafN l = a at *
  generalize nsum pairN l = b at *
  generalize nsum msgN l = c at *
  generalize nsum gotoN l = d at *
  simp only [go_sem, T_3, T_4, T_5, T_9, T_22, T_42, T_51, T_69, T_76, T_77, T_78, T_80, T_87, T_90, T_91, T_93, T_95, T_96, T_98, T_100, T_121, T_145, T_179, T_184, hlt, c126]
  clear hlt hi
  refine loop_rule (ι := Nat) (S := fun i => ⟨[(3, .ptr 0 0 0), (4, .ptr 1 0 0), (5, .ptr 2 0 0), (63, .fz (all.map k184.enc)), (64, .int .i64 all.length), (65, .int .i64 i)], [some (.buf 3 [[.fz (m.f0.map (Cd.int .u32).enc), .fz (m.f1.map k184.enc), .fz (m.f2.map k179.enc)]] false true), some (.buf 8 [[.int .i64 0, .int .i64 0, .int .i64 0, .int .i64 0, .int .i64 0, .int .i64 0, .int .i64 0, .int .i64 0]] false true), some (.buf 8 [[.int .i64 l.length, .int .i64 a, .int .i64 b, .int .i64 c, .int .i64 d, .int .i64 (sharedN (all.take i) : Nat), .int .i64 G.length, .int .i64 0]] false true)]⟩) (m := fun i => all.length + 1 - i)
    (I := fun i => i ≤ all.length) ?_ 0 _ (Nat.zero_le _) (by kernel_rfl)
  rintro i hi
  have s5 := shared_le (all := all) (i := i)
  by_cases hlt : i < all.length
  · have hx : all[i]? = some all[i] := List.getElem?_eq_getElem hlt
    by_cases hg : 1 < all[i].f1
    · have hg2 : all[i].f1 > 1 := hg
      simp only [go_sem, T_3, T_4, T_5, T_9, T_22, T_42, T_51, T_69, T_76, T_77, T_78, T_80, T_87, T_90, T_91, T_93, T_95, T_96, T_98, T_100, T_121, T_145, T_179, T_184, all184, hlt, hx, k184_enc, hg2, wrap_i64s (show sharedN (all.take i) < 1000000000000000000 by omega), wrap_i64s (show i < 1000000000000000000 by omega)]
      refine ⟨i + 1, by omega, by simp only; omega, ?_⟩
      simp only [shared_succ hlt, hg, if_true]
      show _ = _
      kernel_rfl
    · have hg2 : ¬ all[i].f1 > 1 := hg
      simp only [go_sem, T_3, T_4, T_5, T_9, T_22, T_42, T_51, T_69, T_76, T_77, T_78, T_80, T_87, T_90, T_91, T_93, T_95, T_96, T_98, T_100, T_121, T_145, T_179, T_184, all184, hlt, hx, k184_enc, hg2, wrap_i64s (show i < 1000000000000000000 by omega)]
      refine ⟨i + 1, by omega, by simp only; omega, ?_⟩
      simp only [shared_succ hlt, hg, if_false, Nat.add_zero]
      show _ = _
      kernel_rfl
  obtain rfl : i = all.length := by omega
  rw [List.take_length]
  generalize sharedN all = e at *
  simp only [go_sem, T_3, T_4, T_5, T_9, T_22, T_42, T_51, T_69, T_76, T_77, T_78, T_80, T_87, T_90, T_91, T_93, T_95, T_96, T_98, T_100, T_121, T_145, T_179, T_184, hlt]
  clear hlt hi
  refine loop_rule (ι := Nat) (S := fun i => ⟨[(4, .ptr 0 0 0), (5, .ptr 1 0 0), (78, .fz (m.f2.map k179.enc)), (79, .int .i64 m.f2.length), (80, .int .i64 i)], [some (.buf 8 [[.int .i64 0, .int .i64 0, .int .i64 0, .int .i64 0, .int .i64 0, .int .i64 0, .int .i64 0, .int .i64 0]] false true), some (.buf 8 [[.int .i64 l.length, .int .i64 a, .int .i64 b, .int .i64 c, .int .i64 d, .int .i64 e, .int .i64 G.length, .int .i64 (deepV (m.f2.take i))]] false true)]⟩) (m := fun i => m.f2.length + 1 - i)
    (I := fun i => i ≤ m.f2.length) ?_ 0 _ (Nat.zero_le _) (by kernel_rfl)
  rintro i hi
  by_cases hlt : i < m.f2.length
  · have hx : m.f2[i]? = some m.f2[i] := List.getElem?_eq_getElem hlt
    have hdx := hd m.f2[i] (List.getElem_mem hlt)
    have hs := deepV_succ hlt
    by_cases hg : m.f2[i].f2 > deepV (m.f2.take i)
    · rw [if_pos hg] at hs
      simp only [go_sem, T_3, T_4, T_5, T_9, T_22, T_42, T_51, T_69, T_76, T_77, T_78, T_80, T_87, T_90, T_91, T_93, T_95, T_96, T_98, T_100, T_121, T_145, T_179, T_184, all179, hlt, hx, k179_enc, wrap_deep hdx, hg, wrap_i64s (show i < 1000000000000000000 by omega)]
      exact ⟨i + 1, by omega, by simp only; omega, by simp only [hs]; kernel_rfl⟩
    · rw [if_neg hg] at hs
      simp only [go_sem, T_3, T_4, T_5, T_9, T_22, T_42, T_51, T_69, T_76, T_77, T_78, T_80, T_87, T_90, T_91, T_93, T_95, T_96, T_98, T_100, T_121, T_145, T_179, T_184, all179, hlt, hx, k179_enc, wrap_deep hdx, hg, wrap_i64s (show i < 1000000000000000000 by omega)]
      exact ⟨i + 1, by omega, by simp only; omega, by simp only [hs]; kernel_rfl⟩
  obtain rfl : i = m.f2.length := by omega
  rw [List.take_length]
  simp only [go_sem, T_3, T_4, T_5, T_9, T_22, T_42, T_51, T_69, T_76, T_77, T_78, T_80, T_87, T_90, T_91, T_93, T_95, T_96, T_98, T_100, T_121, T_145, T_179, T_184, hlt]
end Go.Proofs.Ytfdemnefkfkghaa.R
/- Chapter 27's laws: the document's Count; AuditCounts. -/
namespace Go.Proofs.Ytfdemnefkfkghaa.R
open Go Go.Proofs
set_option linter.unusedSimpArgs false
set_option linter.unusedVariables false
set_option maxRecDepth 10000
set_option maxHeartbeats 4000000
theorem targets_len (n : S93) : (targets n).length = (gotos n.f4).length + n.f3.length := by
  unfold targets
  rw [List.length_append, List.length_map]
  omega
theorem lim58 (l : List S95) (m : S80) (G : List Int) (all : List S184) (hl : fewL l) (hll : l.length < 1000000) (hk : ∀ x ∈ l, pairN x ≤ 1000 ∧ msgN x ≤ 1000 ∧ x.f1.f3.length ≤ 1000) (hv : m.f2.length < 1000000) (hd : ∀ v ∈ m.f2, 0 ≤ v.f2 ∧ v.f2 ≤ 65535) (hal : all.length < 10000000000)
    (hG : lim T fns 56 [.fz (l.map k95.enc), .agg (k80.enc m)] [] = some (.fz (G.map (Cd.int .u32).enc), []))
    (hall : lim T fns 117 [.fz (l.map k95.enc), .fz (m.f2.map k179.enc), .fz (m.f1.map k184.enc)] [] = some (.fz (all.map k184.enc), [])) :
    lim T fns 58 [.fz (l.map k95.enc), .agg (k80.enc m)] [] = some (.agg (cntC l all m.f2 G.length), []) := by
  have c56 := fun n => callV_plain (T := T) (fns := fns) (g := 56) (fn := fn56) rfl (args := [.fz (l.map k95.enc), .agg (k80.enc m)]) (caps := []) rfl rfl hG n
  have c117 := fun n => callV_plain (T := T) (fns := fns) (g := 117) (fn := fn117) rfl (args := [.fz (l.map k95.enc), .fz (m.f2.map k179.enc), .fz (m.f1.map k184.enc)]) (caps := []) rfl rfl hall n
  simp only [k80_enc] at c56 ⊢
  refine fn_rule (fn := fn58) rfl rfl (by simp [fn58]) ?_
  unfold fn58
  simp only [Try.f58, Option.getD_some, argEnv, List.map_nil, List.length_nil]
  simp only [go_sem, T_3, T_4, T_5, T_9, T_22, T_42, T_51, T_69, T_76, T_77, T_78, T_80, T_87, T_90, T_91, T_93, T_95, T_96, T_98, T_100, T_121, T_145, T_179, T_184, c56]
  refine loop_rule (ι := Nat) (S := fun i => ⟨[(0, .fz (l.map k95.enc)), (3, .ptr 0 0 0), (4, .ptr 1 0 0), (5, .ptr 2 0 0), (19, .int .i64 l.length), (20, .int .i64 i)], [some (.buf 3 [[.fz (m.f0.map (Cd.int .u32).enc), .fz (m.f1.map k184.enc), .fz (m.f2.map k179.enc)]] false true), some (.buf 8 [[.int .i64 0, .int .i64 0, .int .i64 0, .int .i64 0, .int .i64 0, .int .i64 0, .int .i64 0, .int .i64 0]] false true), some (.buf 8 [[.int .i64 l.length, .int .i64 (nsum leafN (l.take i) : Nat), .int .i64 (nsum pairN (l.take i) : Nat), .int .i64 (nsum msgN (l.take i) : Nat), .int .i64 (nsum gotoN (l.take i) : Nat), .int .i64 0, .int .i64 G.length, .int .i64 0]] false true)]⟩) (m := fun i => l.length + 1 - i)
    (I := fun i => i ≤ l.length) ?_ 0 _ (Nat.zero_le _) (by kernel_rfl)
  rintro i hi
  have s1 := nsum_le (f := leafN) (K := 1) (l := l) (fun x _ => Bool.toNat_le _) i
  have s2 := nsum_le (f := pairN) (K := 1000) (l := l) (fun x hx => (hk x hx).1) i
  have s3 := nsum_le (f := msgN) (K := 1000) (l := l) (fun x hx => (hk x hx).2.1) i
  have hgl : ∀ x : S95, gotoN x ≤ msgN x := fun x => by
    unfold gotoN gotos msgN
    rw [List.length_map]
    exact List.length_filter_le _ _
  have s4 := nsum_le (f := gotoN) (K := 1000) (l := l) (fun x hx => Nat.le_trans (hgl x) (hk x hx).2.1) i
  by_cases hlt : i < l.length
  · have hx : l[i]? = some l[i] := List.getElem?_eq_getElem hlt
    have hfew := hl.2 l[i] (List.getElem_mem hlt)
    have c67 := call67 l[i].f1 hfew
    simp only [k93_enc] at c67
    have hkx := hk l[i] (List.getElem_mem hlt)
    have hgx := hgl l[i]
    simp only [pairN, msgN, gotoN] at hkx hgx
    have w2 := wrap_add2 (a := nsum pairN (l.take i)) (b := l[i].f1.f1.length) (by omega)
    have w3 := wrap_add2 (a := nsum msgN (l.take i)) (b := l[i].f1.f4.length) (by omega)
    have w4 := wrap_add2 (a := nsum gotoN (l.take i)) (b := (gotos l[i].f1.f4).length + l[i].f1.f3.length) (by omega)
    have w5 := wrap_sub2 (a := nsum gotoN (l.take i) + (gotos l[i].f1.f4).length) (b := l[i].f1.f3.length) (by omega)
    rw [← Nat.add_assoc] at w4
    have htl := targets_len l[i].f1
    cases hb : l[i].f1.f0 with
    | true =>
      rw [hb] at c67
      simp only [go_sem, T_3, T_4, T_5, T_9, T_22, T_42, T_51, T_69, T_76, T_77, T_78, T_80, T_87, T_90, T_91, T_93, T_95, T_96, T_98, T_100, T_121, T_145, T_179, T_184, all95, hlt, hx, k95_enc, hb, c67, w2, w3, htl, w4, w5, wrap_i64s (show nsum leafN (l.take i) < 1000000000000000000 by omega), wrap_i64s (show i < 1000000000000000000 by omega)]
      repeat (refine ⟨by kernel_rfl, ?_⟩)
      refine ⟨i + 1, by omega, by simp only; omega, ?_⟩
      simp only [nsum_succ hlt, leafN, pairN, msgN, gotoN, hb, Bool.toNat_true]
      show _ = _
      kernel_rfl
    | false =>
      rw [hb] at c67
      simp only [go_sem, T_3, T_4, T_5, T_9, T_22, T_42, T_51, T_69, T_76, T_77, T_78, T_80, T_87, T_90, T_91, T_93, T_95, T_96, T_98, T_100, T_121, T_145, T_179, T_184, all95, hlt, hx, k95_enc, hb, c67, w2, w3, htl, w4, w5, wrap_i64s (show nsum leafN (l.take i) < 1000000000000000000 by omega), wrap_i64s (show i < 1000000000000000000 by omega)]
      repeat (refine ⟨by kernel_rfl, ?_⟩)
      refine ⟨i + 1, by omega, by simp only; omega, ?_⟩
      simp only [nsum_succ hlt, leafN, pairN, msgN, gotoN, hb, Bool.toNat_false, Nat.add_zero]
      show _ = _
      kernel_rfl
  obtain rfl : i = l.length := by omega
  rw [List.take_length]
  unfold cntC
  generalize nsum leafN l = a at *
  generalize nsum pairN l = b at *
  generalize nsum msgN l = c at *
  generalize nsum gotoN l = d at *
  simp only [go_sem, T_3, T_4, T_5, T_9, T_22, T_42, T_51, T_69, T_76, T_77, T_78, T_80, T_87, T_90, T_91, T_93, T_95, T_96, T_98, T_100, T_121, T_145, T_179, T_184, hlt, c117]
  clear hlt hi
  refine loop_rule (ι := Nat) (S := fun i => ⟨[(3, .ptr 0 0 0), (4, .ptr 1 0 0), (5, .ptr 2 0 0), (8, .fz (all.map k184.enc)), (67, .int .i64 all.length), (68, .int .i64 i)], [some (.buf 3 [[.fz (m.f0.map (Cd.int .u32).enc), .fz (m.f1.map k184.enc), .fz (m.f2.map k179.enc)]] false true), some (.buf 8 [[.int .i64 0, .int .i64 0, .int .i64 0, .int .i64 0, .int .i64 0, .int .i64 0, .int .i64 0, .int .i64 0]] false true), some (.buf 8 [[.int .i64 l.length, .int .i64 a, .int .i64 b, .int .i64 c, .int .i64 d, .int .i64 (sharedN (all.take i) : Nat), .int .i64 G.length, .int .i64 0]] false true)]⟩) (m := fun i => all.length + 1 - i)
    (I := fun i => i ≤ all.length) ?_ 0 _ (Nat.zero_le _) (by kernel_rfl)
  rintro i hi
  have s5 := shared_le (all := all) (i := i)
  by_cases hlt : i < all.length
  · have hx : all[i]? = some all[i] := List.getElem?_eq_getElem hlt
    by_cases hg : 1 < all[i].f1
    · have hg2 : all[i].f1 ≥ 2 := by omega
      simp only [go_sem, T_3, T_4, T_5, T_9, T_22, T_42, T_51, T_69, T_76, T_77, T_78, T_80, T_87, T_90, T_91, T_93, T_95, T_96, T_98, T_100, T_121, T_145, T_179, T_184, all184, hlt, hx, k184_enc, hg2, wrap_i64s (show sharedN (all.take i) < 1000000000000000000 by omega), wrap_i64s (show i < 1000000000000000000 by omega)]
      refine ⟨i + 1, by omega, by simp only; omega, ?_⟩
      simp only [shared_succ hlt, hg, if_true]
      show _ = _
      kernel_rfl
    · have hg2 : ¬ all[i].f1 ≥ 2 := by omega
      simp only [go_sem, T_3, T_4, T_5, T_9, T_22, T_42, T_51, T_69, T_76, T_77, T_78, T_80, T_87, T_90, T_91, T_93, T_95, T_96, T_98, T_100, T_121, T_145, T_179, T_184, all184, hlt, hx, k184_enc, hg2, wrap_i64s (show i < 1000000000000000000 by omega)]
      refine ⟨i + 1, by omega, by simp only; omega, ?_⟩
      simp only [shared_succ hlt, hg, if_false, Nat.add_zero]
      show _ = _
      kernel_rfl
  obtain rfl : i = all.length := by omega
  rw [List.take_length]
  generalize sharedN all = e at *
  simp only [go_sem, T_3, T_4, T_5, T_9, T_22, T_42, T_51, T_69, T_76, T_77, T_78, T_80, T_87, T_90, T_91, T_93, T_95, T_96, T_98, T_100, T_121, T_145, T_179, T_184, hlt]
  clear hlt hi
  refine loop_rule (ι := Nat) (S := fun i => ⟨[(3, .ptr 0 0 0), (4, .ptr 1 0 0), (5, .ptr 2 0 0), (84, .int .i64 m.f2.length), (85, .int .i64 i)], [some (.buf 3 [[.fz (m.f0.map (Cd.int .u32).enc), .fz (m.f1.map k184.enc), .fz (m.f2.map k179.enc)]] false true), some (.buf 8 [[.int .i64 0, .int .i64 0, .int .i64 0, .int .i64 0, .int .i64 0, .int .i64 0, .int .i64 0, .int .i64 0]] false true), some (.buf 8 [[.int .i64 l.length, .int .i64 a, .int .i64 b, .int .i64 c, .int .i64 d, .int .i64 e, .int .i64 G.length, .int .i64 (deepV (m.f2.take i))]] false true)]⟩) (m := fun i => m.f2.length + 1 - i)
    (I := fun i => i ≤ m.f2.length) ?_ 0 _ (Nat.zero_le _) (by kernel_rfl)
  rintro i hi
  by_cases hlt : i < m.f2.length
  · have hx : m.f2[i]? = some m.f2[i] := List.getElem?_eq_getElem hlt
    have hdx := hd m.f2[i] (List.getElem_mem hlt)
    have hs := deepV_succ hlt
    by_cases hg : m.f2[i].f2 > deepV (m.f2.take i)
    · rw [if_pos hg] at hs
      simp only [go_sem, T_3, T_4, T_5, T_9, T_22, T_42, T_51, T_69, T_76, T_77, T_78, T_80, T_87, T_90, T_91, T_93, T_95, T_96, T_98, T_100, T_121, T_145, T_179, T_184, all179, hlt, hx, k179_enc, wrap_deep hdx, hg, wrap_i64s (show i < 1000000000000000000 by omega)]
      repeat (refine ⟨by kernel_rfl, ?_⟩)
      exact ⟨i + 1, by omega, by simp only; omega, by simp only [hs]; kernel_rfl⟩
    · rw [if_neg hg] at hs
      simp only [go_sem, T_3, T_4, T_5, T_9, T_22, T_42, T_51, T_69, T_76, T_77, T_78, T_80, T_87, T_90, T_91, T_93, T_95, T_96, T_98, T_100, T_121, T_145, T_179, T_184, all179, hlt, hx, k179_enc, wrap_deep hdx, hg, wrap_i64s (show i < 1000000000000000000 by omega)]
      repeat (refine ⟨by kernel_rfl, ?_⟩)
      exact ⟨i + 1, by omega, by simp only; omega, by simp only [hs]; kernel_rfl⟩
  obtain rfl : i = m.f2.length := by omega
  rw [List.take_length]
  simp only [go_sem, T_3, T_4, T_5, T_9, T_22, T_42, T_51, T_69, T_76, T_77, T_78, T_80, T_87, T_90, T_91, T_93, T_95, T_96, T_98, T_100, T_121, T_145, T_179, T_184, hlt]
theorem lim54 (l : List Int) (hl : l.length < 1000000000000) : lim T fns 54 [.fz (l.map (Cd.int .u32).enc), .fz (l.map (Cd.int .u32).enc)] [] = some (.bool true, []) := by
  refine fn_rule (fn := fn54) rfl rfl (by simp [fn54]) ?_
  unfold fn54
  simp only [Try.f54, Option.getD_some, argEnv, List.map_nil, List.length_nil]
  simp only [go_sem, T_3, T_42, T_76, bne_self_eq_false]
  refine loop_rule (ι := Nat) (S := fun i => ⟨[(0, .fz (l.map (Cd.int .u32).enc)), (1, .fz (l.map (Cd.int .u32).enc)), (12, .int .i64 l.length), (13, .int .i64 i)], []⟩) (m := fun i => l.length + 1 - i)
    (I := fun i => i ≤ l.length) ?_ 0 _ (Nat.zero_le _) (by kernel_rfl)
  rintro i hi
  by_cases hlt : i < l.length
  · have hx : l[i]? = some l[i] := List.getElem?_eq_getElem hlt
    simp only [go_sem, T_3, T_42, T_76, hlt, hx, bne_self_eq_false, wrap_i64s (show i < 1000000000000000000 by omega)]
    repeat (refine ⟨by kernel_rfl, ?_⟩)
    exact ⟨i + 1, by omega, by simp only; omega, by kernel_rfl⟩
  · simp only [go_sem, T_3, T_42, T_76, hlt]
end Go.Proofs.Ytfdemnefkfkghaa.R
