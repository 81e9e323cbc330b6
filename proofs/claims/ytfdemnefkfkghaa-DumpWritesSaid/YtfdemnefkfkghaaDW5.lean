/- Parts of the proof of YtfdemnefkfkghaaRowDumpWrites, one behind the other: QGet, XF7, PureDumpWrites, WalkDumpWrites, RowDumpWrites. -/
import Derived.Test.YtfdemnefkfkghaaDW0
import Derived.Test.YtfdemnefkfkghaaDW1
import Derived.Test.YtfdemnefkfkghaaDW2
import Derived.Test.YtfdemnefkfkghaaDW3
import Derived.Test.YtfdemnefkfkghaaDW4
import Derived.Test.YtfdemnefkfkghaaRows
namespace Go.Proofs.Ytfdemnefkfkghaa.Q
open Go.RowKit Go.Proofs.YtfdemnefkfkghaaW.PrintWords Go.Proofs.YtfdemnefkfkghaaW.PrintLast Go.Proofs.YtfdemnefkfkghaaW.PrintMore
open Go.Proofs.Ytfdemnefkfkghaa.X
set_option linter.unusedVariables false

theorem bytes255 {l : List Int} (h : Bytes l) : ∀ c ∈ l, 0 ≤ c ∧ c ≤ 255 := fun c hc => by have := h c hc; omega
theorem strOf (t : ByteArray) : strOfNums (bytesOf t) = t := by
  unfold strOfNums bytesOf
  rw [List.map_map]
  have : (List.map ((fun n : Int => UInt8.ofNat n.toNat) ∘ fun b : UInt8 => ((b.toNat : Nat) : Int)) t.data.toList) = t.data.toList := by
    conv => rhs; rw [← List.map_id t.data.toList]
    refine List.map_congr_left fun b _ => ?_
    simp
  rw [this]
theorem mid (pre x post : List Int) (n : Nat) (hn : n = x.length) : ((pre ++ x ++ post).take (pre.length + n)).drop pre.length = x := by
  subst hn
  rw [List.take_append_of_le_length (by simp), List.take_of_length_le (by simp), List.drop_left]
theorem take_at (pre x post : List Int) (hb : Bytes (pre ++ x ++ post)) (hx : x.length ≤ 7) : pack_Reader_take.f (pre ++ x ++ post) (pre.length : Int) 0 (x.length : Int) = some (beNum x 0, ((pre.length + x.length : Nat) : Int), 0) := by
  unfold pack_Reader_take.f
  rw [if_pos (by simp only [List.length_append]; omega), if_pos rfl, if_neg (by simp only [List.length_append]; omega), if_pos (bytes255 hb)]
  rw [show ((pre.length : Int) + (x.length : Int)).toNat = pre.length + x.length by omega, Int.toNat_natCast, mid _ _ _ _ rfl]
  rfl
theorem get8 (pre post : List Int) (c : Int) (hb : Bytes (pre ++ c :: post)) : pack_Reader_Get8.f (pre ++ c :: post) (pre.length : Int) 0 = some (c, ((pre.length + 1 : Nat) : Int), 0) := by
  have e : pre ++ c :: post = pre ++ [c] ++ post := by simp
  have hc := hb c (by simp)
  rw [e] at hb ⊢
  have := take_at pre [c] post hb (by simp)
  unfold pack_Reader_Get8.f
  rw [show (([c] : List Int).length : Int) = 1 by rfl] at this
  rw [this, Option.bind_some]
  simp only [beNum]
  rw [show (0 * 256 + c) % 256 = c by omega]
  rfl
theorem get32 (pre post : List Int) (a : Int) (h0 : 0 ≤ a) (h1 : a < 4294967296) (hb : Bytes (pre ++ be4 a ++ post)) : pack_Reader_Get32.f (pre ++ be4 a ++ post) (pre.length : Int) 0 = some (a, ((pre.length + 4 : Nat) : Int), 0) := by
  have := take_at pre (be4 a) post hb (by simp [be4_length])
  unfold pack_Reader_Get32.f
  rw [show ((be4 a).length : Int) = 4 by rfl] at this
  rw [this, Option.bind_some]
  simp only [be4, beNum]
  refine congrArg some ?_
  refine Prod.ext ?_ rfl
  show _ % _ = a
  omega
theorem getText (pre post : List Int) (t : ByteArray) (n : Nat) (ht : t.size ≤ n) (hb : Bytes (pre ++ text t ++ post)) (hl : (pre ++ text t ++ post).length < 100000000) : pack_Reader_GetText.f (pre ++ text t ++ post) (pre.length : Int) 0 (n : Int) = some (t, ((pre.length + (t.size + 1) : Nat) : Int), 0) := by
  have htl := text_length t
  have hrd : rd (pre ++ text t ++ post) (pre.length : Int) = t.size := by
    rw [rd_at (by simp only [List.length_append]; omega)]
    rw [List.getElem_append_left (by simp only [List.length_append]; omega), List.getElem_append_right (by omega)]
    simp [text]
  unfold pack_Reader_GetText.f
  rw [if_pos (by simp only [List.length_append]; omega), if_pos rfl, if_neg (by simp only [List.length_append]; omega), if_pos (bytes255 hb), hrd, if_neg (by unfold mx; split <;> omega), if_neg (by simp only [List.length_append, htl]; omega)]
  have e : pre ++ text t ++ post = (pre ++ [(t.size : Int)]) ++ bytesOf t ++ post := by simp [text]
  have hm := mid (pre ++ [(t.size : Int)]) (bytesOf t) post t.size (bytesOf_length t).symm
  rw [← e] at hm
  rw [show ((pre.length : Int) + 1 + (t.size : Int)).toNat = (pre ++ [(t.size : Int)]).length + t.size by simp; omega, show ((pre.length : Int) + 1).toNat = (pre ++ [(t.size : Int)]).length by simp, hm, strOf]
  refine congrArg some ?_
  refine Prod.ext rfl (Prod.ext ?_ rfl)
  show (pre.length : Int) + 1 + (t.size : Int) = ((pre.length + (t.size + 1) : Nat) : Int)
  omega
theorem join_common (a b : ByteArray) : a.extract 0 (common a b) ++ b.extract (common a b) b.size = b := by
  apply bytesOf_inj
  have h1 := common_le1 a b
  have h2 := common_le2 a b
  have : ∀ x y : ByteArray, bytesOf (x ++ y) = bytesOf x ++ bytesOf y := by
    intro x y
    unfold bytesOf
    rw [← List.map_append]
    refine congrArg _ ?_
    rw [ByteArray.data_append, Array.toList_append]
  rw [this, bytesOf_take, bytesOf_drop]
  have := (cp_take (bytesOf a) (bytesOf b) (common a b) (by rw [bytesOf_length]; omega) (by rw [bytesOf_length]; omega)).mpr (Nat.le_refl _)
  rw [this, List.take_append_drop]
theorem pair_at (pre post : List Int) (last : ByteArray) (p : S145) (hp : OkP p) (hl : last.size ≤ 16) (hb : Bytes (pre ++ (((common last p.f0 : Nat) : Int) :: (text (p.f0.extract (common last p.f0) p.f0.size) ++ text p.f1)) ++ post)) (hlen : (pre ++ (((common last p.f0 : Nat) : Int) :: (text (p.f0.extract (common last p.f0) p.f0.size) ++ text p.f1)) ++ post).length < 100000000) :
    dump_pair.f (pre ++ (((common last p.f0 : Nat) : Int) :: (text (p.f0.extract (common last p.f0) p.f0.size) ++ text p.f1)) ++ post) (pre.length : Int) 0 last = some (p.f0, p.f1, ((pre.length + (1 + (p.f0.size - common last p.f0 + 1) + (p.f1.size + 1)) : Nat) : Int), 0) := by
  unfold OkP at hp
  have h1 := common_le1 last p.f0
  have h2 := common_le2 last p.f0
  have hx := extract_size p.f0 _ h2
  have hj := join_common last p.f0
  generalize hn : common last p.f0 = n at *
  generalize ht : p.f0.extract n p.f0.size = t at *
  have e1 : pre ++ ((n : Int) :: (text t ++ text p.f1)) ++ post = pre ++ (n : Int) :: (text t ++ text p.f1 ++ post) := by simp
  have e2 : pre ++ ((n : Int) :: (text t ++ text p.f1)) ++ post = (pre ++ [(n : Int)]) ++ text t ++ (text p.f1 ++ post) := by simp
  have e3 : pre ++ ((n : Int) :: (text t ++ text p.f1)) ++ post = (pre ++ [(n : Int)] ++ text t) ++ text p.f1 ++ post := by simp
  have g1 := get8 pre (text t ++ text p.f1 ++ post) (n : Int) (by rw [← e1]; exact hb)
  rw [← e1] at g1
  have g2 := getText (pre ++ [(n : Int)]) (text p.f1 ++ post) t (16 - n) (by omega) (by rw [← e2]; exact hb) (by rw [← e2]; exact hlen)
  rw [← e2] at g2
  have g3 := getText (pre ++ [(n : Int)] ++ text t) post p.f1 32 (by omega) (by rw [← e3]; exact hb) (by rw [← e3]; exact hlen)
  rw [← e3] at g3
  rw [show (pre ++ [(n : Int)]).length = pre.length + 1 by simp] at g2
  rw [show (pre ++ [(n : Int)] ++ text t).length = pre.length + 1 + (t.size + 1) by simp [text_length]; omega] at g3
  unfold dump_pair.f
  rw [g1, Option.bind_some]
  dsimp only
  have w1 : wrap64 (n : Int) = (n : Int) := wr (by omega) (by omega)
  rw [w1, if_neg (by omega), if_pos (by omega), if_pos (by omega), wr (n := 16 - (n : Int)) (by omega) (by omega), show (16 : Int) - (n : Int) = ((16 - n : Nat) : Int) by omega, g2, Option.bind_some]
  dsimp only
  rw [Int.toNat_natCast, if_pos (by rw [take_size _ _ h1]; omega), show (32 : Int) = ((32 : Nat) : Int) by rfl, g3, Option.bind_some]
  dsimp only
  rw [hj, hx]
  refine congrArg some ?_
  refine Prod.ext rfl (Prod.ext rfl (Prod.ext ?_ rfl))
  dsimp only
  omega
theorem left_at (b : List Int) (n : Nat) (hl : b.length < 100000000) (hn : n ≤ b.length) : pack_Reader_Left.f b (n : Int) 0 = some ((b.length : Int) - (n : Int), (n : Int), 0) := by
  unfold pack_Reader_Left.f
  rw [wr (by omega) (by omega)]

theorem pairLen (last : ByteArray) (p : S145) : (((common last p.f0 : Nat) : Int) :: (text (p.f0.extract (common last p.f0) p.f0.size) ++ text p.f1)).length = 1 + (p.f0.size - common last p.f0 + 1) + (p.f1.size + 1) := by
  rw [List.length_cons, List.length_append, text_length, text_length, extract_size _ _ (common_le2 _ _)]
  omega
theorem volPairs (b : List Int) (hb : Bytes b) (hlen : b.length < 100000000) (out : List S136) (n i : Int) (name : ByteArray) (hout : out.length < 1000) (r : List S136 × Int × Int) :
    ∀ (ps : List S145) (pre post : List Int) (last : ByteArray) (got : List S145), b = pre ++ pairsOf last ps ++ post → (∀ p ∈ ps, OkP p) → last.size ≤ 16 → got.length + ps.length ≤ 60 →
    Ev (fun k => dump_volumes.l0 k (out ++ [(⟨name, got ++ ps⟩ : S136)]) n (wrap64 (i + 1)) b ((pre.length + (pairsOf last ps).length : Nat) : Int) 0) r →
    Ev (fun k => dump_volumes.l1 k out last (ps.length : Int) n i b (pre.length : Int) 0 name got) r := by
  intro ps
  induction ps with
  | nil =>
    intro pre post last got he hp hl hg h
    simp only [pairsOf, List.append_nil, List.length_nil, Nat.add_zero] at h
    refine Ev.step (fun k => ?_) h
    rw [dump_volumes.l1, if_neg (by simp), if_pos (by omega)]
  | cons p ps ih =>
    intro pre post last got he hp hl hg h
    have hpp := hp p (by simp)
    have hpp' := hpp
    unfold OkP at hpp'
    have hn := pairLen last p
    generalize hx : (((common last p.f0 : Nat) : Int) :: (text (p.f0.extract (common last p.f0) p.f0.size) ++ text p.f1)) = x at hn
    have hpo : pairsOf last (p :: ps) = x ++ pairsOf p.f0 ps := by rw [pairsOf, ← hx]
    rw [hpo] at he h
    have e1 : b = pre ++ x ++ (pairsOf p.f0 ps ++ post) := by rw [he]; simp
    have e2 : b = (pre ++ x) ++ pairsOf p.f0 ps ++ post := by rw [he]; simp
    have g := pair_at pre (pairsOf p.f0 ps ++ post) last p hpp hl (by rw [hx, ← e1]; exact hb) (by rw [hx, ← e1]; exact hlen)
    rw [hx, ← e1, ← hn] at g
    have hbl : b.length = pre.length + x.length + (pairsOf p.f0 ps ++ post).length := by rw [e1]; simp; omega
    have l1 := left_at b pre.length hlen (by omega)
    have l2 := left_at b (pre.length + x.length) hlen (by omega)
    have ih := ih (pre ++ x) post p.f0 (got ++ [p]) e2 (fun q hq => hp q (by simp [hq])) (by omega) (by simp at hg ⊢ <;> omega) (by
      rw [List.append_assoc, List.singleton_append, List.length_append]
      rw [List.length_append] at h
      rw [Nat.add_assoc]
      exact h)
    rw [List.length_append] at ih
    refine Ev.step (fun k => ?_) ih
    rw [dump_volumes.l1, if_pos (by simp), l1, Option.bind_some]
    dsimp only
    rw [g, Option.bind_some]
    dsimp only
    rw [l2, Option.bind_some]
    dsimp only
    rw [if_neg (by omega), if_pos (by simp at hg; omega), show (((p :: ps).length : Int) - 1) % 4294967296 = (ps.length : Int) by simp at hg ⊢ <;> omega]
theorem vols (b : List Int) (hb : Bytes b) (hlen : b.length < 100000000) (l : List S136) (hl : l.length ≤ 16) (hw : ∀ w ∈ l, OkW w) :
    ∀ (m i : Nat) (pre : List Int), l.length - i = m → i ≤ l.length → b = pre ++ (l.drop i).flatMap oneOf → Ev (fun k => dump_volumes.l0 k (l.take i) (l.length : Int) (i : Int) b (pre.length : Int) 0) (l, (b.length : Int), 0) := by
  intro m
  induction m with
  | zero =>
    intro i pre hm hi he
    rw [List.drop_of_length_le (by omega)] at he
    simp only [List.flatMap_nil, List.append_nil] at he
    rw [List.take_of_length_le (by omega), he]
    refine Ev.step (f := fun _ => some (l, (pre.length : Int), 0)) (fun k => ?_) (Ev.now _)
    rw [dump_volumes.l0, if_neg (by omega)]
  | succ m ih =>
    intro i pre hm hi he
    have hi' : i < l.length := by omega
    have hok := hw l[i] (List.getElem_mem _)
    have hok' := hok
    unfold OkW at hok'
    rw [List.drop_eq_getElem_cons hi', List.flatMap_cons] at he
    generalize hrest : (l.drop (i + 1)).flatMap oneOf = rest at he
    unfold oneOf at he
    have e1 : b = pre ++ text l[i].f0 ++ (be4 (l[i].f1.length : Int) ++ pairsOf ⟨#[]⟩ l[i].f1 ++ rest) := by rw [he]; simp
    have e2 : b = (pre ++ text l[i].f0) ++ be4 (l[i].f1.length : Int) ++ (pairsOf ⟨#[]⟩ l[i].f1 ++ rest) := by rw [he]; simp
    have e3 : b = (pre ++ text l[i].f0 ++ be4 (l[i].f1.length : Int)) ++ pairsOf ⟨#[]⟩ l[i].f1 ++ rest := by rw [he]; simp
    have e4 : b = (pre ++ text l[i].f0 ++ be4 (l[i].f1.length : Int) ++ pairsOf ⟨#[]⟩ l[i].f1) ++ rest := by rw [he]; simp
    have g1 := getText pre (be4 (l[i].f1.length : Int) ++ pairsOf ⟨#[]⟩ l[i].f1 ++ rest) l[i].f0 16 hok'.1 (by rw [← e1]; exact hb) (by rw [← e1]; exact hlen)
    rw [← e1] at g1
    have g2 := get32 (pre ++ text l[i].f0) (pairsOf ⟨#[]⟩ l[i].f1 ++ rest) (l[i].f1.length : Int) (by omega) (by omega) (by rw [← e2]; exact hb)
    rw [← e2, show (pre ++ text l[i].f0).length = pre.length + (l[i].f0.size + 1) by simp [text_length]] at g2
    have ih := ih (i + 1) _ (by omega) (by omega) (by rw [hrest]; exact e4)
    have hln : (pre ++ text l[i].f0 ++ be4 (l[i].f1.length : Int)).length = pre.length + (l[i].f0.size + 1) + 4 := by simp [text_length, be4_length]; omega
    have v := volPairs b hb hlen (l.take i) (l.length : Int) (i : Int) l[i].f0 (by rw [List.length_take]; omega) (l, (b.length : Int), 0) l[i].f1 (pre ++ text l[i].f0 ++ be4 (l[i].f1.length : Int)) rest ⟨#[]⟩ [] e3 hok'.2.2 (by decide) (by simp; omega) (by
      rw [List.nil_append, wr (by omega) (by omega), show ((i : Int) + 1) = ((i + 1 : Nat) : Int) by omega]
      rw [List.length_append] at ih
      have : List.take i l ++ [(⟨l[i].f0, l[i].f1⟩ : S136)] = l.take (i + 1) := by rw [List.take_add_one, List.getElem?_eq_getElem hi']; rfl
      rw [this]
      exact ih)
    rw [hln] at v
    refine Ev.step (fun k => ?_) v
    rw [dump_volumes.l0, if_pos (by omega), show (16 : Int) = ((16 : Nat) : Int) by rfl, g1, Option.bind_some]
    dsimp only
    rw [g2, Option.bind_some]
theorem volumes (l : List S136) (hl : l.length ≤ 16) (hw : ∀ w ∈ l, OkW w) (hlen : ((l.length : Int) :: l.flatMap oneOf).length < 100000000) : Ev (fun k => dump_volumes.f k ((l.length : Int) :: l.flatMap oneOf) 0 0) (l, (((l.length : Int) :: l.flatMap oneOf).length : Int), 0) := by
  have hb : Bytes ((l.length : Int) :: l.flatMap oneOf) := by
    intro c hc
    rcases List.mem_cons.mp hc with rfl | hc
    · omega
    · exact flat_bytes l hw c hc
  have g := get8 [] (l.flatMap oneOf) (l.length : Int) hb
  rw [List.nil_append] at g
  have v := vols _ hb hlen l hl hw l.length 0 [(l.length : Int)] (by omega) (by omega) rfl
  refine Ev.congr (fun k => ?_) v
  unfold dump_volumes.f
  rw [show (0 : Int) = (([] : List Int).length : Int) by rfl] at *
  rw [g, Option.bind_some]
  dsimp only
  rw [wr (by omega) (by omega), if_neg (by omega)]
  rfl

theorem equal (x : List Int) (hx : x.length < 100000000) : Ev (fun k => slices_Equal_byte_byte.f k x x) true := by
  have key : ∀ (m i : Nat), x.length - i = m → i ≤ x.length → Ev (fun k => slices_Equal_byte_byte.l0 k x x (x.length : Int) (i : Int)) true := by
    intro m
    induction m with
    | zero =>
      intro i hm hi
      exact Ev.step (f := fun _ => some true) (fun k => by rw [slices_Equal_byte_byte.l0, if_neg (by omega)]) (Ev.now _)
    | succ m ih =>
      intro i hm hi
      refine Ev.step (fun k => ?_) (ih (i + 1) (by omega) (by omega))
      rw [slices_Equal_byte_byte.l0, if_pos (by omega), if_pos (by omega), if_pos (by omega), if_pos (by omega), if_pos rfl, wr (by omega) (by omega)]
      rfl
  refine Ev.congr (fun k => ?_) (key x.length 0 (by omega) (by omega))
  unfold slices_Equal_byte_byte.f
  rw [if_pos rfl]
  rfl
theorem prefix_at (l : List Int) : strings_HasPrefix.f (strOfNums (109 :: 114 :: 99 :: 116 :: l)) (⟨#[109, 114, 99, 116]⟩ : ByteArray) = some true := by
  have hz : (strOfNums (109 :: 114 :: 99 :: 116 :: l)).size = l.length + 4 := by rw [strOfNums_size]; simp
  have hp : (⟨#[109, 114, 99, 116]⟩ : ByteArray).size = 4 := rfl
  unfold strings_HasPrefix.f stringslite_HasPrefix.f
  rw [hz, hp, if_pos (by omega), if_pos (by omega), if_pos (by omega), Option.bind_some]
  refine congrArg some ?_
  rw [beq_iff_eq, Go.Lib.extract_toList, strOfNums_data, Go.Lib.toList_data]
  rfl
theorem body_length {l : List S136} (hw : ∀ w ∈ l, OkW w) : (bodyOf l).length ≤ 5 + 4000 * l.length := by
  unfold bodyOf
  rw [List.length_append]
  have : ∀ x : List S136, (∀ w ∈ x, OkW w) → (x.flatMap oneOf).length ≤ 4000 * x.length := by
    intro x hx
    induction x with
    | nil => simp
    | cons w x ih =>
      have := oneOf_length (hx w (by simp))
      have := ih (fun y hy => hx y (by simp [hy]))
      rw [List.flatMap_cons, List.length_append, List.length_cons]
      omega
  have := this l hw
  simp only [List.length_cons, List.length_nil]
  omega
theorem get_put {l : List S136} (h : Small l) (hm : mayB l = true) : Ev (fun k => dump_Get.f k (marked (bodyOf l))) (l, 0) := by
  obtain ⟨hl, hw⟩ := may_all h hm
  have hbb := bodyOf_bytes hw (by omega)
  have hbl := body_length hw
  have hp := put h
  unfold putOf at hp
  rw [if_pos hm] at hp
  have hbody : bodyOf l = 109 :: 114 :: 99 :: 116 :: ((l.length : Int) :: l.flatMap oneOf) := rfl
  have hb5 : (bodyOf l).length = ((l.length : Int) :: l.flatMap oneOf).length + 4 := by rw [hbody]; rfl
  have hln : (marked (bodyOf l)).length = (bodyOf l).length + 4 := by simp [marked, le4]
  have hmb : Bytes (marked (bodyOf l)) := by
    intro c hc
    rcases List.mem_append.mp hc with hc | hc
    · exact hbb c hc
    · exact le4_bytes _ c hc
  have htk : (marked (bodyOf l)).take ((marked (bodyOf l)).length - 4) = bodyOf l := by
    rw [hln, Nat.add_sub_cancel]
    unfold marked
    rw [List.take_left]
  have hdr : (marked (bodyOf l)).drop ((marked (bodyOf l)).length - 4) = le4 (sum (bodyOf l)) := by
    rw [hln, Nat.add_sub_cancel]
    unfold marked
    rw [List.drop_left]
  have hf : Ev (fun k => crc_Fits.f k (marked (bodyOf l))) true := Ev.of (crc_Fits.mono _) ((fits_ev (marked (bodyOf l)) hmb (by omega) 0 (by omega)).trans (congrArg some (decide_eq_true (by rw [htk, hdr]))))
  have hv := volumes l hl hw (by omega)
  have he := equal (marked (bodyOf l)) (by omega)
  unfold dump_Get.f
  refine Ev.bind hf ?_
  rw [htk]
  have hd : (bodyOf l).drop 4 = (l.length : Int) :: l.flatMap oneOf := by rw [hbody]; rfl
  rw [hd]
  refine Ev.congr (f := fun k => (dump_volumes.f k ((l.length : Int) :: l.flatMap oneOf) 0 0).bind fun q => (pack_Reader_End.f ((l.length : Int) :: l.flatMap oneOf) q.2.1 q.2.2).bind fun t => if t.1 != 0 then some ([], t.1) else ((dump_Put.f k q.1).bind fun u => if u.2 != 0 then some ([], 3) else ((slices_Equal_byte_byte.f k u.1 (marked (bodyOf l))).bind fun v => if v = true then some (q.1, 0) else some ([], 3)))) ?_ ?_
  · intro k
    rw [if_neg (by decide), if_pos (by omega), hbody, prefix_at, Option.bind_some, if_neg (by decide), ← hbody, if_pos (by omega)]
  · refine Ev.bind hv ?_
    have hend : pack_Reader_End.f ((l.length : Int) :: l.flatMap oneOf) (((l.length : Int) :: l.flatMap oneOf).length : Int) 0 = some (0, (((l.length : Int) :: l.flatMap oneOf).length : Int), 0) := by
      unfold pack_Reader_End.f
      rw [if_pos rfl, if_neg (by omega)]
    refine Ev.congr (f := fun k => (dump_Put.f k l).bind fun u => if u.2 != 0 then some ([], 3) else ((slices_Equal_byte_byte.f k u.1 (marked (bodyOf l))).bind fun v => if v = true then some (l, 0) else some ([], 3))) ?_ ?_
    · intro k
      dsimp only
      rw [hend, Option.bind_some]
      rfl
    · refine Ev.bind hp ?_
      refine Ev.congr (f := fun k => (slices_Equal_byte_byte.f k (marked (bodyOf l)) (marked (bodyOf l))).bind fun v => if v = true then some (l, 0) else some ([], 3)) (fun k => rfl) ?_
      refine Ev.bind he ?_
      exact Ev.congr (fun k => by rw [if_pos rfl]) (Ev.now _)
end Go.Proofs.Ytfdemnefkfkghaa.Q
namespace Go.Proofs.Ytfdemnefkfkghaa.X
open Go.RowKit Go.Proofs.YtfdemnefkfkghaaW.PrintWords Go.Proofs.YtfdemnefkfkghaaW.PrintLast Go.Proofs.YtfdemnefkfkghaaW.PrintMore
attribute [local go_sem] max2_int min2_int max_two min_two max_three min_three max_four min_four   -- for this text's walks alone
attribute [local go_sem high] Go.Proofs.Ytfdemnefkfkghaa.XW.leq Go.Proofs.Ytfdemnefkfkghaa.XW.gtr Go.Proofs.Ytfdemnefkfkghaa.XW.geq
set_option linter.unusedVariables false
set_option linter.unusedSimpArgs false

def marcotlaw32_DumpWrites.j0 : Nat → List (S136) → List Int → Int → Bool → Option (Bool)
  | 0, _, _, _, _ => none
  | k + 1, x0, x3, x4, x46 => if x46 = true then (some false) else (if x4 = 0 then ((dump_Get.f k x3).bind fun bt120 => (if bt120.2 = 0 then ((marcotref32_Same.f k bt120.1 x0).bind fun t124 => (if t124 = true then ((marcotlaw32_awake.f k).bind fun t125 => (some t125)) else (some false))) else (some false))) else ((marcotlaw32_awake.f k).bind fun t126 => (some t126)))
def marcotlaw32_DumpWrites.f (k : Nat) (l0 : List (S136)) : Option (Bool) := (marcotref32_Great.f k l0).bind fun t101 => (if t101 = true then ((marcotlaw32_awake.f k).bind fun t102 => (some t102)) else ((dump_Put.f k l0).bind fun bt103 => ((marcotref32_Put.f k l0).bind fun bt107 => (if (strOfNums bt103.1).toList = (strOfNums bt107.1).toList then (if bt103.2 = bt107.2 then ((dump_May.f k l0).bind fun t111 => ((marcotref32_May.f k l0).bind fun t112 => (if (t111 != t112) = true then (marcotlaw32_DumpWrites.j0 k l0 bt103.1 bt103.2 true) else ((dump_Ops.f k l0).bind fun t113 => ((marcotref32_Ops.f k l0).bind fun t116 => ((marcotref23_Same.f k t113 t116).bind fun t119 => (marcotlaw32_DumpWrites.j0 k l0 bt103.1 bt103.2 (!t119)))))))) else (marcotlaw32_DumpWrites.j0 k l0 bt103.1 bt103.2 true)) else (marcotlaw32_DumpWrites.j0 k l0 bt103.1 bt103.2 true)))))
theorem marcotlaw32_DumpWrites.mono_l : ∀ k, (∀ y0 y1 y2 y3, LeO (marcotlaw32_DumpWrites.j0 k y0 y1 y2 y3) (marcotlaw32_DumpWrites.j0 (k + 1) y0 y1 y2 y3))
  | 0 => fun _ _ _ _ r h => by simp [marcotlaw32_DumpWrites.j0] at h
  | k + 1 => by
    have ih0 := marcotlaw32_DumpWrites.mono_l k
    · intro y0 y1 y2 y3
      unfold marcotlaw32_DumpWrites.j0
      repeat' first
      | (with_reducible exact ih0 _ _ _ _)
      | (with_reducible exact dump_Get.mono _ _)
      | (with_reducible exact dump_May.mono _ _)
      | (with_reducible exact dump_Ops.mono _ _)
      | (with_reducible exact dump_Put.mono _ _)
      | (with_reducible exact marcotlaw32_awake.mono _)
      | (with_reducible exact marcotref23_Same.mono _ _ _)
      | (with_reducible exact marcotref32_Great.mono _ _)
      | (with_reducible exact marcotref32_May.mono _ _)
      | (with_reducible exact marcotref32_Ops.mono _ _)
      | (with_reducible exact marcotref32_Put.mono _ _)
      | (with_reducible exact marcotref32_Same.mono _ _ _)
      | (with_reducible exact LeO.refl _)
      | (with_reducible exact LeO.none _)
      | (with_reducible refine LeO.ite ?_ ?_)
      | (with_reducible refine LeO.bind ?_ (fun _ => ?_))
      | exact ih0 _ _ _ _
      | exact dump_Get.mono _ _
      | exact dump_May.mono _ _
      | exact dump_Ops.mono _ _
      | exact dump_Put.mono _ _
      | exact marcotlaw32_awake.mono _
      | exact marcotref23_Same.mono _ _ _
      | exact marcotref32_Great.mono _ _
      | exact marcotref32_May.mono _ _
      | exact marcotref32_Ops.mono _ _
      | exact marcotref32_Put.mono _ _
      | exact marcotref32_Same.mono _ _ _
      | exact LeO.none _
      | refine LeO.ite ?_ ?_
      | refine LeO.bind ?_ (fun _ => ?_)
theorem marcotlaw32_DumpWrites.mono : ∀ a0 k, LeO (marcotlaw32_DumpWrites.f k a0) (marcotlaw32_DumpWrites.f (k + 1) a0) := by
  intro a0 k
  have ih0 := marcotlaw32_DumpWrites.mono_l k
  unfold marcotlaw32_DumpWrites.f
  repeat' first
      | (with_reducible exact ih0 _ _ _ _)
      | (with_reducible exact dump_Get.mono _ _)
      | (with_reducible exact dump_May.mono _ _)
      | (with_reducible exact dump_Ops.mono _ _)
      | (with_reducible exact dump_Put.mono _ _)
      | (with_reducible exact marcotlaw32_awake.mono _)
      | (with_reducible exact marcotref23_Same.mono _ _ _)
      | (with_reducible exact marcotref32_Great.mono _ _)
      | (with_reducible exact marcotref32_May.mono _ _)
      | (with_reducible exact marcotref32_Ops.mono _ _)
      | (with_reducible exact marcotref32_Put.mono _ _)
      | (with_reducible exact marcotref32_Same.mono _ _ _)
      | (with_reducible exact LeO.refl _)
      | (with_reducible exact LeO.none _)
      | (with_reducible refine LeO.ite ?_ ?_)
      | (with_reducible refine LeO.bind ?_ (fun _ => ?_))
      | exact ih0 _ _ _ _
      | exact dump_Get.mono _ _
      | exact dump_May.mono _ _
      | exact dump_Ops.mono _ _
      | exact dump_Put.mono _ _
      | exact marcotlaw32_awake.mono _
      | exact marcotref23_Same.mono _ _ _
      | exact marcotref32_Great.mono _ _
      | exact marcotref32_May.mono _ _
      | exact marcotref32_Ops.mono _ _
      | exact marcotref32_Put.mono _ _
      | exact marcotref32_Same.mono _ _ _
      | exact LeO.none _
      | refine LeO.ite ?_ ?_
      | refine LeO.bind ?_ (fun _ => ?_)
set_option maxHeartbeats 8000000 in
set_option maxRecDepth 100000 in
theorem marcotlaw32_DumpWrites.calls (k : Nat) (A0 : Option Addr) (c0 : Nat) (l0 : List (S136)) (r : Bool) (w : World) (hr0 : Kd.C k136 w A0 l0.length l0) (hc0 : l0.length ≤ c0) (h : marcotlaw32_DumpWrites.f k l0 = some r) :
    Calls Try.prog 7 #[.slice A0 l0.length c0] w fun e w' => e = .returned (.bool r) ∧ Below w.heap.size w w' := by
  have HR0 := Aside0.mk hr0
  have HC0 := Aside0.mk hc0
  clear hr0 hc0
  have HB := Aside0.mk (Below.refl w.heap.size w)
  have H : ((marcotref32_Great.f k l0).bind fun t101 => (if t101 = true then ((marcotlaw32_awake.f k).bind fun t102 => (some t102)) else ((dump_Put.f k l0).bind fun bt103 => ((marcotref32_Put.f k l0).bind fun bt107 => (if (strOfNums bt103.1).toList = (strOfNums bt107.1).toList then (if bt103.2 = bt107.2 then ((dump_May.f k l0).bind fun t111 => ((marcotref32_May.f k l0).bind fun t112 => (if (t111 != t112) = true then (marcotlaw32_DumpWrites.j0 k l0 bt103.1 bt103.2 true) else ((dump_Ops.f k l0).bind fun t113 => ((marcotref32_Ops.f k l0).bind fun t116 => ((marcotref23_Same.f k t113 t116).bind fun t119 => (marcotlaw32_DumpWrites.j0 k l0 bt103.1 bt103.2 (!t119)))))))) else (marcotlaw32_DumpWrites.j0 k l0 bt103.1 bt103.2 true)) else (marcotlaw32_DumpWrites.j0 k l0 bt103.1 bt103.2 true)))))) = some r := h
  clear h
  replace H := Option.bind_eq_some_iff.mp H
  obtain ⟨t101, A20, H⟩ := H
  replace H : (if t101 = true then ((marcotlaw32_awake.f k).bind fun t102 => (some t102)) else ((dump_Put.f k l0).bind fun bt103 => ((marcotref32_Put.f k l0).bind fun bt107 => (if (strOfNums bt103.1).toList = (strOfNums bt107.1).toList then (if bt103.2 = bt107.2 then ((dump_May.f k l0).bind fun t111 => ((marcotref32_May.f k l0).bind fun t112 => (if (t111 != t112) = true then (marcotlaw32_DumpWrites.j0 k l0 bt103.1 bt103.2 true) else ((dump_Ops.f k l0).bind fun t113 => ((marcotref32_Ops.f k l0).bind fun t116 => ((marcotref23_Same.f k t113 t116).bind fun t119 => (marcotlaw32_DumpWrites.j0 k l0 bt103.1 bt103.2 (!t119)))))))) else (marcotlaw32_DumpWrites.j0 k l0 bt103.1 bt103.2 true)) else (marcotlaw32_DumpWrites.j0 k l0 bt103.1 bt103.2 true))))) = some r := H
  have A2 := Aside0.mk A20
  clear A20
  by_cases c3 : t101 = true
  · subst c3
    have H1 : ((marcotlaw32_awake.f k).bind fun t102 => (some t102)) = some r := by rw [if_pos rfl] at H; exact H
    clear H
    have H := H1
    clear H1
    replace H := Option.bind_eq_some_iff.mp H
    obtain ⟨t102, A40, H⟩ := H
    replace H : (some t102) = some r := H
    have A4 := Aside0.mk A40
    clear A40
    obtain rfl := Option.some.inj H
    go_enter Try.func7, Try.ntmps7
    go_wp2_with (first | ((with_reducible refine gate_callee (f := 26) rfl ?_); refine goesL_ (some 10) rfl rfl Try.func26 (by kernel_rfl) rfl #[.slice A0 l0.length c0] rfl (by (try simp only [List.map_toArray, List.map_cons, List.map_nil]); first | done | rfl | (simp only [List.length_drop, List.length_take]; rfl)) ?_; (with_reducible refine (marcotref32_Great.calls k _ _ l0 true _ ?side1 ?side2 A2.out).mono ?_); (case side1 => repeat (first | exact HR0.out | (with_reducible refine Kd.C_alloc ?_ _) | (with_reducible refine Kd.C_drewN ?_ _) | (with_reducible refine Kd.C_drew ?_))); (case side2 => exact HC0.out); rintro e w' ⟨rfl, ⟨nd, rfl⟩⟩; refine ⟨_, rfl, ?_⟩) | ((with_reducible refine gate_callee (f := 20) rfl ?_); refine goesL_ (some 11) rfl rfl Try.func20 (by kernel_rfl) rfl #[] rfl (by (try simp only [List.map_toArray, List.map_cons, List.map_nil]); first | done | rfl | (simp only [List.length_drop, List.length_take]; rfl)) ?_; (with_reducible refine (marcotlaw32_awake.calls k  t102 _ A4.out).mono ?_); rintro e w5 ⟨rfl, hb⟩; refine ⟨_, rfl, ?_⟩; have n0_ := Aside0.mk (below_step (by repeat (first | (with_reducible first | exact HB.out | apply below_alloc | apply pw_below_drewN | apply below_drew1) | exact HB.out)) hb); clear HB; have HB := n0_; clear n0_; (try clear hb); (try clear hb2); (try clear hk); (try clear hi)))
    go_ret
    exact ⟨by first | rfl | (simp [errW_none, errW_some] <;> rfl) | (simp [*, errW_none, errW_some] <;> rfl), by repeat (first | (with_reducible first | exact HB.out | apply below_alloc | apply pw_below_drewN | apply below_drew1) | exact HB.out)⟩
  · replace c3 := Bool.eq_false_iff.mpr c3
    subst c3
    have H1 : ((dump_Put.f k l0).bind fun bt103 => ((marcotref32_Put.f k l0).bind fun bt107 => (if (strOfNums bt103.1).toList = (strOfNums bt107.1).toList then (if bt103.2 = bt107.2 then ((dump_May.f k l0).bind fun t111 => ((marcotref32_May.f k l0).bind fun t112 => (if (t111 != t112) = true then (marcotlaw32_DumpWrites.j0 k l0 bt103.1 bt103.2 true) else ((dump_Ops.f k l0).bind fun t113 => ((marcotref32_Ops.f k l0).bind fun t116 => ((marcotref23_Same.f k t113 t116).bind fun t119 => (marcotlaw32_DumpWrites.j0 k l0 bt103.1 bt103.2 (!t119)))))))) else (marcotlaw32_DumpWrites.j0 k l0 bt103.1 bt103.2 true)) else (marcotlaw32_DumpWrites.j0 k l0 bt103.1 bt103.2 true)))) = some r := by rw [if_neg (show ¬ (false = true) by decide)] at H; exact H
    clear H
    have H := H1
    clear H1
    replace H := Option.bind_eq_some_iff.mp H
    obtain ⟨⟨t103, t104⟩, A60, H⟩ := H
    replace H : ((marcotref32_Put.f k l0).bind fun bt107 => (if (strOfNums t103).toList = (strOfNums bt107.1).toList then (if t104 = bt107.2 then ((dump_May.f k l0).bind fun t111 => ((marcotref32_May.f k l0).bind fun t112 => (if (t111 != t112) = true then (marcotlaw32_DumpWrites.j0 k l0 t103 t104 true) else ((dump_Ops.f k l0).bind fun t113 => ((marcotref32_Ops.f k l0).bind fun t116 => ((marcotref23_Same.f k t113 t116).bind fun t119 => (marcotlaw32_DumpWrites.j0 k l0 t103 t104 (!t119)))))))) else (marcotlaw32_DumpWrites.j0 k l0 t103 t104 true)) else (marcotlaw32_DumpWrites.j0 k l0 t103 t104 true))) = some r := H
    have A6 := Aside0.mk A60
    clear A60
    replace H := Option.bind_eq_some_iff.mp H
    obtain ⟨⟨t107, t108⟩, A70, H⟩ := H
    replace H : (if (strOfNums t103).toList = (strOfNums t107).toList then (if t104 = t108 then ((dump_May.f k l0).bind fun t111 => ((marcotref32_May.f k l0).bind fun t112 => (if (t111 != t112) = true then (marcotlaw32_DumpWrites.j0 k l0 t103 t104 true) else ((dump_Ops.f k l0).bind fun t113 => ((marcotref32_Ops.f k l0).bind fun t116 => ((marcotref23_Same.f k t113 t116).bind fun t119 => (marcotlaw32_DumpWrites.j0 k l0 t103 t104 (!t119)))))))) else (marcotlaw32_DumpWrites.j0 k l0 t103 t104 true)) else (marcotlaw32_DumpWrites.j0 k l0 t103 t104 true)) = some r := H
    have A7 := Aside0.mk A70
    clear A70
    have HC8 := Aside0.mk H
    clear H
    go_enter Try.func7, Try.ntmps7
    go_upto_region 5 with (first | ((with_reducible refine gate_callee (f := 26) rfl ?_); refine goesL_ (some 10) rfl rfl Try.func26 (by kernel_rfl) rfl #[.slice A0 l0.length c0] rfl (by (try simp only [List.map_toArray, List.map_cons, List.map_nil]); first | done | rfl | (simp only [List.length_drop, List.length_take]; rfl)) ?_; (with_reducible refine (marcotref32_Great.calls k _ _ l0 false _ ?side1 ?side2 A2.out).mono ?_); (case side1 => repeat (first | exact HR0.out | (with_reducible refine Kd.C_alloc ?_ _) | (with_reducible refine Kd.C_drewN ?_ _) | (with_reducible refine Kd.C_drew ?_))); (case side2 => exact HC0.out); rintro e w' ⟨rfl, ⟨nd, rfl⟩⟩; refine ⟨_, rfl, ?_⟩) | ((with_reducible refine gate_callee (f := 25) rfl ?_); refine goesL_ (some 14) rfl rfl Try.func25 (by kernel_rfl) rfl #[.slice A0 l0.length c0] rfl (by (try simp only [List.map_toArray, List.map_cons, List.map_nil]); first | done | rfl | (simp only [List.length_drop, List.length_take]; rfl)) ?_; (with_reducible refine (dump_Put.calls k _ _ l0 t103 t104 _ ?side1 ?side2 A6.out).mono ?_); (case side1 => repeat (first | exact HR0.out | (with_reducible refine Kd.C_alloc ?_ _) | (with_reducible refine Kd.C_drewN ?_ _) | (with_reducible refine Kd.C_drew ?_))); (case side2 => exact HC0.out); rintro e w9 ⟨v105, rfl, ho0, hb⟩; refine ⟨_, rfl, ?_⟩; have n0_ := Aside0.mk (Kd.R_lower ho0 (below_size (by repeat (first | (with_reducible first | exact HB.out | apply below_alloc | apply pw_below_drewN | apply below_drew1) | exact HB.out)))); have n1_ := Aside0.mk (below_step (by repeat (first | (with_reducible first | exact HB.out | apply below_alloc | apply pw_below_drewN | apply below_drew1) | exact HB.out)) hb); clear HB; have HO106 := n0_; have HB := n1_; clear n0_ n1_; (try clear hb); (try clear hb2); (try clear hk); (try clear hi); (try clear ho0)) | ((with_reducible refine gate_callee (f := 27) rfl ?_); refine goesL_ (some 19) rfl rfl Try.func27 (by kernel_rfl) rfl #[.slice A0 l0.length c0] rfl (by (try simp only [List.map_toArray, List.map_cons, List.map_nil]); first | done | rfl | (simp only [List.length_drop, List.length_take]; rfl)) ?_; (with_reducible refine (marcotref32_Put.calls k _ _ l0 t107 t108 _ ?side1 ?side2 A7.out).mono ?_); (case side1 => repeat (first | exact (Kd.C_below HR0.out HB.out) | (with_reducible refine Kd.C_alloc ?_ _) | (with_reducible refine Kd.C_drewN ?_ _) | (with_reducible refine Kd.C_drew ?_))); (case side2 => exact HC0.out); rintro e w10 ⟨v109, rfl, ho0, hb⟩; refine ⟨_, rfl, ?_⟩; have n0_ := Aside0.mk (Kd.R_elder' (by (with_reducible repeat (first | apply Kd.R_alloc | apply Kd.R_drewN | apply Kd.R_drew)); exact HO106.out) (Kd.R_base ho0) hb); have n1_ := Aside0.mk (Kd.R_lower (Kd.R_new' ho0 (Kd.R_lt (by (with_reducible repeat (first | apply Kd.R_alloc | apply Kd.R_drewN | apply Kd.R_drew)); exact HO106.out))) (below_size (by repeat (first | (with_reducible first | exact HB.out | apply below_alloc | apply pw_below_drewN | apply below_drew1) | exact HB.out)))); have n2_ := Aside0.mk (below_step (by repeat (first | (with_reducible first | exact HB.out | apply below_alloc | apply pw_below_drewN | apply below_drew1) | exact HB.out)) hb); clear HO106; clear HB; have HO106 := n0_; have HO110 := n1_; have HB := n2_; clear n0_ n1_ n2_; (try clear hb); (try clear hb2); (try clear hk); (try clear hi); (try clear ho0)))
    (try simp only [Act.put, List.setIfInBounds_toArray, List.set_cons_zero, List.set_cons_succ])
    go_cut [46] (fun v46 wc => ∃ (kq : Nat) (x46_7 : Bool), v46 = .bool x46_7 ∧ Aside0 (marcotlaw32_DumpWrites.j0 kq l0 t103 t104 x46_7 = some r) ∧ Aside0 (kq ≤ k) ∧ Aside0 (Kd.R (Kd.int .u8) 5 wc w.heap.size (fun _ => True) v105 t103) ∧ Aside0 (Below w.heap.size w wc))
    case first =>
      have H := HC8.out
      clear HC8
      by_cases c11 : (strOfNums t103).toList = (strOfNums t107).toList
      · rw [if_pos c11] at H
        have c11b0 : ((strOfNums t103).toList == (strOfNums t107).toList) = true := beq_iff_eq.mpr c11
        have c11b1 : ((strOfNums t103).toList != (strOfNums t107).toList) = false := bne_eq_false_iff_eq.mpr c11
        clear c11
        (first | rw [c11b0] | (simp only [i64_w, i32_w]; rw [c11b0]) | skip)
        by_cases c12 : t104 = t108
        · rw [if_pos c12] at H
          have c12b0 : (t104 == t108) = true := beq_iff_eq.mpr c12
          have c12b1 : (t104 != t108) = false := bne_eq_false_iff_eq.mpr c12
          clear c12
          replace H := Option.bind_eq_some_iff.mp H
          obtain ⟨t111, A130, H⟩ := H
          replace H : ((marcotref32_May.f k l0).bind fun t112 => (if (t111 != t112) = true then (marcotlaw32_DumpWrites.j0 k l0 t103 t104 true) else ((dump_Ops.f k l0).bind fun t113 => ((marcotref32_Ops.f k l0).bind fun t116 => ((marcotref23_Same.f k t113 t116).bind fun t119 => (marcotlaw32_DumpWrites.j0 k l0 t103 t104 (!t119))))))) = some r := H
          have A13 := Aside0.mk A130
          clear A130
          replace H := Option.bind_eq_some_iff.mp H
          obtain ⟨t112, A140, H⟩ := H
          replace H : (if (t111 != t112) = true then (marcotlaw32_DumpWrites.j0 k l0 t103 t104 true) else ((dump_Ops.f k l0).bind fun t113 => ((marcotref32_Ops.f k l0).bind fun t116 => ((marcotref23_Same.f k t113 t116).bind fun t119 => (marcotlaw32_DumpWrites.j0 k l0 t103 t104 (!t119)))))) = some r := H
          have A14 := Aside0.mk A140
          clear A140
          by_cases c15 : (t111 != t112) = true
          · rw [if_pos c15] at H
            have c15b0 : (t111 != t112) = true := c15
            (try (have c15b1 : decide (t111 = t112) = false := by simpa using c15))
            (try (have c15b2 : (t111 == t112) = false := by simpa using c15))
            (try (have c15b3 : ¬ (t111 = t112) := by simpa using c15))
            clear c15
            have H' := Aside0.mk H
            clear H
            have hcv16 := own_string (P := Try.prog) Try.underlying31 Try.underlying5 Try.underlying9 (Kd.own_of_R HO106.out)
            have hcv17 := own_string (P := Try.prog) Try.underlying31 Try.underlying5 Try.underlying9 (Kd.own_of_R HO110.out)
            go_wp2_with (first | (go_at_call 28; (with_reducible refine (dump_May.calls k _ _ l0 t111 _ ?side1 ?side2 A13.out).mono ?_); (case side1 => repeat (first | exact (Kd.C_below HR0.out HB.out) | (with_reducible refine Kd.C_alloc ?_ _) | (with_reducible refine Kd.C_drewN ?_ _) | (with_reducible refine Kd.C_drew ?_))); (case side2 => exact HC0.out); rintro e w18 ⟨rfl, hb⟩; have n0_ := Aside0.mk (Kd.R_below (by (with_reducible repeat (first | apply Kd.R_alloc | apply Kd.R_drewN | apply Kd.R_drew)); exact HO106.out) hb); have n1_ := Aside0.mk (Kd.R_below (by (with_reducible repeat (first | apply Kd.R_alloc | apply Kd.R_drewN | apply Kd.R_drew)); exact HO110.out) hb); have n2_ := Aside0.mk (below_step (by repeat (first | (with_reducible first | exact HB.out | apply below_alloc | apply pw_below_drewN | apply below_drew1) | exact HB.out)) hb); clear HO106; clear HO110; clear HB; have HO106 := n0_; have HO110 := n1_; have HB := n2_; clear n0_ n1_ n2_; (try clear hb); (try clear hb2); (try clear hk); (try clear hi)) | (go_at_call 29; (with_reducible refine (marcotref32_May.calls k _ _ l0 t112 _ ?side1 ?side2 A14.out).mono ?_); (case side1 => repeat (first | exact (Kd.C_below HR0.out HB.out) | (with_reducible refine Kd.C_alloc ?_ _) | (with_reducible refine Kd.C_drewN ?_ _) | (with_reducible refine Kd.C_drew ?_))); (case side2 => exact HC0.out); rintro e w19 ⟨rfl, hb⟩; have n0_ := Aside0.mk (Kd.R_below (by (with_reducible repeat (first | apply Kd.R_alloc | apply Kd.R_drewN | apply Kd.R_drew)); exact HO106.out) hb); have n1_ := Aside0.mk (Kd.R_below (by (with_reducible repeat (first | apply Kd.R_alloc | apply Kd.R_drewN | apply Kd.R_drew)); exact HO110.out) hb); have n2_ := Aside0.mk (below_step (by repeat (first | (with_reducible first | exact HB.out | apply below_alloc | apply pw_below_drewN | apply below_drew1) | exact HB.out)) hb); clear HO106; clear HO110; clear HB; have HO106 := n0_; have HO110 := n1_; have HB := n2_; clear n0_ n1_ n2_; (try clear hb); (try clear hb2); (try clear hk); (try clear hi)))
            go_meet
            case rel => exact ⟨_, (true), (by first | rfl | (simp; done) | (simp [*]; done)), H', ⟨by first | omega | exact Nat.le_refl _⟩, ⟨by (with_reducible repeat (first | apply Kd.R_alloc | apply Kd.R_drewN | apply Kd.R_drew)); exact Kd.R_mono HO106.out (fun _ hk => trivial)⟩, ⟨by repeat (first | (with_reducible first | exact HB.out | apply below_alloc | apply pw_below_drewN | apply below_drew1) | exact HB.out)⟩⟩
          · rw [if_neg c15] at H
            have c15b0 : (t111 != t112) = false := by simpa using c15
            (try (have c15b1 : decide (t111 = t112) = true := by simpa using c15))
            (try (have c15b2 : (t111 == t112) = true := by simpa using c15))
            clear c15
            replace H := Option.bind_eq_some_iff.mp H
            obtain ⟨t113, A200, H⟩ := H
            replace H : ((marcotref32_Ops.f k l0).bind fun t116 => ((marcotref23_Same.f k t113 t116).bind fun t119 => (marcotlaw32_DumpWrites.j0 k l0 t103 t104 (!t119)))) = some r := H
            have A20 := Aside0.mk A200
            clear A200
            replace H := Option.bind_eq_some_iff.mp H
            obtain ⟨t116, A210, H⟩ := H
            replace H : ((marcotref23_Same.f k t113 t116).bind fun t119 => (marcotlaw32_DumpWrites.j0 k l0 t103 t104 (!t119))) = some r := H
            have A21 := Aside0.mk A210
            clear A210
            replace H := Option.bind_eq_some_iff.mp H
            obtain ⟨t119, A220, H⟩ := H
            replace H : (marcotlaw32_DumpWrites.j0 k l0 t103 t104 (!t119)) = some r := H
            have A22 := Aside0.mk A220
            clear A220
            have H' := Aside0.mk H
            clear H
            have hcv23 := own_string (P := Try.prog) Try.underlying31 Try.underlying5 Try.underlying9 (Kd.own_of_R HO106.out)
            have hcv24 := own_string (P := Try.prog) Try.underlying31 Try.underlying5 Try.underlying9 (Kd.own_of_R HO110.out)
            go_wp2_with (first | (go_at_call 28; (with_reducible refine (dump_May.calls k _ _ l0 t111 _ ?side1 ?side2 A13.out).mono ?_); (case side1 => repeat (first | exact (Kd.C_below HR0.out HB.out) | (with_reducible refine Kd.C_alloc ?_ _) | (with_reducible refine Kd.C_drewN ?_ _) | (with_reducible refine Kd.C_drew ?_))); (case side2 => exact HC0.out); rintro e w25 ⟨rfl, hb⟩; have n0_ := Aside0.mk (Kd.R_below (by (with_reducible repeat (first | apply Kd.R_alloc | apply Kd.R_drewN | apply Kd.R_drew)); exact HO106.out) hb); have n1_ := Aside0.mk (Kd.R_below (by (with_reducible repeat (first | apply Kd.R_alloc | apply Kd.R_drewN | apply Kd.R_drew)); exact HO110.out) hb); have n2_ := Aside0.mk (below_step (by repeat (first | (with_reducible first | exact HB.out | apply below_alloc | apply pw_below_drewN | apply below_drew1) | exact HB.out)) hb); clear HO106; clear HO110; clear HB; have HO106 := n0_; have HO110 := n1_; have HB := n2_; clear n0_ n1_ n2_; (try clear hb); (try clear hb2); (try clear hk); (try clear hi)) | (go_at_call 29; (with_reducible refine (marcotref32_May.calls k _ _ l0 t112 _ ?side1 ?side2 A14.out).mono ?_); (case side1 => repeat (first | exact (Kd.C_below HR0.out HB.out) | (with_reducible refine Kd.C_alloc ?_ _) | (with_reducible refine Kd.C_drewN ?_ _) | (with_reducible refine Kd.C_drew ?_))); (case side2 => exact HC0.out); rintro e w26 ⟨rfl, hb⟩; have n0_ := Aside0.mk (Kd.R_below (by (with_reducible repeat (first | apply Kd.R_alloc | apply Kd.R_drewN | apply Kd.R_drew)); exact HO106.out) hb); have n1_ := Aside0.mk (Kd.R_below (by (with_reducible repeat (first | apply Kd.R_alloc | apply Kd.R_drewN | apply Kd.R_drew)); exact HO110.out) hb); have n2_ := Aside0.mk (below_step (by repeat (first | (with_reducible first | exact HB.out | apply below_alloc | apply pw_below_drewN | apply below_drew1) | exact HB.out)) hb); clear HO106; clear HO110; clear HB; have HO106 := n0_; have HO110 := n1_; have HB := n2_; clear n0_ n1_ n2_; (try clear hb); (try clear hb2); (try clear hk); (try clear hi)) | (go_at_call 31; (with_reducible refine (dump_Ops.calls k _ _ l0 t113 _ ?side1 ?side2 A20.out).mono ?_); (case side1 => repeat (first | exact (Kd.C_below HR0.out HB.out) | (with_reducible refine Kd.C_alloc ?_ _) | (with_reducible refine Kd.C_drewN ?_ _) | (with_reducible refine Kd.C_drew ?_))); (case side2 => exact HC0.out); rintro e w27 ⟨v114, rfl, ho0, hb⟩; have n0_ := Aside0.mk (Kd.R_below (by (with_reducible repeat (first | apply Kd.R_alloc | apply Kd.R_drewN | apply Kd.R_drew)); exact HO106.out) hb); have n1_ := Aside0.mk (Kd.R_below (by (with_reducible repeat (first | apply Kd.R_alloc | apply Kd.R_drewN | apply Kd.R_drew)); exact HO110.out) hb); have n2_ := Aside0.mk (Kd.R_lower ho0 (below_size (by repeat (first | (with_reducible first | exact HB.out | apply below_alloc | apply pw_below_drewN | apply below_drew1) | exact HB.out)))); have n3_ := Aside0.mk (below_step (by repeat (first | (with_reducible first | exact HB.out | apply below_alloc | apply pw_below_drewN | apply below_drew1) | exact HB.out)) hb); clear HO106; clear HO110; clear HB; have HO106 := n0_; have HO110 := n1_; have HO115 := n2_; have HB := n3_; clear n0_ n1_ n2_ n3_; (try clear hb); (try clear hb2); (try clear hk); (try clear hi); (try clear ho0)) | (go_at_call 32; (with_reducible refine (marcotref32_Ops.calls k _ _ l0 t116 _ ?side1 ?side2 A21.out).mono ?_); (case side1 => repeat (first | exact (Kd.C_below HR0.out HB.out) | (with_reducible refine Kd.C_alloc ?_ _) | (with_reducible refine Kd.C_drewN ?_ _) | (with_reducible refine Kd.C_drew ?_))); (case side2 => exact HC0.out); rintro e w28 ⟨v117, rfl, ho0, hb⟩; have n0_ := Aside0.mk (Kd.R_below (by (with_reducible repeat (first | apply Kd.R_alloc | apply Kd.R_drewN | apply Kd.R_drew)); exact HO106.out) hb); have n1_ := Aside0.mk (Kd.R_below (by (with_reducible repeat (first | apply Kd.R_alloc | apply Kd.R_drewN | apply Kd.R_drew)); exact HO110.out) hb); have n2_ := Aside0.mk (Kd.R_elder' (by (with_reducible repeat (first | apply Kd.R_alloc | apply Kd.R_drewN | apply Kd.R_drew)); exact HO115.out) (Kd.R_base ho0) hb); have n3_ := Aside0.mk (Kd.R_lower (Kd.R_new' ho0 (Kd.R_lt (by (with_reducible repeat (first | apply Kd.R_alloc | apply Kd.R_drewN | apply Kd.R_drew)); exact HO115.out))) (below_size (by repeat (first | (with_reducible first | exact HB.out | apply below_alloc | apply pw_below_drewN | apply below_drew1) | exact HB.out)))); have n4_ := Aside0.mk (below_step (by repeat (first | (with_reducible first | exact HB.out | apply below_alloc | apply pw_below_drewN | apply below_drew1) | exact HB.out)) hb); clear HO106; clear HO110; clear HO115; clear HB; have HO106 := n0_; have HO110 := n1_; have HO115 := n2_; have HO118 := n3_; have HB := n4_; clear n0_ n1_ n2_ n3_ n4_; (try clear hb); (try clear hb2); (try clear hk); (try clear hi); (try clear ho0); obtain ⟨Ao29, co29, eo29⟩ := Kd.R_slice HO115.out; subst eo29; obtain ⟨Ao30, co30, eo30⟩ := Kd.R_slice HO118.out; subst eo30) | (go_at_call 30; (with_reducible refine (marcotref23_Same.calls k _ _ t113 _ _ t116 t119 _ ?side1 ?side2 ?side3 ?side4 A22.out).mono ?_); (case side1 => repeat (first | exact (Kd.R_reads' HO115.out).2.2 | (with_reducible refine Kd.C_alloc ?_ _) | (with_reducible refine Kd.C_drewN ?_ _) | (with_reducible refine Kd.C_drew ?_))); (case side2 => exact (Kd.R_reads' HO115.out).2.1); (case side3 => repeat (first | exact (Kd.R_reads' HO118.out).2.2 | (with_reducible refine Kd.C_alloc ?_ _) | (with_reducible refine Kd.C_drewN ?_ _) | (with_reducible refine Kd.C_drew ?_))); (case side4 => exact (Kd.R_reads' HO118.out).2.1); rintro e w' ⟨rfl, ⟨nd, rfl⟩⟩))
            go_meet
            case rel => exact ⟨_, (!t119), (by first | rfl | (simp; done) | (simp [*]; done)), H', ⟨by first | omega | exact Nat.le_refl _⟩, ⟨by (with_reducible repeat (first | apply Kd.R_alloc | apply Kd.R_drewN | apply Kd.R_drew)); exact Kd.R_mono HO106.out (fun _ hk => trivial)⟩, ⟨by repeat (first | (with_reducible first | exact HB.out | apply below_alloc | apply pw_below_drewN | apply below_drew1) | exact HB.out)⟩⟩
        · rw [if_neg c12] at H
          have c12b0 : (t104 == t108) = false := beq_eq_false_iff_ne.mpr c12
          have c12b1 : (t104 != t108) = true := bne_iff_ne.mpr c12
          have H' := Aside0.mk H
          clear H
          have hcv31 := own_string (P := Try.prog) Try.underlying31 Try.underlying5 Try.underlying9 (Kd.own_of_R HO106.out)
          have hcv32 := own_string (P := Try.prog) Try.underlying31 Try.underlying5 Try.underlying9 (Kd.own_of_R HO110.out)
          go_wp2
          go_meet
          case rel => exact ⟨_, (true), (by first | rfl | (simp; done) | (simp [*]; done)), H', ⟨by first | omega | exact Nat.le_refl _⟩, ⟨by (with_reducible repeat (first | apply Kd.R_alloc | apply Kd.R_drewN | apply Kd.R_drew)); exact Kd.R_mono HO106.out (fun _ hk => trivial)⟩, ⟨by repeat (first | (with_reducible first | exact HB.out | apply below_alloc | apply pw_below_drewN | apply below_drew1) | exact HB.out)⟩⟩
      · rw [if_neg c11] at H
        have c11b0 : ((strOfNums t103).toList == (strOfNums t107).toList) = false := beq_eq_false_iff_ne.mpr c11
        have c11b1 : ((strOfNums t103).toList != (strOfNums t107).toList) = true := bne_iff_ne.mpr c11
        (first | rw [c11b0] | (simp only [i64_w, i32_w]; rw [c11b0]) | skip)
        have H' := Aside0.mk H
        clear H
        have hcv33 := own_string (P := Try.prog) Try.underlying31 Try.underlying5 Try.underlying9 (Kd.own_of_R HO106.out)
        have hcv34 := own_string (P := Try.prog) Try.underlying31 Try.underlying5 Try.underlying9 (Kd.own_of_R HO110.out)
        go_wp2
        go_meet
        case rel => exact ⟨_, (true), (by first | rfl | (simp; done) | (simp [*]; done)), H', ⟨by first | omega | exact Nat.le_refl _⟩, ⟨by (with_reducible repeat (first | apply Kd.R_alloc | apply Kd.R_drewN | apply Kd.R_drew)); exact Kd.R_mono HO106.out (fun _ hk => trivial)⟩, ⟨by repeat (first | (with_reducible first | exact HB.out | apply below_alloc | apply pw_below_drewN | apply below_drew1) | exact HB.out)⟩⟩
    case rest =>
      clear HC8
      try clear c1
      try clear hcv1
      try clear c2
      try clear p2
      try clear hcv2
      try clear c3
      try clear hcv3
      try clear c7
      try clear c11
      try clear c11b0
      try clear c11b1
      try clear c12
      try clear c12b0
      try clear c12b1
      try clear c15
      try clear c15b0
      try clear c15b1
      try clear c15b2
      try clear hcv16
      try clear hcv17
      try clear c20
      try clear hcv23
      try clear hcv24
      try clear c25
      try clear c26
      try clear c27
      try clear hcv31
      try clear hcv32
      try clear hcv33
      try clear hcv34
      obtain ⟨kq, x46_7, rfl, HA, HJ7, HO_3, HB⟩ := hcut
      cases kq with
      | zero => exact absurd HA.out (by simp [marcotlaw32_DumpWrites.j0])
      | succ kj7 =>
        have H := HA.out
        clear HA
        simp only [marcotlaw32_DumpWrites.j0] at H
        by_cases c35 : x46_7 = true
        · subst c35
          have H1 : (some false) = some r := by rw [if_pos rfl] at H; exact H
          clear H
          have H := H1
          clear H1
          obtain rfl := Option.some.inj H
          go_wp2
          go_ret
          exact ⟨by first | rfl | (simp [errW_none, errW_some] <;> rfl) | (simp [*, errW_none, errW_some] <;> rfl), by repeat (first | (with_reducible first | exact HB.out | apply below_alloc | apply pw_below_drewN | apply below_drew1) | exact HB.out)⟩
        · replace c35 := Bool.eq_false_iff.mpr c35
          subst c35
          have H1 : (if t104 = 0 then ((dump_Get.f kj7 t103).bind fun bt120 => (if bt120.2 = 0 then ((marcotref32_Same.f kj7 bt120.1 l0).bind fun t124 => (if t124 = true then ((marcotlaw32_awake.f kj7).bind fun t125 => (some t125)) else (some false))) else (some false))) else ((marcotlaw32_awake.f kj7).bind fun t126 => (some t126))) = some r := by rw [if_neg (show ¬ (false = true) by decide)] at H; exact H
          clear H
          have H := H1
          clear H1
          by_cases c36 : t104 = 0
          · rw [if_pos c36] at H
            have c36b0 : (t104 == 0) = true := beq_iff_eq.mpr c36
            have c36b1 : (t104 != 0) = false := bne_eq_false_iff_eq.mpr c36
            clear c36
            replace H := Option.bind_eq_some_iff.mp H
            obtain ⟨⟨t120, t121⟩, A370, H⟩ := H
            replace H : (if t121 = 0 then ((marcotref32_Same.f kj7 t120 l0).bind fun t124 => (if t124 = true then ((marcotlaw32_awake.f kj7).bind fun t125 => (some t125)) else (some false))) else (some false)) = some r := H
            have A37 := Aside0.mk A370
            clear A370
            by_cases c38 : t121 = 0
            · rw [if_pos c38] at H
              have c38b0 : (t121 == 0) = true := beq_iff_eq.mpr c38
              have c38b1 : (t121 != 0) = false := bne_eq_false_iff_eq.mpr c38
              clear c38
              replace H := Option.bind_eq_some_iff.mp H
              obtain ⟨t124, A390, H⟩ := H
              replace H : (if t124 = true then ((marcotlaw32_awake.f kj7).bind fun t125 => (some t125)) else (some false)) = some r := H
              have A39 := Aside0.mk A390
              clear A390
              by_cases c40 : t124 = true
              · subst c40
                have H1 : ((marcotlaw32_awake.f kj7).bind fun t125 => (some t125)) = some r := by rw [if_pos rfl] at H; exact H
                clear H
                have H := H1
                clear H1
                replace H := Option.bind_eq_some_iff.mp H
                obtain ⟨t125, A410, H⟩ := H
                replace H : (some t125) = some r := H
                have A41 := Aside0.mk A410
                clear A410
                obtain rfl := Option.some.inj H
                obtain ⟨Ao42, co42, eo42⟩ := Kd.R_slice HO_3.out
                subst eo42
                go_wp2_with (first | ((with_reducible refine gate_callee (f := 22) rfl ?_); refine goesL_ (some 52) rfl rfl Try.func22 (by kernel_rfl) rfl #[.slice Ao42 t103.length co42] rfl (by (try simp only [List.map_toArray, List.map_cons, List.map_nil]); first | done | rfl | (simp only [List.length_drop, List.length_take]; rfl)) ?_; (with_reducible refine (dump_Get.calls kj7 _ _ t103 t120 t121 _ ?side1 ?side2 A37.out).mono ?_); (case side1 => repeat (first | exact (Kd.R_reads' HO_3.out).2.2 | (with_reducible refine Kd.C_alloc ?_ _) | (with_reducible refine Kd.C_drewN ?_ _) | (with_reducible refine Kd.C_drew ?_))); (case side2 => exact (Kd.R_reads' HO_3.out).2.1); rintro e w43 ⟨v122, rfl, ho0, hb⟩; refine ⟨_, rfl, ?_⟩; have n0_ := Aside0.mk (Kd.R_below (by (with_reducible repeat (first | apply Kd.R_alloc | apply Kd.R_drewN | apply Kd.R_drew)); exact HO_3.out) hb); have n1_ := Aside0.mk (Kd.S_lower ho0 (below_size (by repeat (first | (with_reducible first | exact HB.out | apply below_alloc | apply pw_below_drewN | apply below_drew1) | exact HB.out)))); have n2_ := Aside0.mk (below_step (by repeat (first | (with_reducible first | exact HB.out | apply below_alloc | apply pw_below_drewN | apply below_drew1) | exact HB.out)) hb); clear HO_3; clear HB; have HO_3 := n0_; have HO123 := n1_; have HB := n2_; clear n0_ n1_ n2_; (try clear hb); (try clear hb2); (try clear hk); (try clear hi); (try clear ho0); obtain ⟨Ao44, co44, eo44⟩ := Kd.S_slice HO123.out; subst eo44) | (go_at_call 24; (with_reducible refine (marcotref32_Same.calls kj7 _ _ t120 _ _ l0 true _ ?side1 ?side2 ?side3 ?side4 A39.out).mono ?_); (case side1 => repeat (first | exact (Kd.S_reads' HO123.out).2.2 | (with_reducible refine Kd.C_alloc ?_ _) | (with_reducible refine Kd.C_drewN ?_ _) | (with_reducible refine Kd.C_drew ?_))); (case side2 => exact (Kd.S_reads' HO123.out).2.1); (case side3 => repeat (first | exact (Kd.C_below HR0.out HB.out) | (with_reducible refine Kd.C_alloc ?_ _) | (with_reducible refine Kd.C_drewN ?_ _) | (with_reducible refine Kd.C_drew ?_))); (case side4 => exact HC0.out); rintro e w' ⟨rfl, ⟨nd, rfl⟩⟩) | (go_at_call 20; (with_reducible refine (marcotlaw32_awake.calls kj7  t125 _ A41.out).mono ?_); rintro e w45 ⟨rfl, hb⟩; have n0_ := Aside0.mk (Kd.R_below (by (with_reducible repeat (first | apply Kd.R_alloc | apply Kd.R_drewN | apply Kd.R_drew)); exact HO_3.out) hb); have n1_ := Aside0.mk (Kd.S_below (by (with_reducible repeat (first | apply Kd.S_alloc | apply Kd.S_drewN | apply Kd.S_drew)); exact HO123.out) hb); have n2_ := Aside0.mk (below_step (by repeat (first | (with_reducible first | exact HB.out | apply below_alloc | apply pw_below_drewN | apply below_drew1) | exact HB.out)) hb); clear HO_3; clear HO123; clear HB; have HO_3 := n0_; have HO123 := n1_; have HB := n2_; clear n0_ n1_ n2_; (try clear hb); (try clear hb2); (try clear hk); (try clear hi)))
                go_ret
                exact ⟨by first | rfl | (simp [errW_none, errW_some] <;> rfl) | (simp [*, errW_none, errW_some] <;> rfl), by repeat (first | (with_reducible first | exact HB.out | apply below_alloc | apply pw_below_drewN | apply below_drew1) | exact HB.out)⟩
              · replace c40 := Bool.eq_false_iff.mpr c40
                subst c40
                have H1 : (some false) = some r := by rw [if_neg (show ¬ (false = true) by decide)] at H; exact H
                clear H
                have H := H1
                clear H1
                obtain rfl := Option.some.inj H
                obtain ⟨Ao46, co46, eo46⟩ := Kd.R_slice HO_3.out
                subst eo46
                go_wp2_with (first | ((with_reducible refine gate_callee (f := 22) rfl ?_); refine goesL_ (some 52) rfl rfl Try.func22 (by kernel_rfl) rfl #[.slice Ao46 t103.length co46] rfl (by (try simp only [List.map_toArray, List.map_cons, List.map_nil]); first | done | rfl | (simp only [List.length_drop, List.length_take]; rfl)) ?_; (with_reducible refine (dump_Get.calls kj7 _ _ t103 t120 t121 _ ?side1 ?side2 A37.out).mono ?_); (case side1 => repeat (first | exact (Kd.R_reads' HO_3.out).2.2 | (with_reducible refine Kd.C_alloc ?_ _) | (with_reducible refine Kd.C_drewN ?_ _) | (with_reducible refine Kd.C_drew ?_))); (case side2 => exact (Kd.R_reads' HO_3.out).2.1); rintro e w47 ⟨v122, rfl, ho0, hb⟩; refine ⟨_, rfl, ?_⟩; have n0_ := Aside0.mk (Kd.R_below (by (with_reducible repeat (first | apply Kd.R_alloc | apply Kd.R_drewN | apply Kd.R_drew)); exact HO_3.out) hb); have n1_ := Aside0.mk (Kd.S_lower ho0 (below_size (by repeat (first | (with_reducible first | exact HB.out | apply below_alloc | apply pw_below_drewN | apply below_drew1) | exact HB.out)))); have n2_ := Aside0.mk (below_step (by repeat (first | (with_reducible first | exact HB.out | apply below_alloc | apply pw_below_drewN | apply below_drew1) | exact HB.out)) hb); clear HO_3; clear HB; have HO_3 := n0_; have HO123 := n1_; have HB := n2_; clear n0_ n1_ n2_; (try clear hb); (try clear hb2); (try clear hk); (try clear hi); (try clear ho0); obtain ⟨Ao48, co48, eo48⟩ := Kd.S_slice HO123.out; subst eo48) | (go_at_call 24; (with_reducible refine (marcotref32_Same.calls kj7 _ _ t120 _ _ l0 false _ ?side1 ?side2 ?side3 ?side4 A39.out).mono ?_); (case side1 => repeat (first | exact (Kd.S_reads' HO123.out).2.2 | (with_reducible refine Kd.C_alloc ?_ _) | (with_reducible refine Kd.C_drewN ?_ _) | (with_reducible refine Kd.C_drew ?_))); (case side2 => exact (Kd.S_reads' HO123.out).2.1); (case side3 => repeat (first | exact (Kd.C_below HR0.out HB.out) | (with_reducible refine Kd.C_alloc ?_ _) | (with_reducible refine Kd.C_drewN ?_ _) | (with_reducible refine Kd.C_drew ?_))); (case side4 => exact HC0.out); rintro e w' ⟨rfl, ⟨nd, rfl⟩⟩))
                go_ret
                exact ⟨by first | rfl | (simp [errW_none, errW_some] <;> rfl) | (simp [*, errW_none, errW_some] <;> rfl), by repeat (first | (with_reducible first | exact HB.out | apply below_alloc | apply pw_below_drewN | apply below_drew1) | exact HB.out)⟩
            · rw [if_neg c38] at H
              have c38b0 : (t121 == 0) = false := beq_eq_false_iff_ne.mpr c38
              have c38b1 : (t121 != 0) = true := bne_iff_ne.mpr c38
              obtain rfl := Option.some.inj H
              obtain ⟨Ao49, co49, eo49⟩ := Kd.R_slice HO_3.out
              subst eo49
              go_wp2_with (first | ((with_reducible refine gate_callee (f := 22) rfl ?_); refine goesL_ (some 52) rfl rfl Try.func22 (by kernel_rfl) rfl #[.slice Ao49 t103.length co49] rfl (by (try simp only [List.map_toArray, List.map_cons, List.map_nil]); first | done | rfl | (simp only [List.length_drop, List.length_take]; rfl)) ?_; (with_reducible refine (dump_Get.calls kj7 _ _ t103 t120 t121 _ ?side1 ?side2 A37.out).mono ?_); (case side1 => repeat (first | exact (Kd.R_reads' HO_3.out).2.2 | (with_reducible refine Kd.C_alloc ?_ _) | (with_reducible refine Kd.C_drewN ?_ _) | (with_reducible refine Kd.C_drew ?_))); (case side2 => exact (Kd.R_reads' HO_3.out).2.1); rintro e w50 ⟨v122, rfl, ho0, hb⟩; refine ⟨_, rfl, ?_⟩; have n0_ := Aside0.mk (Kd.R_below (by (with_reducible repeat (first | apply Kd.R_alloc | apply Kd.R_drewN | apply Kd.R_drew)); exact HO_3.out) hb); have n1_ := Aside0.mk (Kd.S_lower ho0 (below_size (by repeat (first | (with_reducible first | exact HB.out | apply below_alloc | apply pw_below_drewN | apply below_drew1) | exact HB.out)))); have n2_ := Aside0.mk (below_step (by repeat (first | (with_reducible first | exact HB.out | apply below_alloc | apply pw_below_drewN | apply below_drew1) | exact HB.out)) hb); clear HO_3; clear HB; have HO_3 := n0_; have HO123 := n1_; have HB := n2_; clear n0_ n1_ n2_; (try clear hb); (try clear hb2); (try clear hk); (try clear hi); (try clear ho0)))
              go_ret
              exact ⟨by first | rfl | (simp [errW_none, errW_some] <;> rfl) | (simp [*, errW_none, errW_some] <;> rfl), by repeat (first | (with_reducible first | exact HB.out | apply below_alloc | apply pw_below_drewN | apply below_drew1) | exact HB.out)⟩
          · rw [if_neg c36] at H
            have c36b0 : (t104 == 0) = false := beq_eq_false_iff_ne.mpr c36
            have c36b1 : (t104 != 0) = true := bne_iff_ne.mpr c36
            replace H := Option.bind_eq_some_iff.mp H
            obtain ⟨t126, A510, H⟩ := H
            replace H : (some t126) = some r := H
            have A51 := Aside0.mk A510
            clear A510
            obtain rfl := Option.some.inj H
            go_wp2_with (first | ((with_reducible refine gate_callee (f := 20) rfl ?_); refine goesL_ (some 49) rfl rfl Try.func20 (by kernel_rfl) rfl #[] rfl (by (try simp only [List.map_toArray, List.map_cons, List.map_nil]); first | done | rfl | (simp only [List.length_drop, List.length_take]; rfl)) ?_; (with_reducible refine (marcotlaw32_awake.calls kj7  t126 _ A51.out).mono ?_); rintro e w52 ⟨rfl, hb⟩; refine ⟨_, rfl, ?_⟩; have n0_ := Aside0.mk (Kd.R_below (by (with_reducible repeat (first | apply Kd.R_alloc | apply Kd.R_drewN | apply Kd.R_drew)); exact HO_3.out) hb); have n1_ := Aside0.mk (below_step (by repeat (first | (with_reducible first | exact HB.out | apply below_alloc | apply pw_below_drewN | apply below_drew1) | exact HB.out)) hb); clear HO_3; clear HB; have HO_3 := n0_; have HB := n1_; clear n0_ n1_; (try clear hb); (try clear hb2); (try clear hk); (try clear hi)))
            go_ret
            exact ⟨by first | rfl | (simp [errW_none, errW_some] <;> rfl) | (simp [*, errW_none, errW_some] <;> rfl), by repeat (first | (with_reducible first | exact HB.out | apply below_alloc | apply pw_below_drewN | apply below_drew1) | exact HB.out)⟩

end Go.Proofs.Ytfdemnefkfkghaa.X
namespace Go.Proofs.Ytfdemnefkfkghaa.Q
open Go.RowKit Go.Proofs.YtfdemnefkfkghaaW.PrintWords Go.Proofs.YtfdemnefkfkghaaW.PrintLast Go.Proofs.YtfdemnefkfkghaaW.PrintMore
open Go.Proofs.Ytfdemnefkfkghaa.X
set_option linter.unusedVariables false
theorem awakeW : Ev (fun k => (marcotlaw32_awake.f k).bind fun t => some t) true := Ev.bind awake (Ev.now _)

theorem opsBoth {l : List S136} (h : Small l) : Ev (fun k => dump_Ops.f k l) (l.flatMap opsOne) ∧ Ev (fun k => marcotref32_Ops.f k l) (l.flatMap opsOne) := by
  have hs : ∀ w ∈ l, w.f1.length ≤ 60 := fun w hw => (h.2 w hw).2.1
  have h1 := opsEv l h.1 hs l.length 0 [] (by omega) (by omega) (by simp)
  have h2 := refOpsEv l h.1 hs l.length 0 [] (by omega) (by omega) (by simp)
  rw [List.nil_append] at h1 h2
  exact ⟨h1, h2⟩
theorem dumpWrites (l : List S136) : ∃ k, marcotlaw32_DumpWrites.f k l = some true := by
  refine Ev.rounds ?_
  obtain ⟨r, hr, hs⟩ := great l
  refine Ev.bind hr ?_
  cases r with
  | true => exact Ev.congr (fun k => by rw [if_pos rfl]) awakeW
  | false =>
  have hs := hs rfl
  have hp := put hs
  have hq := refPut hs
  have hm := may hs
  have hn := refMay hs
  obtain ⟨ho, hr⟩ := opsBoth hs
  have hso : Ev (fun k => marcotref23_Same.f k (l.flatMap opsOne) (l.flatMap opsOne)) true := sameOps _ (by have := flat_length l (fun w hw => (hs.2 w hw).2.1); have := hs.1; omega)
  refine Ev.congr (f := fun k => (dump_Put.f k l).bind fun bt103 => ((marcotref32_Put.f k l).bind fun bt107 => (if (strOfNums bt103.1).toList = (strOfNums bt107.1).toList then (if bt103.2 = bt107.2 then ((dump_May.f k l).bind fun t111 => ((marcotref32_May.f k l).bind fun t112 => (if (t111 != t112) = true then (marcotlaw32_DumpWrites.j0 k l bt103.1 bt103.2 true) else ((dump_Ops.f k l).bind fun t113 => ((marcotref32_Ops.f k l).bind fun t116 => ((marcotref23_Same.f k t113 t116).bind fun t119 => (marcotlaw32_DumpWrites.j0 k l bt103.1 bt103.2 (!t119)))))))) else (marcotlaw32_DumpWrites.j0 k l bt103.1 bt103.2 true)) else (marcotlaw32_DumpWrites.j0 k l bt103.1 bt103.2 true)))) (fun k => by rw [if_neg (by decide)]) ?_
  refine Ev.bind hp ?_
  refine Ev.bind hq ?_
  refine Ev.congr (f := fun k => (dump_May.f k l).bind fun t111 => ((marcotref32_May.f k l).bind fun t112 => (if (t111 != t112) = true then (marcotlaw32_DumpWrites.j0 k l (putOf l).1 (putOf l).2 true) else ((dump_Ops.f k l).bind fun t113 => ((marcotref32_Ops.f k l).bind fun t116 => ((marcotref23_Same.f k t113 t116).bind fun t119 => (marcotlaw32_DumpWrites.j0 k l (putOf l).1 (putOf l).2 (!t119)))))))) (fun k => by rw [if_pos rfl, if_pos rfl]) ?_
  refine Ev.bind hm ?_
  refine Ev.bind hn ?_
  refine Ev.congr (f := fun k => (dump_Ops.f k l).bind fun t113 => ((marcotref32_Ops.f k l).bind fun t116 => ((marcotref23_Same.f k t113 t116).bind fun t119 => (marcotlaw32_DumpWrites.j0 k l (putOf l).1 (putOf l).2 (!t119))))) (fun k => by rw [if_neg (by simp)]) ?_
  refine Ev.bind ho ?_
  refine Ev.bind hr ?_
  refine Ev.bind hso ?_
  unfold putOf
  by_cases hb : mayB l = true
  · rw [if_pos hb]
    refine Ev.step (f := fun k => (dump_Get.f k (marked (bodyOf l))).bind fun bt120 => (if bt120.2 = 0 then ((marcotref32_Same.f k bt120.1 l).bind fun t124 => (if t124 = true then ((marcotlaw32_awake.f k).bind fun t125 => (some t125)) else (some false))) else (some false))) (fun k => by rw [marcotlaw32_DumpWrites.j0, if_neg (by decide), if_pos rfl]) (Ev.bind (get_put hs hb) ?_)
    refine Ev.congr (f := fun k => (marcotref32_Same.f k l l).bind fun t124 => (if t124 = true then ((marcotlaw32_awake.f k).bind fun t125 => (some t125)) else (some false))) (fun k => by rw [if_pos rfl]) ?_
    refine Ev.bind (sameVols l (by have := hs.1; omega) (fun w hw => (hs.2 w hw).2.1)) ?_
    exact Ev.congr (fun k => by rw [if_pos rfl]) awakeW
  · rw [if_neg hb]
    exact Ev.step (fun k => by rw [marcotlaw32_DumpWrites.j0, if_neg (by decide), if_neg (by decide)]) awakeW
end Go.Proofs.Ytfdemnefkfkghaa.Q
namespace Go.Proofs.Ytfdemnefkfkghaa.DumpWritesWalk
set_option linter.unusedVariables false
open Go.RowKit Go.Proofs.YtfdemnefkfkghaaW.PrintWords Go.Proofs.Ytfdemnefkfkghaa.KDumpWrites Go.Proofs.Ytfdemnefkfkghaa.X
theorem walk (W : World) (x0 : (List S136)) (gx0 : g33 x0) (a0 : Option Addr) (c0 : Nat) (l0 : x0.length ≤ c0) (h0 : k136.C W a0 x0.length x0) :
    Calls Try.prog 7 #[.slice a0 x0.length c0] W fun e W' => e = .returned (.bool true) ∧ Below W.heap.size W W' := by
  obtain ⟨k, h⟩ := Go.Proofs.Ytfdemnefkfkghaa.Q.dumpWrites x0
  exact marcotlaw32_DumpWrites.calls k a0 c0 x0 true W h0 l0 h
end Go.Proofs.Ytfdemnefkfkghaa.DumpWritesWalk
namespace Go.Proofs.Ytfdemnefkfkghaa.dumpWritesLaw
open Go.ChangeShapes Go.WideShapes Go.ChangeAt Go.RowKit
open Go.ChangeMaps (open_string shut_string)
open Go.Proofs.Ytfdemnefkfkghaa.Opn Go.Proofs.Ytfdemnefkfkghaa.KDumpWrites Go.Proofs.YtfdemnefkfkghaaW.PrintWords Go.Proofs.Ytfdemnefkfkghaa.X
set_option linter.unusedVariables false
theorem own : ownKnob Try.prog.godebug = none := by kernel_rfl
theorem laidOut : laidOutB Try.prog = true := by kernel_rfl
set_option maxRecDepth 100000 in
theorem contract (H : Type) (enc : TypeId × Value → H) (W : World) (base : Nat) (args : Array Value) (ds gs : List (DataW H)) (before : List MemPlace)
    (hval0 : ∀ (j : Nat) t v, Try.f7.params[j]? = some t → args[j]? = some v → Value.okWide Try.prog W .any base t v)
    (hW : DataW.Whole enc Try.prog Try.f7.params.toList Rows.dumpWritesSpec.vars false W args.toList ds gs before)
    (hsz0 : (DataW.weightsEach Try.prog (Try.f7.params.toList ++ Rows.dumpWritesSpec.plain.varTypes Try.prog) (ds ++ gs)).all (· ≤ reachBytes) = true) :
    Calls Try.prog 7 args W fun e W' => ∃ v, e = .returned v ∧ Rows.dumpWritesSpec.post enc Try.prog Try.f7 false true false false W args v W' := by
  have hsz := hsz0
  have hval : ∀ (j : Nat) t v, Try.f7.params[j]? = some t → args[j]? = some v → Value.okWide Try.prog W .any base t v := hval0
  have hW' := hW
  obtain ⟨p, q, hA0, hV, rfl, hfz, hnd⟩ := hW
  have hA : DataW.TrodAll enc Try.prog W 0 (fun _ => true) true Try.f7.params.toList args.toList ds p := hA0
  rw [Try.params7] at hA hval hsz
  obtain ⟨v0, vs0, d0, ds0, p0, q0, hargs, rfl, rfl, h0, r0⟩ := trodAll_cons hA
  obtain ⟨rfl, rfl, rfl⟩ := trodAll_nil r0
  obtain rfl : args = #[v0] := by cases args; simp_all
  obtain ⟨rfl, rfl⟩ := trodVars_none hV
  have lt0 : ∀ x ∈ p0, x.block < W.heap.size := by obtain ⟨m, hm⟩ := h0; exact DataW.trod_lt m _ _ _ hm
  obtain ⟨x0, hk0, gd0, hm0⟩ := arg_opens o33 h0 hsz (j := 0) rfl rfl
  obtain ⟨a0, len0, cap0, rfl⟩ := okWide_slice Try.underlying33 (hval 0 33 v0 rfl rfl)
  obtain ⟨a0', c0', he0, hl0, hc0⟩ := hk0
  obtain ⟨rfl, rfl, rfl⟩ := slice_cells he0
  refine (Go.Proofs.Ytfdemnefkfkghaa.DumpWritesWalk.walk W x0 gd0 _ _ hl0 hc0).mono fun e W' ⟨he, bel⟩ => ?_
  subst he
  exact ⟨_, rfl, _, _, _, [], _, [], hW', trodAll_mk1 (shut_bool Try.underlying4 _), (trodAll_cons_mk (Below.trod laidOut (by kernel_rfl) (of_decide_eq_true (by kernel_rfl)) h0 bel lt0) trodAll_mk0), rfl, bel.frame _, fun h => by cases h⟩
set_option maxRecDepth 100000 in
theorem lifted (os : Os) (started : os.Started) (H : Type) (enc : TypeId × Value → H) :
    ReturnsInHanded {} Try.checked os 7 .any (Rows.dumpWritesSpec.pre6 enc Try.prog Try.f7 Rows.dumpWritesRow.domain false) (Rows.dumpWritesSpec.post enc Try.prog Try.f7 false true false false) := by
  refine returnsInHanded_of_change_sized (C := Try.checked) own started (by kernel_rfl) Try.func7
    (ChangeSpec.witness6 (enc := enc) (C := Try.checked) false ⟨#[], #[.slice none 0 0], []⟩ 8 (by kernel_rfl) (by kernel_rfl) (by kernel_rfl) (by kernel_rfl)) ?_
  intro W base args ds gs before hval hW _ hsz _
  exact contract H enc W base args ds gs before hval hW hsz
theorem over : Rows.dumpWritesRow.holds Try.pinned (OpenSpec.ofChange Rows.dumpWritesSpec) :=
  OpenClaim.holds_of_wide 7 Try.f7 rfl rfl rfl rfl rfl rfl rfl ⟨rfl, rfl, rfl, rfl, rfl⟩ rfl rfl rfl rfl rfl (by kernel_rfl) Try.func7 (by kernel_rfl)
    (of_decide_eq_true (by kernel_rfl)) (by unfold Func.isWrapper; first | (rw [if_pos (by decide +kernel)]; kernel_rfl) | (rw [if_neg (by decide +kernel)]; exact ⟨rfl, rfl⟩))
    (fun os started H enc _ => lifted os started H enc)
theorem proved : Rows.DumpWritesSaid := over
#print axioms proved
end Go.Proofs.Ytfdemnefkfkghaa.dumpWritesLaw
namespace Go.Proofs.Ytfdemnefkfkghaa
/-- The row, under a short name, for the claim. -/
theorem dumpWrites_holds : Rows.DumpWritesSaid := dumpWritesLaw.proved
end Go.Proofs.Ytfdemnefkfkghaa
