/- Functions of the program as Lean functions, and that their calls come to them: written by xprint.py of this session, out of the kit's print program. -/
import Derived.Test.YtfdemnefkfkghaaDS0
import Derived.Test.YtfdemnefkfkghaaDS1
import Derived.Lib.Bytes
namespace Go.Proofs.Ytfdemnefkfkghaa.X
open Go.RowKit Go.Proofs.YtfdemnefkfkghaaW.PrintWords Go.Proofs.YtfdemnefkfkghaaW.PrintLast Go.Proofs.YtfdemnefkfkghaaW.PrintMore
attribute [local go_sem] max2_int min2_int max_two min_two max_three min_three max_four min_four   -- for this text's walks alone
attribute [local go_sem high] Go.Proofs.Ytfdemnefkfkghaa.XW.leq Go.Proofs.Ytfdemnefkfkghaa.XW.gtr Go.Proofs.Ytfdemnefkfkghaa.XW.geq
set_option linter.unusedVariables false
set_option linter.unusedSimpArgs false

/-! ### dump_Put: function 25 -/
def dump_Put.l0 : Nat → List Int → List (S136) → Int → Int → Option (List Int × Int)
  | 0, _, _, _, _ => none
  | k + 1, x4, x16, x17, x18 => if x18 < x17 then (if 0 ≤ x18 then (if x18 < (x16.length : Int) then ((dump_one.f k ((rd_T136 x16 x18).f0) ((rd_T136 x16 x18).f1)).bind fun t110 => (if x4.length + t110.length < 140737488355328 then (dump_Put.l0 k (x4 ++ t110) x16 x17 (wrap64 (x18 + 1))) else (none))) else (none)) else (none)) else ((crc_Mark.f k x4).bind fun t116 => (some (t116, 0)))
def dump_Put.f (k : Nat) (l0 : List (S136)) : Option (List Int × Int) := (dump_May.f k l0).bind fun t101 => (if t101 = true then ((pack_Put8.f k (([109, 114, 99, 116] : List Int)) (((l0.length : Int)) % 256)).bind fun t105 => (dump_Put.l0 k t105 l0 (l0.length : Int) 0)) else (some (([] : List Int), 1)))
theorem dump_Put.mono_l : ∀ k, (∀ y0 y1 y2 y3, LeO (dump_Put.l0 k y0 y1 y2 y3) (dump_Put.l0 (k + 1) y0 y1 y2 y3))
  | 0 => fun _ _ _ _ r h => by simp [dump_Put.l0] at h
  | k + 1 => by
    have ih0 := dump_Put.mono_l k
    · intro y0 y1 y2 y3
      unfold dump_Put.l0
      repeat' first
      | (with_reducible exact ih0 _ _ _ _)
      | (with_reducible exact crc_Mark.mono _ _)
      | (with_reducible exact dump_May.mono _ _)
      | (with_reducible exact dump_one.mono _ _ _)
      | (with_reducible exact pack_Put8.mono _ _ _)
      | (with_reducible exact LeO.refl _)
      | (with_reducible exact LeO.none _)
      | (with_reducible refine LeO.ite ?_ ?_)
      | (with_reducible refine LeO.bind ?_ (fun _ => ?_))
      | exact ih0 _ _ _ _
      | exact crc_Mark.mono _ _
      | exact dump_May.mono _ _
      | exact dump_one.mono _ _ _
      | exact pack_Put8.mono _ _ _
      | exact LeO.none _
      | refine LeO.ite ?_ ?_
      | refine LeO.bind ?_ (fun _ => ?_)
theorem dump_Put.mono : ∀ a0 k, LeO (dump_Put.f k a0) (dump_Put.f (k + 1) a0) := by
  intro a0 k
  have ih0 := dump_Put.mono_l k
  unfold dump_Put.f
  repeat' first
      | (with_reducible exact ih0 _ _ _ _)
      | (with_reducible exact crc_Mark.mono _ _)
      | (with_reducible exact dump_May.mono _ _)
      | (with_reducible exact dump_one.mono _ _ _)
      | (with_reducible exact pack_Put8.mono _ _ _)
      | (with_reducible exact LeO.refl _)
      | (with_reducible exact LeO.none _)
      | (with_reducible refine LeO.ite ?_ ?_)
      | (with_reducible refine LeO.bind ?_ (fun _ => ?_))
      | exact ih0 _ _ _ _
      | exact crc_Mark.mono _ _
      | exact dump_May.mono _ _
      | exact dump_one.mono _ _ _
      | exact pack_Put8.mono _ _ _
      | exact LeO.none _
      | refine LeO.ite ?_ ?_
      | refine LeO.bind ?_ (fun _ => ?_)
set_option maxHeartbeats 8000000 in
set_option maxRecDepth 100000 in
theorem dump_Put.calls (k : Nat) (A0 : Option Addr) (c0 : Nat) (l0 : List (S136)) (r1 : List Int) (r2 : Int) (w : World) (hr0 : Kd.C k136 w A0 l0.length l0) (hc0 : l0.length ≤ c0) (h : dump_Put.f k l0 = some (r1, r2)) :
    Calls Try.prog 25 #[.slice A0 l0.length c0] w fun e w' => ∃ v0_ : Value, e = .returned (.tuple #[v0_, .int .i64 r2]) ∧ Kd.R (Kd.int .u8) 5 w' w.heap.size (fun _ => True) v0_ r1 ∧ Below w.heap.size w w' := by
  have hu136 := Try.underlying136
  have HR0 := Aside0.mk hr0
  have HC0 := Aside0.mk hc0
  clear hr0 hc0
  have HB := Aside0.mk (Below.refl w.heap.size w)
  have H : ((dump_May.f k l0).bind fun t101 => (if t101 = true then ((pack_Put8.f k (([109, 114, 99, 116] : List Int)) (((l0.length : Int)) % 256)).bind fun t105 => (dump_Put.l0 k t105 l0 (l0.length : Int) 0)) else (some (([] : List Int), 1)))) = some (r1, r2) := h
  clear h
  replace H := Option.bind_eq_some_iff.mp H
  obtain ⟨t101, A20, H⟩ := H
  replace H : (if t101 = true then ((pack_Put8.f k (([109, 114, 99, 116] : List Int)) (((l0.length : Int)) % 256)).bind fun t105 => (dump_Put.l0 k t105 l0 (l0.length : Int) 0)) else (some (([] : List Int), 1))) = some (r1, r2) := H
  have A2 := Aside0.mk A20
  clear A20
  by_cases c3 : t101 = true
  · subst c3
    have H1 : ((pack_Put8.f k (([109, 114, 99, 116] : List Int)) (((l0.length : Int)) % 256)).bind fun t105 => (dump_Put.l0 k t105 l0 (l0.length : Int) 0)) = some (r1, r2) := by rw [if_pos rfl] at H; exact H
    clear H
    have H := H1
    clear H1
    obtain ⟨y102, hy102⟩ : ∃ y_ : List Int, y_ = (([109, 114, 99, 116] : List Int)) := ⟨_, rfl⟩
    replace H : ((pack_Put8.f k y102 (((l0.length : Int)) % 256)).bind fun t105 => (dump_Put.l0 k t105 l0 (l0.length : Int) 0)) = some (r1, r2) := by first | (rw [hy102]; with_reducible exact H) | (have H2_ := (Option.bind_some _ _).symm.trans H; rw [hy102]; with_reducible exact H2_) | (have H2_ := (Option.bind_some _ _).symm.trans H; with_reducible exact H2_) | with_reducible exact H | (rw [hy102]; exact H) | exact H
    have Ny102 := Aside0.mk hy102
    clear hy102
    replace H := Option.bind_eq_some_iff.mp H
    obtain ⟨t105, A40, H⟩ := H
    replace H : (dump_Put.l0 k t105 l0 (l0.length : Int) 0) = some (r1, r2) := H
    have A4 := Aside0.mk A40
    clear A40
    have H' := Aside0.mk H
    clear H
    go_enter Try.func25, Try.ntmps25
    go_wp2_with (first | ((with_reducible refine gate_callee (f := 28) rfl ?_); refine goesL_ (some 8) rfl rfl Try.func28 (by kernel_rfl) rfl #[.slice A0 l0.length c0] rfl (by (try simp only [List.map_toArray, List.map_cons, List.map_nil]); first | done | rfl | (simp only [List.length_drop, List.length_take]; rfl)) ?_; (with_reducible refine (dump_May.calls k _ _ l0 true _ ?side1 ?side2 A2.out).mono ?_); (case side1 => repeat (first | exact HR0.out | (with_reducible refine Kd.C_alloc ?_ _) | (with_reducible refine Kd.C_drewN ?_ _) | (with_reducible refine Kd.C_drew ?_))); (case side2 => exact HC0.out); rintro e w5 ⟨rfl, hb⟩; refine ⟨_, rfl, ?_⟩; have n0_ := Aside0.mk (below_step (by repeat (first | (with_reducible first | exact HB.out | apply below_alloc | apply pw_below_drewN | apply below_drew1) | exact HB.out)) hb); clear HB; have HB := n0_; clear n0_; (try clear hb); (try clear hb2); (try clear hk); (try clear hi)) | ((with_reducible refine gate_dst (N := 10) rfl ?_); refine Kd.R_lit (Kd.int .u8) _ 5 ?hg (N := 10) ?hd (xs := ([109, 114, 99, 116] : List Int)) (inner := [.int .u8 109, .int .u8 114, .int .u8 99, .int .u8 116]) (ok := fun _ => True) (okp := fun _ => True) ?hr ?hp (fun _ hk => hk) trivial (Below.refl _ _) (Nat.le_refl _) (by simp) ?_; (case hd => rfl); (case hg => rfl); (case hr => first | (go_simp; done) | (go_simp; rfl)); (case hp => exact (Reps.one (show Kd.M (Kd.int .u8) _ _ _ 109 [.int .u8 109] from rfl) (Reps.one (show Kd.M (Kd.int .u8) _ _ _ 114 [.int .u8 114] from rfl) (Reps.one (show Kd.M (Kd.int .u8) _ _ _ 99 [.int .u8 99] from rfl) (Reps.one (show Kd.M (Kd.int .u8) _ _ _ 116 [.int .u8 116] from rfl) (Reps.none _ _)))))); intro v103 w6 ho7 hb hg_ hnew_; clear hg_ hnew_; (first | rw [← Ny102.out] at ho7 | (simp only [Int.reduceToNat] at ho7; rw [← Ny102.out] at ho7)); have n0_ := Aside0.mk (Kd.R_lower ho7 (below_size (by repeat (first | (with_reducible first | exact HB.out | apply below_alloc | apply pw_below_drewN | apply below_drew1) | exact HB.out)))); have n1_ := Aside0.mk (below_step (by repeat (first | (with_reducible first | exact HB.out | apply below_alloc | apply pw_below_drewN | apply below_drew1) | exact HB.out)) hb); clear HB; have HO104 := n0_; have HB := n1_; clear n0_ n1_; clear hb ho7; obtain ⟨Ao8, co8, eo8⟩ := Kd.R_slice HO104.out; subst eo8) | ((with_reducible refine gate_dst (N := 11) rfl ?_); refine conv_event rfl (N := 11) rfl 31 5 (.tmp 10) rfl Try.underlying31 Try.underlying5 Ao8 co8 w.heap.size (fun _ => True) y102 ?hx ?hne ?aO ?_; (case hx => first | rfl | simp [Act.eval, Act.put]); (case hne => rw [Ny102.out]; simp); (case aO => exact (by (with_reducible repeat (first | apply Kd.R_alloc | apply Kd.R_drewN | apply Kd.R_drew)); exact HO104.out)); intro w5 hcC hgC; have HCC := Aside0.mk hcC; have n0_ := Aside0.mk (HB.out.grown hgC (below_size HB.out) (Kd.R_base HO104.out)); clear HB; have HB := n0_; have HSZ := Aside0.mk hgC.size; clear n0_ hcC hgC) | ((with_reducible refine gate_callee (f := 83) rfl ?_); refine goesL_ (some 15) rfl rfl Try.func83 (by kernel_rfl) rfl #[.slice Ao8 y102.length co8, .int .u8 (((l0.length : Int)) % 256)] rfl (by (try simp only [List.map_toArray, List.map_cons, List.map_nil]); first | done | rfl | (simp only [List.length_drop, List.length_take]; rfl)) ?_; (with_reducible refine (pack_Put8.calls k _ _ y102 (((l0.length : Int)) % 256) t105 _ ?side1 ?side2 A4.out).mono ?_); (case side1 => repeat (first | exact HCC.out | (with_reducible refine Kd.C_alloc ?_ _) | (with_reducible refine Kd.C_drewN ?_ _) | (with_reducible refine Kd.C_drew ?_))); (case side2 => exact (Kd.R_reads' HO104.out).2.1); rintro e w9 ⟨v106, rfl, ho0, hb⟩; refine ⟨_, rfl, ?_⟩; have n1_ := Aside0.mk (Kd.R_lower (Kd.R_new' ho0 (fun k_ hk_ => Nat.lt_of_lt_of_le (Kd.R_lt HO104.out k_ hk_) HSZ.out)) (below_size (by repeat (first | (with_reducible first | exact HB.out | apply below_alloc | apply pw_below_drewN | apply below_drew1) | exact HB.out)))); have n2_ := Aside0.mk (below_step (by repeat (first | (with_reducible first | exact HB.out | apply below_alloc | apply pw_below_drewN | apply below_drew1) | exact HB.out)) hb); clear HB; have HO107 := n1_; have HB := n2_; clear n1_ n2_; (try clear hb); (try clear hb2); (try clear hk); (try clear hi); (try clear ho0)))
    go_loopg [4, 18] k (fun kq v4 v18 w' => ∃ (x4_1 : List Int) (x18_1 : Int), v18 = .int .i64 x18_1 ∧ Aside0 (dump_Put.l0 kq x4_1 l0 (l0.length : Int) x18_1 = some (r1, r2)) ∧ Aside0 (kq ≤ k) ∧ Aside0 (Kd.R (Kd.int .u8) 5 w' w.heap.size (fun _ => True) v4 x4_1) ∧ Aside0 (Below w.heap.size w w'))
    case atStart => exact ⟨(t105), (0), (by first | rfl | (simp; done) | (simp [*]; done)), H', ⟨Nat.le_refl _⟩, ⟨by (with_reducible repeat (first | apply Kd.R_alloc | apply Kd.R_drewN | apply Kd.R_drew)); exact Kd.R_mono HO107.out (fun _ hk => trivial)⟩, ⟨by repeat (first | (with_reducible first | exact HB.out | apply below_alloc | apply pw_below_drewN | apply below_drew1) | exact HB.out)⟩⟩
    case round =>
      clear H'
      try clear c2
      try clear p2
      try clear c3
      try clear c8
      obtain ⟨x4_1, x18_1, rfl, HA, HK1, HO_4, HB⟩ := hrel
      cases gk with
      | zero => exact absurd HA.out (by simp [dump_Put.l0])
      | succ k1 =>
        have H := HA.out
        clear HA
        simp only [dump_Put.l0] at H
        by_cases c10 : x18_1 < (l0.length : Int)
        · rw [if_pos c10] at H
          have c10b0 : decide (x18_1 < (l0.length : Int)) = true := decide_eq_true c10
          clear c10
          by_cases c11 : 0 ≤ x18_1
          · rw [if_pos c11] at H
            have c11b0 : decide (0 ≤ x18_1) = true := decide_eq_true c11
            clear c11
            by_cases c12 : x18_1 < (l0.length : Int)
            · rw [if_pos c12] at H
              have c12b0 : decide (x18_1 < (l0.length : Int)) = true := decide_eq_true c12
              clear c12
              replace H := Option.bind_eq_some_iff.mp H
              obtain ⟨t110, A130, H⟩ := H
              replace H : (if x4_1.length + t110.length < 140737488355328 then (dump_Put.l0 k1 (x4_1 ++ t110) l0 (l0.length : Int) (wrap64 (x18_1 + 1))) else (none)) = some (r1, r2) := H
              have A13 := Aside0.mk A130
              clear A130
              by_cases c14 : x4_1.length + t110.length < 140737488355328
              · rw [if_pos c14] at H
                have LMc14 := Aside0.mk c14
                clear c14
                obtain ⟨y113, hy113⟩ : ∃ y_ : List Int, y_ = (x4_1 ++ t110) := ⟨_, rfl⟩
                replace H : (dump_Put.l0 k1 y113 l0 (l0.length : Int) (wrap64 (x18_1 + 1))) = some (r1, r2) := by first | (rw [hy113]; with_reducible exact H) | (have H2_ := (Option.bind_some _ _).symm.trans H; rw [hy113]; with_reducible exact H2_) | (have H2_ := (Option.bind_some _ _).symm.trans H; with_reducible exact H2_) | with_reducible exact H | (rw [hy113]; exact H) | exact H
                have Ny113 := Aside0.mk hy113
                clear hy113
                have H' := Aside0.mk H
                clear H
                have p108 : 0 ≤ (x18_1 : Int) := of_decide_eq_true (by first | (with_reducible assumption) | assumption)
                have q108 : x18_1 < (l0.length : Int) := of_decide_eq_true (by first | (with_reducible assumption) | assumption)
                obtain ⟨ad108, A108_1, c108_1, e108, hx108_0, hx108_1, hl108_1, hi108_1⟩ := at_T136 HR0.out x18_1 p108 q108
                cases e108
                replace hx108_0 := (HB.out.cell (World.block_lt_of_cell? w _ hx108_0)).trans hx108_0
                replace hx108_1 := (HB.out.cell (World.block_lt_of_cell? w _ hx108_1)).trans hx108_1
                have HR108_1 := Aside0.mk hi108_1
                have HC108_1 := Aside0.mk hl108_1
                clear hi108_1 hl108_1
                replace p108 := eq_true p108
                replace q108 := eq_true q108
                go_wp2_with (first | ((with_reducible refine gate_dst (N := 6) rfl ?_); refine box_event ?hg (N := 6) ?hd (cs := #[.string (⟨#[]⟩ : ByteArray), .slice none 0 0]) (t := 136) ?hr ?_; (case hd => rfl); (case hg => rfl); (case hr => first | (go_simp; done) | (go_simp; rfl)); intro gb109 hg w15 hbox hb; have n0_ := Aside0.mk (Kd.R_below (by (with_reducible repeat (first | apply Kd.R_alloc | apply Kd.R_drewN | apply Kd.R_drew)); exact HO_4.out) hb); have n1_ := Aside0.mk (below_step (by repeat (first | (with_reducible first | exact HB.out | apply below_alloc | apply pw_below_drewN | apply below_drew1) | exact HB.out)) hb); have n2_ := Aside0.mk (hbox); have n3_ := Aside0.mk ((by rw [hg]; exact (below_size (by repeat (first | (with_reducible first | exact HB.out | apply below_alloc | apply pw_below_drewN | apply below_drew1) | exact HB.out))) : w.heap.size ≤ gb109)); have n4_ := Aside0.mk ((by rw [hg]; exact (below_size (by repeat (first | (with_reducible first | exact HB.out | apply below_alloc | apply pw_below_drewN | apply below_drew1) | exact HB.out))) : w.heap.size ≤ gb109)); clear HO_4; clear HB; have HO_4 := n0_; have HB := n1_; have BK109 := n2_; have GW109 := n3_; have GE109 := n4_; clear n0_ n1_ n2_ n3_ n4_; clear hb hbox hg; have hcz16_0 : w15.cell? ⟨gb109, 0, none⟩ = some (.string (⟨#[]⟩ : ByteArray)) := (blk_cell BK109.out 0).trans rfl; have hcz16_1 : w15.cell? ⟨gb109, 1, none⟩ = some (.slice none 0 0) := (blk_cell BK109.out 1).trans rfl; have hfz16_0 := blk_frozen BK109.out 0; have hfz16_1 := blk_frozen BK109.out 1) | ((with_reducible refine gate_callee (f := 84) rfl ?_); refine goesL_ (some 24) rfl rfl Try.func84 (by kernel_rfl) rfl #[.agg #[.string ((rd_T136 l0 x18_1).f0), .slice A108_1 ((rd_T136 l0 x18_1).f1).length c108_1]] rfl (by (try simp only [List.map_toArray, List.map_cons, List.map_nil]); first | done | rfl | (simp only [List.length_drop, List.length_take]; rfl)) ?_; (with_reducible refine (dump_one.calls k1 ((rd_T136 l0 x18_1).f0) _ _ ((rd_T136 l0 x18_1).f1) t110 _ ?side1 ?side2 A13.out).mono ?_); (case side1 => exact Kd.C_below HR108_1.out (by repeat (first | (with_reducible first | exact HB.out | apply below_alloc | apply pw_below_drewN | apply below_drew1 | refine below_set ?_ GE109.out) | exact HB.out))); (case side2 => exact HC108_1.out); rintro e w17 ⟨v111, rfl, ho0, hb⟩; refine ⟨_, rfl, ?_⟩; have n0_ := Aside0.mk (Kd.R_elder' (by (with_reducible repeat (first | apply Kd.R_alloc | apply Kd.R_drewN | apply Kd.R_drew)); exact (Kd.R_mono (Kd.R_far (p := ⟨gb109, 1, none⟩) (Kd.R_far (p := ⟨gb109, 0, none⟩) (Kd.R_types HO_4.out BK109.out (by decide)) (fun _ hk => hk.2) (.string ((rd_T136 l0 x18_1).f0))) (fun _ hk => hk.2) (.slice A108_1 ((rd_T136 l0 x18_1).f1).length c108_1)) (fun _ h_ => h_.1))) (Kd.R_base ho0) hb); have n1_ := Aside0.mk (Kd.R_lower (Kd.R_new' ho0 (Kd.R_lt (by (with_reducible repeat (first | apply Kd.R_alloc | apply Kd.R_drewN | apply Kd.R_drew)); exact (Kd.R_mono (Kd.R_far (p := ⟨gb109, 1, none⟩) (Kd.R_far (p := ⟨gb109, 0, none⟩) (Kd.R_types HO_4.out BK109.out (by decide)) (fun _ hk => hk.2) (.string ((rd_T136 l0 x18_1).f0))) (fun _ hk => hk.2) (.slice A108_1 ((rd_T136 l0 x18_1).f1).length c108_1)) (fun _ h_ => h_.1))))) (below_size (by repeat (first | (with_reducible first | exact HB.out | apply below_alloc | apply pw_below_drewN | apply below_drew1 | refine below_set ?_ GE109.out) | exact HB.out)))); have n2_ := Aside0.mk (blk_below (g := gb109) (o := .cells #[.string ((rd_T136 l0 x18_1).f0), .slice A108_1 ((rd_T136 l0 x18_1).f1).length c108_1] 136 (0, 0)) (by (with_reducible repeat (first | refine blk_drewN ?_ _ | refine blk_drew ?_ | refine blk_alloc ?_ _)); refine blk_put (cs := #[.string ((rd_T136 l0 x18_1).f0), .slice none 0 0]) ?_ 1 _ rfl; (with_reducible repeat (first | refine blk_drewN ?_ _ | refine blk_drew ?_ | refine blk_alloc ?_ _)); refine blk_put (cs := #[.string (⟨#[]⟩ : ByteArray), .slice none 0 0]) ?_ 0 _ rfl; (with_reducible repeat (first | refine blk_drewN ?_ _ | refine blk_drew ?_ | refine blk_alloc ?_ _)); exact BK109.out) hb); have n3_ := Aside0.mk (below_step (by repeat (first | (with_reducible first | exact HB.out | apply below_alloc | apply pw_below_drewN | apply below_drew1 | refine below_set ?_ GE109.out) | exact HB.out)) hb); clear HO_4; clear BK109; clear HB; have HO_4 := n0_; have HO112 := n1_; have BK109 := n2_; have HB := n3_; clear n0_ n1_ n2_ n3_; (try clear hb); (try clear hb2); (try clear hk); (try clear hi); (try clear ho0); obtain ⟨Ao19, co19, eo19⟩ := Kd.R_slice HO112.out; subst eo19) | ((with_reducible refine gate_builtin (b := .append) (xs := #[.tmp 22, .tmp 24]) rfl ?_); at_builtin; refine Kd.R_append_rows (Kd.int .u8) (w0 := w) w.heap.size rfl (.tmp 22) (.tmp 24) 31 5 (.int .u8 0) 1 rfl Try.underlying31 info5 rfl (by decide) (by omega) u4 x4_1 t110 _ _ _ (fun k_ => some k_ ≠ (.slice Ao19 t110.length co19 : Value).ownBlock) (fun _ => False) rfl rfl ?aO ?aR (fun _ _ h => h) (fun _ h => h.elim) ?aF ?aB ?aS ?aL ?_; (case aR => repeat (first | exact (Kd.R_reads' HO112.out).2.2 | (with_reducible refine Kd.C_alloc ?_ _) | (with_reducible refine Kd.C_drewN ?_ _) | (with_reducible refine Kd.C_drew ?_))); (case aB => exact (by repeat (first | (with_reducible first | exact HB.out | apply below_alloc | apply pw_below_drewN | apply below_drew1 | refine below_set ?_ GE109.out) | exact HB.out))); (case aF => exact (fun k_ hk => Kd.fresh' (Kd.R_lt (by (with_reducible repeat (first | apply Kd.R_alloc | apply Kd.R_drewN | apply Kd.R_drew)); exact HO112.out)) k_ hk)); (case aO => exact (by (with_reducible repeat (first | apply Kd.R_alloc | apply Kd.R_drewN | apply Kd.R_drew)); exact Kd.R_mono HO_4.out (fun _ hk => hk.2))); (case aS => exact (below_size (by repeat (first | (with_reducible first | exact HB.out | apply below_alloc | apply pw_below_drewN | apply below_drew1 | refine below_set ?_ GE109.out) | exact HB.out)))); (case aL => have := LMc14.out; omega); intro v114 w18 ho hb hg hat; rw [← Ny113.out] at ho; have n0_ := Aside0.mk (blk_grown (g := gb109) (o := .cells #[.string ((rd_T136 l0 x18_1).f0), .slice A108_1 ((rd_T136 l0 x18_1).f1).length c108_1] 136 (0, 0)) (by (with_reducible repeat (first | refine blk_drewN ?_ _ | refine blk_drew ?_ | refine blk_alloc ?_ _)); exact BK109.out) hg (Kd.R_ne HO_4.out BK109.out (by decide))); have n1_ := Aside0.mk (Kd.R_after (ok := (fun _ => True)) (by (with_reducible repeat (first | apply Kd.R_alloc | apply Kd.R_drewN | apply Kd.R_drew)); exact HO112.out) hg hat); have n2_ := Aside0.mk (hb); have n3_ := Aside0.mk (ho); clear BK109; clear HO112; clear HB; clear HO_4; have BK109 := n0_; have HO112 := n1_; have HB := n2_; have HO115 := n3_; clear n0_ n1_ n2_ n3_; clear ho hb hg hat))
                go_roundg k1
                case measure => have := HK1.out; omega
                case rel => exact ⟨(y113), (wrap64 (x18_1 + 1)), (by first | rfl | (simp; done) | (simp [*]; done)), H', ⟨by have := HK1.out; omega⟩, ⟨by (with_reducible repeat (first | apply Kd.R_alloc | apply Kd.R_drewN | apply Kd.R_drew)); exact Kd.R_mono HO115.out (fun _ hk => trivial)⟩, ⟨by repeat (first | (with_reducible first | exact HB.out | apply below_alloc | apply pw_below_drewN | apply below_drew1 | refine below_set ?_ GE109.out) | exact HB.out)⟩⟩
              · rw [if_neg c14] at H
                exact absurd H (by simp)
            · rw [if_neg c12] at H
              exact absurd H (by simp)
          · rw [if_neg c11] at H
            exact absurd H (by simp)
        · rw [if_neg c10] at H
          have c10b0 : decide (x18_1 < (l0.length : Int)) = false := decide_eq_false c10
          clear c10
          replace H := Option.bind_eq_some_iff.mp H
          obtain ⟨t116, A200, H⟩ := H
          replace H : (some (t116, 0)) = some (r1, r2) := H
          have A20 := Aside0.mk A200
          clear A200
          simp only [Option.some.injEq, Prod.mk.injEq] at H
          obtain ⟨rfl, rfl⟩ := H
          obtain ⟨Ao21, co21, eo21⟩ := Kd.R_slice HO_4.out
          subst eo21
          go_wp2_with (first | ((with_reducible refine gate_callee (f := 85) rfl ?_); refine goesL_ (some 28) rfl rfl Try.func85 (by kernel_rfl) rfl #[.slice Ao21 x4_1.length co21] rfl (by (try simp only [List.map_toArray, List.map_cons, List.map_nil]); first | done | rfl | (simp only [List.length_drop, List.length_take]; rfl)) ?_; (with_reducible refine (crc_Mark.calls k1 _ _ x4_1 t116 _ ?side1 ?side2 A20.out).mono ?_); (case side1 => repeat (first | exact (Kd.R_reads' HO_4.out).2.2 | (with_reducible refine Kd.C_alloc ?_ _) | (with_reducible refine Kd.C_drewN ?_ _) | (with_reducible refine Kd.C_drew ?_))); (case side2 => exact (Kd.R_reads' HO_4.out).2.1); rintro e w22 ⟨v117, rfl, ho0, hb⟩; refine ⟨_, rfl, ?_⟩; have n0_ := Aside0.mk (Kd.R_elder' (by (with_reducible repeat (first | apply Kd.R_alloc | apply Kd.R_drewN | apply Kd.R_drew)); exact HO_4.out) (Kd.R_base ho0) hb); have n1_ := Aside0.mk (Kd.R_lower (Kd.R_new' ho0 (Kd.R_lt (by (with_reducible repeat (first | apply Kd.R_alloc | apply Kd.R_drewN | apply Kd.R_drew)); exact HO_4.out))) (below_size (by repeat (first | (with_reducible first | exact HB.out | apply below_alloc | apply pw_below_drewN | apply below_drew1) | exact HB.out)))); have n2_ := Aside0.mk (below_step (by repeat (first | (with_reducible first | exact HB.out | apply below_alloc | apply pw_below_drewN | apply below_drew1) | exact HB.out)) hb); clear HO_4; clear HB; have HO_4 := n0_; have HO118 := n1_; have HB := n2_; clear n0_ n1_ n2_; (try clear hb); (try clear hb2); (try clear hk); (try clear hi); (try clear ho0)))
          go_ret2
          exact ⟨_, by first | rfl | (simp [errW_none, errW_some] <;> rfl) | (simp [*, errW_none, errW_some] <;> rfl), by (with_reducible repeat (first | apply Kd.R_alloc | apply Kd.R_drewN | apply Kd.R_drew)); exact Kd.R_mono HO118.out (fun _ hk => trivial), by repeat (first | (with_reducible first | exact HB.out | apply below_alloc | apply pw_below_drewN | apply below_drew1) | exact HB.out)⟩
  · replace c3 := Bool.eq_false_iff.mpr c3
    subst c3
    have H1 : (some (([] : List Int), 1)) = some (r1, r2) := by rw [if_neg (show ¬ (false = true) by decide)] at H; exact H
    clear H
    have H := H1
    clear H1
    simp only [Option.some.injEq, Prod.mk.injEq] at H
    obtain ⟨rfl, rfl⟩ := H
    go_enter Try.func25, Try.ntmps25
    go_wp2_with (first | ((with_reducible refine gate_callee (f := 28) rfl ?_); refine goesL_ (some 8) rfl rfl Try.func28 (by kernel_rfl) rfl #[.slice A0 l0.length c0] rfl (by (try simp only [List.map_toArray, List.map_cons, List.map_nil]); first | done | rfl | (simp only [List.length_drop, List.length_take]; rfl)) ?_; (with_reducible refine (dump_May.calls k _ _ l0 false _ ?side1 ?side2 A2.out).mono ?_); (case side1 => repeat (first | exact HR0.out | (with_reducible refine Kd.C_alloc ?_ _) | (with_reducible refine Kd.C_drewN ?_ _) | (with_reducible refine Kd.C_drew ?_))); (case side2 => exact HC0.out); rintro e w23 ⟨rfl, hb⟩; refine ⟨_, rfl, ?_⟩; have n0_ := Aside0.mk (below_step (by repeat (first | (with_reducible first | exact HB.out | apply below_alloc | apply pw_below_drewN | apply below_drew1) | exact HB.out)) hb); clear HB; have HB := n0_; clear n0_; (try clear hb); (try clear hb2); (try clear hk); (try clear hi)))
    go_ret2
    exact ⟨_, by first | rfl | (simp [errW_none, errW_some] <;> rfl) | (simp [*, errW_none, errW_some] <;> rfl), by first | exact Kd.R_nil _ _ _ _ _ | exact Kd.N_nil _ _ _ _ _ | exact Kd.V_nil _ _ _ _ _ | exact Kd.Q_nil _ _ _ _ _ | exact Kd.S_nil _ _ _ _ _, by repeat (first | (with_reducible first | exact HB.out | apply below_alloc | apply pw_below_drewN | apply below_drew1) | exact HB.out)⟩

end Go.Proofs.Ytfdemnefkfkghaa.X
/- Functions of the program as Lean functions, and that their calls come to them: written by xprint.py of this session, out of the kit's print program. -/
namespace Go.Proofs.Ytfdemnefkfkghaa.X
open Go.RowKit Go.Proofs.YtfdemnefkfkghaaW.PrintWords Go.Proofs.YtfdemnefkfkghaaW.PrintLast Go.Proofs.YtfdemnefkfkghaaW.PrintMore
attribute [local go_sem] max2_int min2_int max_two min_two max_three min_three max_four min_four   -- for this text's walks alone
attribute [local go_sem high] Go.Proofs.Ytfdemnefkfkghaa.XW.leq Go.Proofs.Ytfdemnefkfkghaa.XW.gtr Go.Proofs.Ytfdemnefkfkghaa.XW.geq
set_option linter.unusedVariables false
set_option linter.unusedSimpArgs false

/-! ### marcotref06_GreatPairs: function 34 -/
def marcotref06_GreatPairs.l0 : Nat → List (S145) → Int → Int → Option (Bool)
  | 0, _, _, _ => none
  | k + 1, x0, x8, x9 => if x9 < x8 then (if 0 ≤ x9 then (if x9 < (x0.length : Int) then (if (((rd_T145 x0 x9).f0).size : Int) > 100 then (some true) else (if (((rd_T145 x0 x9).f1).size : Int) > 100 then (some true) else (marcotref06_GreatPairs.l0 k x0 x8 (wrap64 (x9 + 1))))) else (none)) else (none)) else (some false)
def marcotref06_GreatPairs.f (k : Nat) (l0 : List (S145)) : Option (Bool) := if (l0.length : Int) > 60 then (some true) else (marcotref06_GreatPairs.l0 k l0 (l0.length : Int) 0)
theorem marcotref06_GreatPairs.mono_l : ∀ k, (∀ y0 y1 y2, LeO (marcotref06_GreatPairs.l0 k y0 y1 y2) (marcotref06_GreatPairs.l0 (k + 1) y0 y1 y2))
  | 0 => fun _ _ _ r h => by simp [marcotref06_GreatPairs.l0] at h
  | k + 1 => by
    have ih0 := marcotref06_GreatPairs.mono_l k
    · intro y0 y1 y2
      unfold marcotref06_GreatPairs.l0
      repeat' first
      | (with_reducible exact ih0 _ _ _)
      | (with_reducible exact LeO.refl _)
      | (with_reducible exact LeO.none _)
      | (with_reducible refine LeO.ite ?_ ?_)
      | (with_reducible refine LeO.bind ?_ (fun _ => ?_))
      | exact ih0 _ _ _
      | exact LeO.none _
      | refine LeO.ite ?_ ?_
      | refine LeO.bind ?_ (fun _ => ?_)
theorem marcotref06_GreatPairs.mono : ∀ a0 k, LeO (marcotref06_GreatPairs.f k a0) (marcotref06_GreatPairs.f (k + 1) a0) := by
  intro a0 k
  have ih0 := marcotref06_GreatPairs.mono_l k
  unfold marcotref06_GreatPairs.f
  repeat' first
      | (with_reducible exact ih0 _ _ _)
      | (with_reducible exact LeO.refl _)
      | (with_reducible exact LeO.none _)
      | (with_reducible refine LeO.ite ?_ ?_)
      | (with_reducible refine LeO.bind ?_ (fun _ => ?_))
      | exact ih0 _ _ _
      | exact LeO.none _
      | refine LeO.ite ?_ ?_
      | refine LeO.bind ?_ (fun _ => ?_)
set_option maxHeartbeats 8000000 in
set_option maxRecDepth 100000 in
theorem marcotref06_GreatPairs.calls (k : Nat) (A0 : Option Addr) (c0 : Nat) (l0 : List (S145)) (r : Bool) (w : World) (hr0 : Kd.C k145 w A0 l0.length l0) (hc0 : l0.length ≤ c0) (h : marcotref06_GreatPairs.f k l0 = some r) :
    Calls Try.prog 34 #[.slice A0 l0.length c0] w fun e w' => e = .returned (.bool r) ∧ Drawn0 w w' := by
  have HR0 := Aside0.mk hr0
  have HC0 := Aside0.mk hc0
  clear hr0 hc0
  have H : (if (l0.length : Int) > 60 then (some true) else (marcotref06_GreatPairs.l0 k l0 (l0.length : Int) 0)) = some r := h
  clear h
  by_cases c2 : (l0.length : Int) > 60
  · rw [if_pos c2] at H
    have c2b0 : decide (60 < (l0.length : Int)) = true := decide_eq_true c2
    have c2b1 : decide (60 < l0.length) = true := decide_eq_true (by omega)
    clear c2
    obtain rfl := Option.some.inj H
    go_enter Try.func34, Try.ntmps34
    go_wp2
    go_ret
    exact ⟨by first | rfl | (simp; done) | (simp [*]; done), by repeat (first | exact Drawn0.refl _ | apply Drawn0.step)⟩
  · rw [if_neg c2] at H
    have c2b0 : decide (60 < (l0.length : Int)) = false := decide_eq_false c2
    have c2b1 : decide (60 < l0.length) = false := decide_eq_false (by omega)
    clear c2
    have H' := Aside0.mk H
    clear H
    go_enter Try.func34, Try.ntmps34
    go_wp2
    go_loopg [9] k (fun kq v9 w' => ∃ (x9_1 : Int), v9 = .int .i64 x9_1 ∧ Aside0 (marcotref06_GreatPairs.l0 kq l0 (l0.length : Int) x9_1 = some r) ∧ Aside0 (kq ≤ k) ∧ Drawn0 w w')
    case atStart => exact ⟨(0), (by first | rfl | (simp; done) | (simp [*]; done)), H', ⟨Nat.le_refl _⟩, by repeat (first | exact Drawn0.refl _ | apply Drawn0.step)⟩
    case round =>
      clear H'
      try clear c2
      try clear c2b0
      try clear c2b1
      try clear p2
      obtain ⟨x9_1, rfl, HA, HK1, ⟨m1, rfl⟩⟩ := hrel
      cases gk with
      | zero => exact absurd HA.out (by simp [marcotref06_GreatPairs.l0])
      | succ k1 =>
        have H := HA.out
        clear HA
        simp only [marcotref06_GreatPairs.l0] at H
        by_cases c3 : x9_1 < (l0.length : Int)
        · rw [if_pos c3] at H
          have c3b0 : decide (x9_1 < (l0.length : Int)) = true := decide_eq_true c3
          clear c3
          by_cases c4 : 0 ≤ x9_1
          · rw [if_pos c4] at H
            have c4b0 : decide (0 ≤ x9_1) = true := decide_eq_true c4
            clear c4
            by_cases c5 : x9_1 < (l0.length : Int)
            · rw [if_pos c5] at H
              have c5b0 : decide (x9_1 < (l0.length : Int)) = true := decide_eq_true c5
              clear c5
              by_cases c6 : (((rd_T145 l0 x9_1).f0).size : Int) > 100
              · rw [if_pos c6] at H
                have c6b0 : decide (100 < (((rd_T145 l0 x9_1).f0).size : Int)) = true := decide_eq_true c6
                have c6b1 : decide (100 < ((rd_T145 l0 x9_1).f0).size) = true := decide_eq_true (by omega)
                clear c6
                obtain rfl := Option.some.inj H
                have p101 : 0 ≤ (x9_1 : Int) := of_decide_eq_true (by first | (with_reducible assumption) | assumption)
                have q101 : x9_1 < (l0.length : Int) := of_decide_eq_true (by first | (with_reducible assumption) | assumption)
                obtain ⟨ad101, e101, hx101_0, hx101_1⟩ := at_T145 HR0.out x9_1 p101 q101
                cases e101
                replace p101 := eq_true p101
                replace q101 := eq_true q101
                go_wp2
                go_ret
                exact ⟨by first | rfl | (simp; done) | (simp [*]; done), by repeat (first | exact Drawn0.refl _ | apply Drawn0.step)⟩
              · rw [if_neg c6] at H
                have c6b0 : decide (100 < (((rd_T145 l0 x9_1).f0).size : Int)) = false := decide_eq_false c6
                have c6b1 : decide (100 < ((rd_T145 l0 x9_1).f0).size) = false := decide_eq_false (by omega)
                clear c6
                by_cases c7 : (((rd_T145 l0 x9_1).f1).size : Int) > 100
                · rw [if_pos c7] at H
                  have c7b0 : decide (100 < (((rd_T145 l0 x9_1).f1).size : Int)) = true := decide_eq_true c7
                  have c7b1 : decide (100 < ((rd_T145 l0 x9_1).f1).size) = true := decide_eq_true (by omega)
                  clear c7
                  obtain rfl := Option.some.inj H
                  have p101 : 0 ≤ (x9_1 : Int) := of_decide_eq_true (by first | (with_reducible assumption) | assumption)
                  have q101 : x9_1 < (l0.length : Int) := of_decide_eq_true (by first | (with_reducible assumption) | assumption)
                  obtain ⟨ad101, e101, hx101_0, hx101_1⟩ := at_T145 HR0.out x9_1 p101 q101
                  cases e101
                  replace p101 := eq_true p101
                  replace q101 := eq_true q101
                  have p102 : 0 ≤ (x9_1 : Int) := of_decide_eq_true (by first | (with_reducible assumption) | assumption)
                  have q102 : x9_1 < (l0.length : Int) := of_decide_eq_true (by first | (with_reducible assumption) | assumption)
                  obtain ⟨ad102, e102, hx102_0, hx102_1⟩ := at_T145 HR0.out x9_1 p102 q102
                  obtain rfl : ad101 = ad102 := (by injection e102)
                  replace p102 := eq_true p102
                  replace q102 := eq_true q102
                  go_wp2
                  go_ret
                  exact ⟨by first | rfl | (simp; done) | (simp [*]; done), by repeat (first | exact Drawn0.refl _ | apply Drawn0.step)⟩
                · rw [if_neg c7] at H
                  have c7b0 : decide (100 < (((rd_T145 l0 x9_1).f1).size : Int)) = false := decide_eq_false c7
                  have c7b1 : decide (100 < ((rd_T145 l0 x9_1).f1).size) = false := decide_eq_false (by omega)
                  clear c7
                  have H' := Aside0.mk H
                  clear H
                  have p101 : 0 ≤ (x9_1 : Int) := of_decide_eq_true (by first | (with_reducible assumption) | assumption)
                  have q101 : x9_1 < (l0.length : Int) := of_decide_eq_true (by first | (with_reducible assumption) | assumption)
                  obtain ⟨ad101, e101, hx101_0, hx101_1⟩ := at_T145 HR0.out x9_1 p101 q101
                  cases e101
                  replace p101 := eq_true p101
                  replace q101 := eq_true q101
                  have p102 : 0 ≤ (x9_1 : Int) := of_decide_eq_true (by first | (with_reducible assumption) | assumption)
                  have q102 : x9_1 < (l0.length : Int) := of_decide_eq_true (by first | (with_reducible assumption) | assumption)
                  obtain ⟨ad102, e102, hx102_0, hx102_1⟩ := at_T145 HR0.out x9_1 p102 q102
                  obtain rfl : ad101 = ad102 := (by injection e102)
                  replace p102 := eq_true p102
                  replace q102 := eq_true q102
                  go_wp2
                  go_roundg k1
                  case measure => have := HK1.out; omega
                  case rel => exact ⟨(wrap64 (x9_1 + 1)), (by first | rfl | (simp; done) | (simp [*]; done)), H', ⟨by have := HK1.out; omega⟩, by repeat (first | exact Drawn0.refl _ | apply Drawn0.step)⟩
            · rw [if_neg c5] at H
              exact absurd H (by simp)
          · rw [if_neg c4] at H
            exact absurd H (by simp)
        · rw [if_neg c3] at H
          have c3b0 : decide (x9_1 < (l0.length : Int)) = false := decide_eq_false c3
          clear c3
          obtain rfl := Option.some.inj H
          go_wp2
          go_ret
          exact ⟨by first | rfl | (simp; done) | (simp [*]; done), by repeat (first | exact Drawn0.refl _ | apply Drawn0.step)⟩

end Go.Proofs.Ytfdemnefkfkghaa.X
/- Functions of the program as Lean functions, and that their calls come to them: written by xprint.py of this session, out of the kit's print program. -/
namespace Go.Proofs.Ytfdemnefkfkghaa.X
open Go.RowKit Go.Proofs.YtfdemnefkfkghaaW.PrintWords Go.Proofs.YtfdemnefkfkghaaW.PrintLast Go.Proofs.YtfdemnefkfkghaaW.PrintMore
attribute [local go_sem] max2_int min2_int max_two min_two max_three min_three max_four min_four   -- for this text's walks alone
attribute [local go_sem high] Go.Proofs.Ytfdemnefkfkghaa.XW.leq Go.Proofs.Ytfdemnefkfkghaa.XW.gtr Go.Proofs.Ytfdemnefkfkghaa.XW.geq
set_option linter.unusedVariables false
set_option linter.unusedSimpArgs false

/-! ### marcotref32_Great: function 26 -/
def marcotref32_Great.l0 : Nat → List (S136) → Int → Int → Option (Bool)
  | 0, _, _, _ => none
  | k + 1, x0, x8, x9 => if x9 < x8 then (if 0 ≤ x9 then (if x9 < (x0.length : Int) then (if (((rd_T136 x0 x9).f0).size : Int) > 100 then (some true) else ((marcotref06_GreatPairs.f k ((rd_T136 x0 x9).f1)).bind fun t103 => (if t103 = true then (some true) else (marcotref32_Great.l0 k x0 x8 (wrap64 (x9 + 1)))))) else (none)) else (none)) else (some false)
def marcotref32_Great.f (k : Nat) (l0 : List (S136)) : Option (Bool) := if (l0.length : Int) > 20 then (some true) else (marcotref32_Great.l0 k l0 (l0.length : Int) 0)
theorem marcotref32_Great.mono_l : ∀ k, (∀ y0 y1 y2, LeO (marcotref32_Great.l0 k y0 y1 y2) (marcotref32_Great.l0 (k + 1) y0 y1 y2))
  | 0 => fun _ _ _ r h => by simp [marcotref32_Great.l0] at h
  | k + 1 => by
    have ih0 := marcotref32_Great.mono_l k
    · intro y0 y1 y2
      unfold marcotref32_Great.l0
      repeat' first
      | (with_reducible exact ih0 _ _ _)
      | (with_reducible exact marcotref06_GreatPairs.mono _ _)
      | (with_reducible exact LeO.refl _)
      | (with_reducible exact LeO.none _)
      | (with_reducible refine LeO.ite ?_ ?_)
      | (with_reducible refine LeO.bind ?_ (fun _ => ?_))
      | exact ih0 _ _ _
      | exact marcotref06_GreatPairs.mono _ _
      | exact LeO.none _
      | refine LeO.ite ?_ ?_
      | refine LeO.bind ?_ (fun _ => ?_)
theorem marcotref32_Great.mono : ∀ a0 k, LeO (marcotref32_Great.f k a0) (marcotref32_Great.f (k + 1) a0) := by
  intro a0 k
  have ih0 := marcotref32_Great.mono_l k
  unfold marcotref32_Great.f
  repeat' first
      | (with_reducible exact ih0 _ _ _)
      | (with_reducible exact marcotref06_GreatPairs.mono _ _)
      | (with_reducible exact LeO.refl _)
      | (with_reducible exact LeO.none _)
      | (with_reducible refine LeO.ite ?_ ?_)
      | (with_reducible refine LeO.bind ?_ (fun _ => ?_))
      | exact ih0 _ _ _
      | exact marcotref06_GreatPairs.mono _ _
      | exact LeO.none _
      | refine LeO.ite ?_ ?_
      | refine LeO.bind ?_ (fun _ => ?_)
set_option maxHeartbeats 8000000 in
set_option maxRecDepth 100000 in
theorem marcotref32_Great.calls (k : Nat) (A0 : Option Addr) (c0 : Nat) (l0 : List (S136)) (r : Bool) (w : World) (hr0 : Kd.C k136 w A0 l0.length l0) (hc0 : l0.length ≤ c0) (h : marcotref32_Great.f k l0 = some r) :
    Calls Try.prog 26 #[.slice A0 l0.length c0] w fun e w' => e = .returned (.bool r) ∧ Drawn0 w w' := by
  have HR0 := Aside0.mk hr0
  have HC0 := Aside0.mk hc0
  clear hr0 hc0
  have H : (if (l0.length : Int) > 20 then (some true) else (marcotref32_Great.l0 k l0 (l0.length : Int) 0)) = some r := h
  clear h
  by_cases c2 : (l0.length : Int) > 20
  · rw [if_pos c2] at H
    have c2b0 : decide (20 < (l0.length : Int)) = true := decide_eq_true c2
    have c2b1 : decide (20 < l0.length) = true := decide_eq_true (by omega)
    clear c2
    obtain rfl := Option.some.inj H
    go_enter Try.func26, Try.ntmps26
    go_wp2
    go_ret
    exact ⟨by first | rfl | (simp; done) | (simp [*]; done), by repeat (first | exact Drawn0.refl _ | apply Drawn0.step)⟩
  · rw [if_neg c2] at H
    have c2b0 : decide (20 < (l0.length : Int)) = false := decide_eq_false c2
    have c2b1 : decide (20 < l0.length) = false := decide_eq_false (by omega)
    clear c2
    have H' := Aside0.mk H
    clear H
    go_enter Try.func26, Try.ntmps26
    go_wp2
    go_loopg [9] k (fun kq v9 w' => ∃ (x9_1 : Int), v9 = .int .i64 x9_1 ∧ Aside0 (marcotref32_Great.l0 kq l0 (l0.length : Int) x9_1 = some r) ∧ Aside0 (kq ≤ k) ∧ Drawn0 w w')
    case atStart => exact ⟨(0), (by first | rfl | (simp; done) | (simp [*]; done)), H', ⟨Nat.le_refl _⟩, by repeat (first | exact Drawn0.refl _ | apply Drawn0.step)⟩
    case round =>
      clear H'
      try clear c2
      try clear c2b0
      try clear c2b1
      try clear p2
      obtain ⟨x9_1, rfl, HA, HK1, ⟨m1, rfl⟩⟩ := hrel
      cases gk with
      | zero => exact absurd HA.out (by simp [marcotref32_Great.l0])
      | succ k1 =>
        have H := HA.out
        clear HA
        simp only [marcotref32_Great.l0] at H
        by_cases c3 : x9_1 < (l0.length : Int)
        · rw [if_pos c3] at H
          have c3b0 : decide (x9_1 < (l0.length : Int)) = true := decide_eq_true c3
          clear c3
          by_cases c4 : 0 ≤ x9_1
          · rw [if_pos c4] at H
            have c4b0 : decide (0 ≤ x9_1) = true := decide_eq_true c4
            clear c4
            by_cases c5 : x9_1 < (l0.length : Int)
            · rw [if_pos c5] at H
              have c5b0 : decide (x9_1 < (l0.length : Int)) = true := decide_eq_true c5
              clear c5
              by_cases c6 : (((rd_T136 l0 x9_1).f0).size : Int) > 100
              · rw [if_pos c6] at H
                have c6b0 : decide (100 < (((rd_T136 l0 x9_1).f0).size : Int)) = true := decide_eq_true c6
                have c6b1 : decide (100 < ((rd_T136 l0 x9_1).f0).size) = true := decide_eq_true (by omega)
                clear c6
                obtain rfl := Option.some.inj H
                have p101 : 0 ≤ (x9_1 : Int) := of_decide_eq_true (by first | (with_reducible assumption) | assumption)
                have q101 : x9_1 < (l0.length : Int) := of_decide_eq_true (by first | (with_reducible assumption) | assumption)
                obtain ⟨ad101, A101_1, c101_1, e101, hx101_0, hx101_1, hl101_1, hi101_1⟩ := at_T136 HR0.out x9_1 p101 q101
                cases e101
                have HR101_1 := Aside0.mk hi101_1
                have HC101_1 := Aside0.mk hl101_1
                clear hi101_1 hl101_1
                replace p101 := eq_true p101
                replace q101 := eq_true q101
                go_wp2
                go_ret
                exact ⟨by first | rfl | (simp; done) | (simp [*]; done), by repeat (first | exact Drawn0.refl _ | apply Drawn0.step)⟩
              · rw [if_neg c6] at H
                have c6b0 : decide (100 < (((rd_T136 l0 x9_1).f0).size : Int)) = false := decide_eq_false c6
                have c6b1 : decide (100 < ((rd_T136 l0 x9_1).f0).size) = false := decide_eq_false (by omega)
                clear c6
                replace H := Option.bind_eq_some_iff.mp H
                obtain ⟨t103, A70, H⟩ := H
                replace H : (if t103 = true then (some true) else (marcotref32_Great.l0 k1 l0 (l0.length : Int) (wrap64 (x9_1 + 1)))) = some r := H
                have A7 := Aside0.mk A70
                clear A70
                by_cases c8 : t103 = true
                · subst c8
                  have H1 : (some true) = some r := by rw [if_pos rfl] at H; exact H
                  clear H
                  have H := H1
                  clear H1
                  obtain rfl := Option.some.inj H
                  have p101 : 0 ≤ (x9_1 : Int) := of_decide_eq_true (by first | (with_reducible assumption) | assumption)
                  have q101 : x9_1 < (l0.length : Int) := of_decide_eq_true (by first | (with_reducible assumption) | assumption)
                  obtain ⟨ad101, A101_1, c101_1, e101, hx101_0, hx101_1, hl101_1, hi101_1⟩ := at_T136 HR0.out x9_1 p101 q101
                  cases e101
                  have HR101_1 := Aside0.mk hi101_1
                  have HC101_1 := Aside0.mk hl101_1
                  clear hi101_1 hl101_1
                  replace p101 := eq_true p101
                  replace q101 := eq_true q101
                  have p102 : 0 ≤ (x9_1 : Int) := of_decide_eq_true (by first | (with_reducible assumption) | assumption)
                  have q102 : x9_1 < (l0.length : Int) := of_decide_eq_true (by first | (with_reducible assumption) | assumption)
                  obtain ⟨ad102, A102_1, c102_1, e102, hx102_0, hx102_1, hl102_1, hi102_1⟩ := at_T136 HR0.out x9_1 p102 q102
                  obtain rfl : ad101 = ad102 := (by injection e102)
                  have HR102_1 := Aside0.mk hi102_1
                  have HC102_1 := Aside0.mk hl102_1
                  clear hi102_1 hl102_1
                  replace p102 := eq_true p102
                  replace q102 := eq_true q102
                  have ea_ := Option.some.inj (hx101_1.symm.trans hx102_1)
                  injection ea_ with ea_ en_ ec_
                  subst ea_
                  subst ec_
                  clear en_
                  go_wp2_with (first | (go_at_call 34; (with_reducible refine (marcotref06_GreatPairs.calls k1 _ _ ((rd_T136 l0 x9_1).f1) true _ ?side1 ?side2 A7.out).mono ?_); (case side1 => repeat (first | exact HR102_1.out | (with_reducible refine Kd.C_alloc ?_ _) | (with_reducible refine Kd.C_drewN ?_ _) | (with_reducible refine Kd.C_drew ?_))); (case side2 => exact HC102_1.out); rintro e w' ⟨rfl, ⟨nd, rfl⟩⟩))
                  go_ret
                  exact ⟨by first | rfl | (simp; done) | (simp [*]; done), by repeat (first | exact Drawn0.refl _ | apply Drawn0.step)⟩
                · replace c8 := Bool.eq_false_iff.mpr c8
                  subst c8
                  have H1 : (marcotref32_Great.l0 k1 l0 (l0.length : Int) (wrap64 (x9_1 + 1))) = some r := by rw [if_neg (show ¬ (false = true) by decide)] at H; exact H
                  clear H
                  have H := H1
                  clear H1
                  have H' := Aside0.mk H
                  clear H
                  have p101 : 0 ≤ (x9_1 : Int) := of_decide_eq_true (by first | (with_reducible assumption) | assumption)
                  have q101 : x9_1 < (l0.length : Int) := of_decide_eq_true (by first | (with_reducible assumption) | assumption)
                  obtain ⟨ad101, A101_1, c101_1, e101, hx101_0, hx101_1, hl101_1, hi101_1⟩ := at_T136 HR0.out x9_1 p101 q101
                  cases e101
                  have HR101_1 := Aside0.mk hi101_1
                  have HC101_1 := Aside0.mk hl101_1
                  clear hi101_1 hl101_1
                  replace p101 := eq_true p101
                  replace q101 := eq_true q101
                  have p102 : 0 ≤ (x9_1 : Int) := of_decide_eq_true (by first | (with_reducible assumption) | assumption)
                  have q102 : x9_1 < (l0.length : Int) := of_decide_eq_true (by first | (with_reducible assumption) | assumption)
                  obtain ⟨ad102, A102_1, c102_1, e102, hx102_0, hx102_1, hl102_1, hi102_1⟩ := at_T136 HR0.out x9_1 p102 q102
                  obtain rfl : ad101 = ad102 := (by injection e102)
                  have HR102_1 := Aside0.mk hi102_1
                  have HC102_1 := Aside0.mk hl102_1
                  clear hi102_1 hl102_1
                  replace p102 := eq_true p102
                  replace q102 := eq_true q102
                  have ea_ := Option.some.inj (hx101_1.symm.trans hx102_1)
                  injection ea_ with ea_ en_ ec_
                  subst ea_
                  subst ec_
                  clear en_
                  go_wp2_with (first | (go_at_call 34; (with_reducible refine (marcotref06_GreatPairs.calls k1 _ _ ((rd_T136 l0 x9_1).f1) false _ ?side1 ?side2 A7.out).mono ?_); (case side1 => repeat (first | exact HR102_1.out | (with_reducible refine Kd.C_alloc ?_ _) | (with_reducible refine Kd.C_drewN ?_ _) | (with_reducible refine Kd.C_drew ?_))); (case side2 => exact HC102_1.out); rintro e w' ⟨rfl, ⟨nd, rfl⟩⟩))
                  go_roundg k1
                  case measure => have := HK1.out; omega
                  case rel => exact ⟨(wrap64 (x9_1 + 1)), (by first | rfl | (simp; done) | (simp [*]; done)), H', ⟨by have := HK1.out; omega⟩, by repeat (first | exact Drawn0.refl _ | apply Drawn0.step)⟩
            · rw [if_neg c5] at H
              exact absurd H (by simp)
          · rw [if_neg c4] at H
            exact absurd H (by simp)
        · rw [if_neg c3] at H
          have c3b0 : decide (x9_1 < (l0.length : Int)) = false := decide_eq_false c3
          clear c3
          obtain rfl := Option.some.inj H
          go_wp2
          go_ret
          exact ⟨by first | rfl | (simp; done) | (simp [*]; done), by repeat (first | exact Drawn0.refl _ | apply Drawn0.step)⟩

end Go.Proofs.Ytfdemnefkfkghaa.X
/- Functions of the program as Lean functions, and that their calls come to them: written by xprint.py of this session, out of the kit's print program. -/
namespace Go.Proofs.Ytfdemnefkfkghaa.X
open Go.RowKit Go.Proofs.YtfdemnefkfkghaaW.PrintWords Go.Proofs.YtfdemnefkfkghaaW.PrintLast Go.Proofs.YtfdemnefkfkghaaW.PrintMore
attribute [local go_sem] max2_int min2_int max_two min_two max_three min_three max_four min_four   -- for this text's walks alone
attribute [local go_sem high] Go.Proofs.Ytfdemnefkfkghaa.XW.leq Go.Proofs.Ytfdemnefkfkghaa.XW.gtr Go.Proofs.Ytfdemnefkfkghaa.XW.geq
set_option linter.unusedVariables false
set_option linter.unusedSimpArgs false

/-! ### marcotlaw32_awake: function 20 -/
def marcotlaw32_awake.f (k : Nat)  : Option (Bool) := (dump_Put.f k ([] : List (S136))).bind fun bt101 => (if bt101.2 = 0 then (if (bt101.1.length : Int) = 9 then (if 5 ≤ (bt101.1.length : Int) then (some ((strOfNums (bt101.1.take 5)).toList == ([109, 114, 99, 116, 0] : List UInt8))) else (none)) else (some false)) else (some false))
theorem marcotlaw32_awake.mono : ∀ k, LeO (marcotlaw32_awake.f k ) (marcotlaw32_awake.f (k + 1) ) := by
  intro  k
  unfold marcotlaw32_awake.f
  repeat' first
      | (with_reducible exact dump_Put.mono _ _)
      | (with_reducible exact LeO.refl _)
      | (with_reducible exact LeO.none _)
      | (with_reducible refine LeO.ite ?_ ?_)
      | (with_reducible refine LeO.bind ?_ (fun _ => ?_))
      | exact dump_Put.mono _ _
      | exact LeO.none _
      | refine LeO.ite ?_ ?_
      | refine LeO.bind ?_ (fun _ => ?_)
set_option maxHeartbeats 8000000 in
set_option maxRecDepth 100000 in
theorem marcotlaw32_awake.calls (k : Nat)  (r : Bool) (w : World) (h : marcotlaw32_awake.f k  = some r) :
    Calls Try.prog 20 #[] w fun e w' => e = .returned (.bool r) ∧ Below w.heap.size w w' := by
  have HB := Aside0.mk (Below.refl w.heap.size w)
  have H : ((dump_Put.f k ([] : List (S136))).bind fun bt101 => (if bt101.2 = 0 then (if (bt101.1.length : Int) = 9 then (if 5 ≤ (bt101.1.length : Int) then (some ((strOfNums (bt101.1.take 5)).toList == ([109, 114, 99, 116, 0] : List UInt8))) else (none)) else (some false)) else (some false))) = some r := h
  clear h
  replace H := Option.bind_eq_some_iff.mp H
  obtain ⟨⟨t101, t102⟩, A10, H⟩ := H
  replace H : (if t102 = 0 then (if (t101.length : Int) = 9 then (if 5 ≤ (t101.length : Int) then (some ((strOfNums (t101.take 5)).toList == ([109, 114, 99, 116, 0] : List UInt8))) else (none)) else (some false)) else (some false)) = some r := H
  have A1 := Aside0.mk A10
  clear A10
  by_cases c2 : t102 = 0
  · rw [if_pos c2] at H
    have c2b0 : (t102 == 0) = true := beq_iff_eq.mpr c2
    have c2b1 : (t102 != 0) = false := bne_eq_false_iff_eq.mpr c2
    clear c2
    by_cases c3 : (t101.length : Int) = 9
    · rw [if_pos c3] at H
      have c3b0 : ((t101.length : Int) == 9) = true := beq_iff_eq.mpr c3
      have c3b1 : ((t101.length : Int) != 9) = false := bne_eq_false_iff_eq.mpr c3
      clear c3
      by_cases c4 : 5 ≤ (t101.length : Int)
      · rw [if_pos c4] at H
        have c4b0 := eq_true c4
        have c4b1 : decide (5 ≤ (t101.length : Int)) = true := decide_eq_true c4
        clear c4
        obtain ⟨y105, hy105⟩ : ∃ y_ : List Int, y_ = (t101.take 5) := ⟨_, rfl⟩
        replace H : (some ((strOfNums y105).toList == ([109, 114, 99, 116, 0] : List UInt8))) = some r := by first | (rw [hy105]; with_reducible exact H) | (have H2_ := (Option.bind_some _ _).symm.trans H; rw [hy105]; with_reducible exact H2_) | (have H2_ := (Option.bind_some _ _).symm.trans H; with_reducible exact H2_) | with_reducible exact H | (rw [hy105]; exact H) | exact H
        have Ny105 := Aside0.mk hy105
        clear hy105
        obtain rfl := Option.some.inj H
        go_enter Try.func20, Try.ntmps20
        go_wp2_with (first | ((with_reducible refine gate_callee (f := 25) rfl ?_); refine goesL_ (some 4) rfl rfl Try.func25 (by kernel_rfl) rfl #[.slice none 0 0] rfl (by (try simp only [List.map_toArray, List.map_cons, List.map_nil]); first | done | rfl | (simp only [List.length_drop, List.length_take]; rfl)) ?_; (refine (dump_Put.calls k _ _ ([] : List (S136)) t101 t102 _ ?side1 ?side2 A1.out).mono ?_); (case side1 => exact Kd.C_nil _ _); (case side2 => exact Nat.le_refl _); rintro e w5 ⟨v103, rfl, ho0, hb⟩; refine ⟨_, rfl, ?_⟩; have n0_ := Aside0.mk (Kd.R_lower ho0 (below_size (by repeat (first | (with_reducible first | exact HB.out | apply below_alloc | apply pw_below_drewN | apply below_drew1) | exact HB.out)))); have n1_ := Aside0.mk (below_step (by repeat (first | (with_reducible first | exact HB.out | apply below_alloc | apply pw_below_drewN | apply below_drew1) | exact HB.out)) hb); clear HB; have HO104 := n0_; have HB := n1_; clear n0_ n1_; (try clear hb); (try clear hb2); (try clear hk); (try clear hi); (try clear ho0); obtain ⟨Ao6, co6, eo6⟩ := Kd.R_slice HO104.out; subst eo6; have q7 : (5 : Int) ≤ ((t101.length : Int) : Int) := of_decide_eq_true (by first | (with_reducible assumption) | assumption); obtain ⟨i07, hi07, _, hsz7, _⟩ := info_parts info5; have hroom7 : t101.length ≤ co6 := (Kd.R_reads' HO104.out).2.1; have hC7 : Kd.C (Kd.int .u8) _ Ao6 t101.length t101 := (Kd.R_reads' HO104.out).2.2; have hcut7 := cut_to (P := Try.prog) 31 5 .i64 Try.underlying31 hi07 Ao6 t101.length co6 5 (by omega) q7 hroom7; have hr7 := Kd.C_take (m := 5) hC7 (by omega); have hy7 : y105.length = (5 : Int).toNat := (by rw [Ny105.out, List.length_take]; omega); rw [← Ny105.out] at hr7; rw [← hy7] at hcut7; have HR108 := Aside0.mk hr7; have HC108 := Aside0.mk (show y105.length ≤ co6 from by omega); clear hr7 hC7 hroom7 hi07 hsz7; have KY7 := Aside0.mk hy7; clear hy7; have KL7 := Aside0.mk (show 5 ≤ t101.length from by omega); replace q7 := eq_true q7; have hcv8 := Kd.C_string (P := Try.prog) (A := Ao6) (c := co6) Try.underlying31 Try.underlying5 Try.underlying9 (by repeat (first | (with_reducible exact HR108.out) | (with_reducible refine Kd.C_alloc ?_ _) | (with_reducible refine Kd.C_drewN ?_ _) | (with_reducible refine Kd.C_drew ?_) | exact HR108.out))))
        go_ret
        exact ⟨by first | rfl | (simp [errW_none, errW_some] <;> rfl) | (simp [*, errW_none, errW_some] <;> rfl), by repeat (first | (with_reducible first | exact HB.out | apply below_alloc | apply pw_below_drewN | apply below_drew1) | exact HB.out)⟩
      · rw [if_neg c4] at H
        exact absurd H (by simp)
    · rw [if_neg c3] at H
      have c3b0 : ((t101.length : Int) == 9) = false := beq_eq_false_iff_ne.mpr c3
      have c3b1 : ((t101.length : Int) != 9) = true := bne_iff_ne.mpr c3
      obtain rfl := Option.some.inj H
      go_enter Try.func20, Try.ntmps20
      go_wp2_with (first | ((with_reducible refine gate_callee (f := 25) rfl ?_); refine goesL_ (some 4) rfl rfl Try.func25 (by kernel_rfl) rfl #[.slice none 0 0] rfl (by (try simp only [List.map_toArray, List.map_cons, List.map_nil]); first | done | rfl | (simp only [List.length_drop, List.length_take]; rfl)) ?_; (refine (dump_Put.calls k _ _ ([] : List (S136)) t101 t102 _ ?side1 ?side2 A1.out).mono ?_); (case side1 => exact Kd.C_nil _ _); (case side2 => exact Nat.le_refl _); rintro e w9 ⟨v103, rfl, ho0, hb⟩; refine ⟨_, rfl, ?_⟩; have n0_ := Aside0.mk (Kd.R_lower ho0 (below_size (by repeat (first | (with_reducible first | exact HB.out | apply below_alloc | apply pw_below_drewN | apply below_drew1) | exact HB.out)))); have n1_ := Aside0.mk (below_step (by repeat (first | (with_reducible first | exact HB.out | apply below_alloc | apply pw_below_drewN | apply below_drew1) | exact HB.out)) hb); clear HB; have HO104 := n0_; have HB := n1_; clear n0_ n1_; (try clear hb); (try clear hb2); (try clear hk); (try clear hi); (try clear ho0); obtain ⟨Ao10, co10, eo10⟩ := Kd.R_slice HO104.out; subst eo10))
      go_ret
      exact ⟨by first | rfl | (simp [errW_none, errW_some] <;> rfl) | (simp [*, errW_none, errW_some] <;> rfl), by repeat (first | (with_reducible first | exact HB.out | apply below_alloc | apply pw_below_drewN | apply below_drew1) | exact HB.out)⟩
  · rw [if_neg c2] at H
    have c2b0 : (t102 == 0) = false := beq_eq_false_iff_ne.mpr c2
    have c2b1 : (t102 != 0) = true := bne_iff_ne.mpr c2
    obtain rfl := Option.some.inj H
    go_enter Try.func20, Try.ntmps20
    go_wp2_with (first | ((with_reducible refine gate_callee (f := 25) rfl ?_); refine goesL_ (some 4) rfl rfl Try.func25 (by kernel_rfl) rfl #[.slice none 0 0] rfl (by (try simp only [List.map_toArray, List.map_cons, List.map_nil]); first | done | rfl | (simp only [List.length_drop, List.length_take]; rfl)) ?_; (refine (dump_Put.calls k _ _ ([] : List (S136)) t101 t102 _ ?side1 ?side2 A1.out).mono ?_); (case side1 => exact Kd.C_nil _ _); (case side2 => exact Nat.le_refl _); rintro e w11 ⟨v103, rfl, ho0, hb⟩; refine ⟨_, rfl, ?_⟩; have n0_ := Aside0.mk (Kd.R_lower ho0 (below_size (by repeat (first | (with_reducible first | exact HB.out | apply below_alloc | apply pw_below_drewN | apply below_drew1) | exact HB.out)))); have n1_ := Aside0.mk (below_step (by repeat (first | (with_reducible first | exact HB.out | apply below_alloc | apply pw_below_drewN | apply below_drew1) | exact HB.out)) hb); clear HB; have HO104 := n0_; have HB := n1_; clear n0_ n1_; (try clear hb); (try clear hb2); (try clear hk); (try clear hi); (try clear ho0)))
    go_ret
    exact ⟨by first | rfl | (simp [errW_none, errW_some] <;> rfl) | (simp [*, errW_none, errW_some] <;> rfl), by repeat (first | (with_reducible first | exact HB.out | apply below_alloc | apply pw_below_drewN | apply below_drew1) | exact HB.out)⟩

end Go.Proofs.Ytfdemnefkfkghaa.X
/- A dump's writing, plainly. -/
namespace Go.Proofs.Ytfdemnefkfkghaa.Q
open Go.RowKit Go.Proofs.YtfdemnefkfkghaaW.PrintWords Go.Proofs.YtfdemnefkfkghaaW.PrintLast Go.Proofs.YtfdemnefkfkghaaW.PrintMore
open Go.Proofs.Ytfdemnefkfkghaa.X
set_option linter.unusedVariables false

theorem rd145 {l : List S145} {i : Nat} (h : i < l.length) : rd_T145 l (i : Int) = l[i] := by
  unfold rd_T145
  rw [Int.toNat_natCast, List.getD_eq_getElem?_getD, List.getElem?_eq_getElem h]
  rfl
theorem rd136 {l : List S136} {i : Nat} (h : i < l.length) : rd_T136 l (i : Int) = l[i] := by
  unfold rd_T136
  rw [Int.toNat_natCast, List.getD_eq_getElem?_getD, List.getElem?_eq_getElem h]
  rfl
theorem clone_at {l : List Int} (h : l.length < 100000000000) : slices_Clone_byte_byte.f l = some l := by unfold slices_Clone_byte_byte.f; rw [if_pos (by omega)]
theorem grow_at {l : List Int} (n : Nat) (h : l.length + n < 100000000000) : slices_Grow_byte_byte.f l (n : Int) = some l := by unfold slices_Grow_byte_byte.f; rw [if_pos (by omega)]
theorem bytesOf_bytes (t : ByteArray) : Bytes (bytesOf t) := by
  intro c hc
  unfold bytesOf at hc
  obtain ⟨b, _, rfl⟩ := List.mem_map.mp hc
  have := b.toNat_lt
  omega

/-! ### numbers -/
theorem u64_wrap {a : Int} (h0 : 0 ≤ a) (h1 : a < 18446744073709551616) : IntKind.u64.wrap a = a := by
  unfold IntKind.wrap
  simp [IntKind.bits, IntKind.signed]
  omega
def be4 (a : Int) : List Int := [a / 16777216 % 256, a / 65536 % 256, a / 256 % 256, a % 256]
theorem shr_at {a : Int} (n : Nat) (h : n ≤ 64) : shr .u64 a (n : Int) = a / 2 ^ n := by
  unfold shr
  rw [Int.toNat_natCast, show IntKind.u64.bits = 64 from rfl, Nat.min_eq_left h]
theorem put8 (l : List Int) (a : Int) (hl : l.length < 100000000) (h0 : 0 ≤ a) (h1 : a < 256) : Ev (fun k => pack_Put8.f k l a) (l ++ [a]) := by
  refine Ev.bind (a := l ++ [a]) ?_ (Ev.now _)
  refine Ev.of (k := 2) (pack_number_uint8.mono _ _ _) ?_
  unfold pack_number_uint8.f
  rw [clone_at (by omega), Option.bind_some, show (1 : Int) = ((1 : Nat) : Int) by rfl, grow_at 1 (by omega), Option.bind_some, u64_wrap h0 (by omega), show wrap64 (((1 : Nat) : Int) - ((1 : Nat) : Int)) = 0 by rw [wr (by decide) (by decide)]; rfl]
  rw [pack_number_uint8.l0, if_pos (by decide), show wrap64 (8 * 0) = ((0 : Nat) : Int) by rw [wr (by decide) (by decide)]; rfl, if_pos (by decide), if_pos (by omega), shr_at 0 (by decide), show wrap64 (0 - 1) = -1 by rw [wr (by decide) (by decide)]; rfl]
  rw [pack_number_uint8.l0, if_neg (by decide)]
  rw [show a / 2 ^ 0 % 256 = a by omega]
theorem put32 (l : List Int) (a : Int) (hl : l.length < 100000000) (h0 : 0 ≤ a) (h1 : a < 4294967296) : Ev (fun k => pack_Put32.f k l a) (l ++ be4 a) := by
  refine Ev.bind (a := l ++ be4 a) ?_ (Ev.now _)
  refine Ev.of (k := 5) (pack_number_uint32.mono _ _ _) ?_
  unfold pack_number_uint32.f
  rw [clone_at (by omega), Option.bind_some, show (4 : Int) = ((4 : Nat) : Int) by rfl, grow_at 4 (by omega), Option.bind_some, u64_wrap h0 (by omega), show wrap64 (((4 : Nat) : Int) - 1) = 3 by rw [wr (by decide) (by decide)]; rfl]
  rw [pack_number_uint32.l0, if_pos (by decide), show wrap64 (8 * 3) = ((24 : Nat) : Int) by rw [wr (by decide) (by decide)]; rfl, if_pos (by decide), if_pos (by omega), shr_at 24 (by decide), show wrap64 (3 - 1) = 2 by rw [wr (by decide) (by decide)]; rfl]
  rw [pack_number_uint32.l0, if_pos (by decide), show wrap64 (8 * 2) = ((16 : Nat) : Int) by rw [wr (by decide) (by decide)]; rfl, if_pos (by decide), if_pos (by simp; omega), shr_at 16 (by decide), show wrap64 (2 - 1) = 1 by rw [wr (by decide) (by decide)]; rfl]
  rw [pack_number_uint32.l0, if_pos (by decide), show wrap64 (8 * 1) = ((8 : Nat) : Int) by rw [wr (by decide) (by decide)]; rfl, if_pos (by decide), if_pos (by simp; omega), shr_at 8 (by decide), show wrap64 (1 - 1) = 0 by rw [wr (by decide) (by decide)]; rfl]
  rw [pack_number_uint32.l0, if_pos (by decide), show wrap64 (8 * 0) = ((0 : Nat) : Int) by rw [wr (by decide) (by decide)]; rfl, if_pos (by decide), if_pos (by simp; omega), shr_at 0 (by decide), show wrap64 (0 - 1) = -1 by rw [wr (by decide) (by decide)]; rfl]
  rw [pack_number_uint32.l0, if_neg (by decide)]
  unfold be4
  simp
theorem be4_length (a : Int) : (be4 a).length = 4 := rfl
theorem be4_bytes (a : Int) : Bytes (be4 a) := by
  intro c hc
  simp only [be4, List.mem_cons, List.not_mem_nil, or_false] at hc
  omega

/-! ### texts -/
def text (t : ByteArray) : List Int := (t.size : Int) :: bytesOf t
theorem text_length (t : ByteArray) : (text t).length = t.size + 1 := by simp [text, bytesOf_length]
theorem text_bytes {t : ByteArray} (h : t.size ≤ 255) : Bytes (text t) := by
  intro c hc
  rcases List.mem_cons.mp hc with rfl | hc
  · omega
  · exact bytesOf_bytes t c hc
theorem extract_all (t : ByteArray) : t.extract 0 t.size = t := ByteArray.extract_zero_size
theorem putText (l : List Int) (t : ByteArray) (hl : l.length < 100000000) (ht : t.size ≤ 255) : Ev (fun k => pack_PutText.f k l t) (l ++ text t) := by
  have hm : mn (t.size : Int) 255 = t.size := by unfold mn; split <;> omega
  refine Ev.congr (f := fun k => (pack_Put8.f k l (t.size : Int)).bind fun t101 => if t101.length + t.size < 140737488355328 then some (t101 ++ bytesOf t) else none) ?_ ?_
  · intro k
    unfold pack_PutText.f
    rw [hm, if_pos (by omega), if_pos (by omega), Int.toNat_natCast, extract_all, show ((t.size : Int) % 256) = t.size by omega]
  · refine Ev.bind (put8 l _ hl (by omega) (by omega)) ?_
    refine Ev.congr (f := fun _ => some (l ++ text t)) ?_ (Ev.now _)
    intro k
    rw [if_pos (by simp; omega)]
    simp [text]

/-! ### what two keys begin with -/
def cp : List Int → List Int → Nat
  | a :: x, b :: y => if a = b then cp x y + 1 else 0
  | _, _ => 0
theorem cp_le1 : ∀ (x y : List Int), cp x y ≤ x.length
  | [], _ => by simp [cp]
  | _ :: _, [] => by simp [cp]
  | a :: x, b :: y => by
    unfold cp
    split
    · have := cp_le1 x y
      simp; omega
    · omega
theorem cp_le2 : ∀ (x y : List Int), cp x y ≤ y.length
  | [], _ => by simp [cp]
  | _ :: _, [] => by simp [cp]
  | a :: x, b :: y => by
    unfold cp
    split
    · have := cp_le2 x y
      simp; omega
    · omega
def common (a b : ByteArray) : Nat := cp (bytesOf a) (bytesOf b)
theorem common_le1 (a b : ByteArray) : common a b ≤ a.size := by have := cp_le1 (bytesOf a) (bytesOf b); rwa [bytesOf_length] at this
theorem common_le2 (a b : ByteArray) : common a b ≤ b.size := by have := cp_le2 (bytesOf a) (bytesOf b); rwa [bytesOf_length] at this
theorem bt_at {t : ByteArray} {i : Nat} (h : i < (bytesOf t).length) : bt t (i : Int) = (bytesOf t)[i] := by rw [← rd_bytesOf, rd_at h]
theorem commonEv (a b : ByteArray) (ha : a.size < 100000000) : ∀ (m i : Nat), a.size - i = m → i ≤ a.size → i ≤ b.size → Ev (fun k => key_Common.l0 k a b (i : Int)) (a.extract 0 (i + cp ((bytesOf a).drop i) ((bytesOf b).drop i))) := by
  intro m
  induction m with
  | zero =>
    intro i hm hi hj
    refine Ev.step (f := fun _ => some (a.extract 0 i)) ?_ ?_
    · intro k
      rw [key_Common.l0, if_neg (by unfold mn; split <;> omega), if_pos (by omega), if_pos (by omega), Int.toNat_natCast]
    · have : cp ((bytesOf a).drop i) ((bytesOf b).drop i) = 0 := by
        rw [List.drop_of_length_le (by rw [bytesOf_length]; omega)]
        rfl
      rw [this]
      exact Ev.now _
  | succ m ih =>
    intro i hm hi hj
    have h1 : i < (bytesOf a).length := by rw [bytesOf_length]; omega
    by_cases h : i < b.size
    · have h2 : i < (bytesOf b).length := by rw [bytesOf_length]; omega
      rw [List.drop_eq_getElem_cons h1, List.drop_eq_getElem_cons h2]
      by_cases he : (bytesOf a)[i] = (bytesOf b)[i]
      · refine Ev.step (f := fun k => key_Common.l0 k a b ((i + 1 : Nat) : Int)) ?_ ?_
        · intro k
          rw [key_Common.l0, if_pos (by unfold mn; split <;> omega), if_pos (by omega), if_pos (by omega), if_pos (by omega), bt_at h1, bt_at h2, if_pos he, wr (by omega) (by omega)]
          rfl
        · have := ih (i + 1) (by omega) (by omega) (by omega)
          rw [show i + cp ((bytesOf a)[i] :: (bytesOf a).drop (i + 1)) ((bytesOf b)[i] :: (bytesOf b).drop (i + 1)) = i + 1 + cp ((bytesOf a).drop (i + 1)) ((bytesOf b).drop (i + 1)) by rw [cp, if_pos he]; omega]
          exact this
      · refine Ev.step (f := fun _ => some (a.extract 0 i)) ?_ ?_
        · intro k
          rw [key_Common.l0, if_pos (by unfold mn; split <;> omega), if_pos (by omega), if_pos (by omega), if_pos (by omega), bt_at h1, bt_at h2, if_neg he, if_pos (by omega), Int.toNat_natCast]
        · rw [cp, if_neg he]
          exact Ev.now _
    · refine Ev.step (f := fun _ => some (a.extract 0 i)) ?_ ?_
      · intro k
        rw [key_Common.l0, if_neg (by unfold mn; split <;> omega), if_pos (by omega), if_pos (by omega), Int.toNat_natCast]
      · have : cp ((bytesOf a).drop i) ((bytesOf b).drop i) = 0 := by
          rw [List.drop_of_length_le (l := bytesOf b) (by rw [bytesOf_length]; omega)]
          cases (bytesOf a).drop i <;> rfl
        rw [this]
        exact Ev.now _
theorem key_common (a b : ByteArray) (ha : a.size < 100000000) : Ev (fun k => key_Common.f k a b) (a.extract 0 (common a b)) := by
  have := commonEv a b ha a.size 0 (by omega) (by omega) (by omega)
  simp only [Nat.zero_add, List.drop_zero] at this
  exact this

/-! ### a volume -/
def pairsOf : ByteArray → List S145 → List Int
  | _, [] => []
  | last, p :: ps => ((common last p.f0 : Nat) : Int) :: (text (p.f0.extract (common last p.f0) p.f0.size) ++ text p.f1) ++ pairsOf p.f0 ps
def oneOf (w : S136) : List Int := text w.f0 ++ be4 (w.f1.length : Int) ++ pairsOf ⟨#[]⟩ w.f1
def OkP (p : S145) : Prop := p.f0.size ≤ 16 ∧ p.f1.size ≤ 32
def OkW (w : S136) : Prop := w.f0.size ≤ 16 ∧ w.f1.length ≤ 60 ∧ ∀ p ∈ w.f1, OkP p
theorem extract_size (t : ByteArray) (n : Nat) (h : n ≤ t.size) : (t.extract n t.size).size = t.size - n := by rw [ByteArray.size_extract]; omega
theorem take_size (t : ByteArray) (n : Nat) (h : n ≤ t.size) : (t.extract 0 n).size = n := by rw [ByteArray.size_extract]; omega
theorem pairsOf_bytes : ∀ (ps : List S145) (last : ByteArray), (∀ p ∈ ps, OkP p) → Bytes (pairsOf last ps)
  | [], _, _ => fun c hc => by simp [pairsOf] at hc
  | p :: ps, last, h => by
    have hp := h p (by simp)
    unfold OkP at hp
    intro c hc
    have hle := common_le2 last p.f0
    have hx := extract_size p.f0 _ hle
    simp only [pairsOf, List.cons_append, List.mem_cons, List.mem_append] at hc
    rcases hc with rfl | (hc | hc) | hc
    · omega
    · exact text_bytes (by omega) c hc
    · exact text_bytes (by omega) c hc
    · exact pairsOf_bytes ps p.f0 (fun q hq => h q (by simp [hq])) c hc
theorem pairsOf_length : ∀ (ps : List S145) (last : ByteArray), (∀ p ∈ ps, OkP p) → (pairsOf last ps).length ≤ 51 * ps.length
  | [], _, _ => by simp [pairsOf]
  | p :: ps, last, h => by
    have hp := h p (by simp)
    unfold OkP at hp
    have hle := common_le2 last p.f0
    have hx := extract_size p.f0 _ hle
    have := pairsOf_length ps p.f0 (fun q hq => h q (by simp [hq]))
    simp only [pairsOf, List.length_cons, List.length_append, text_length, hx]
    omega
theorem oneOf_bytes {w : S136} (h : OkW w) : Bytes (oneOf w) := by
  intro c hc
  have h' := h
  unfold OkW at h
  simp only [oneOf, List.mem_append] at hc
  rcases hc with (hc | hc) | hc
  · exact text_bytes (by omega) c hc
  · exact be4_bytes _ c hc
  · exact pairsOf_bytes _ _ h'.2.2 c hc
theorem oneOf_length {w : S136} (h : OkW w) : (oneOf w).length ≤ 4000 := by
  have := pairsOf_length w.f1 ⟨#[]⟩ h.2.2
  have h1 := h.1
  have h2 := h.2.1
  simp only [oneOf, List.length_append, text_length, be4_length]
  omega
theorem pairsEv (ps : List S145) (hl : ps.length ≤ 60) (h : ∀ p ∈ ps, OkP p) : ∀ (m i : Nat) (acc : List Int) (last : ByteArray), ps.length - i = m → i ≤ ps.length → last.size ≤ 16 → acc.length ≤ 10000 + 51 * i →
    Ev (fun k => dump_one.l0 k acc last ps (ps.length : Int) (i : Int)) (acc ++ pairsOf last (ps.drop i)) := by
  intro m
  induction m with
  | zero =>
    intro i acc last hm hi hs ha
    refine Ev.step (f := fun _ => some acc) ?_ ?_
    · intro k
      rw [dump_one.l0, if_neg (by omega)]
    · rw [List.drop_of_length_le (by omega)]
      simp only [pairsOf, List.append_nil]
      exact Ev.now _
  | succ m ih =>
    intro i acc last hm hi hs ha
    have hi' : i < ps.length := by omega
    have hp := h ps[i] (List.getElem_mem _)
    unfold OkP at hp
    have hle := common_le2 last ps[i].f0
    have hle1 := common_le1 last ps[i].f0
    have hx := extract_size ps[i].f0 _ hle
    have hy := take_size last _ hle1
    refine Ev.step (f := fun k => (key_Common.f k last ps[i].f0).bind fun t110 => (pack_Put8.f k [] ((t110.size : Int) % 256)).bind fun t111 => if 0 ≤ (t110.size : Int) then (if (t110.size : Int) ≤ (ps[i].f0.size : Int) then ((pack_PutText.f k t111 (ps[i].f0.extract ((t110.size : Int) : Int).toNat ps[i].f0.size)).bind fun t114 => ((pack_PutText.f k t114 ps[i].f1).bind fun t117 => (if acc.length + t117.length < 140737488355328 then (dump_one.l0 k (acc ++ t117) ps[i].f0 ps (ps.length : Int) ((i + 1 : Nat) : Int)) else none))) else none) else none) ?_ ?_
    · intro k
      rw [dump_one.l0, if_pos (by omega), if_pos (by omega), if_pos (by omega), rd145 hi', wr (by omega) (by omega)]
      rfl
    · refine Ev.bind (key_common _ _ (by omega)) ?_
      rw [hy]
      refine Ev.bind (a := [((common last ps[i].f0 : Nat) : Int)]) ?_ ?_
      · have := put8 [] ((common last ps[i].f0 : Nat) : Int) (by simp) (by omega) (by omega)
        rw [show (((common last ps[i].f0 : Nat) : Int) % 256) = ((common last ps[i].f0 : Nat) : Int) by omega]
        exact this
      · refine Ev.congr (f := fun k => ((pack_PutText.f k [((common last ps[i].f0 : Nat) : Int)] (ps[i].f0.extract (common last ps[i].f0) ps[i].f0.size)).bind fun t114 => ((pack_PutText.f k t114 ps[i].f1).bind fun t117 => (if acc.length + t117.length < 140737488355328 then (dump_one.l0 k (acc ++ t117) ps[i].f0 ps (ps.length : Int) ((i + 1 : Nat) : Int)) else none)))) ?_ ?_
        · intro k
          rw [if_pos (by omega), if_pos (by omega), Int.toNat_natCast]
        · refine Ev.bind (putText _ _ (by simp) (by omega)) ?_
          refine Ev.bind (putText _ _ (by simp [text_length]; omega) (by omega)) ?_
          have hlen : ([((common last ps[i].f0 : Nat) : Int)] ++ text (ps[i].f0.extract (common last ps[i].f0) ps[i].f0.size) ++ text ps[i].f1).length ≤ 51 := by
            simp only [List.length_append, List.length_cons, List.length_nil, text_length, hx]
            omega
          refine Ev.congr (f := fun k => dump_one.l0 k (acc ++ ([((common last ps[i].f0 : Nat) : Int)] ++ text (ps[i].f0.extract (common last ps[i].f0) ps[i].f0.size) ++ text ps[i].f1)) ps[i].f0 ps (ps.length : Int) ((i + 1 : Nat) : Int)) ?_ ?_
          · intro k
            rw [if_pos (by omega)]
          · have := ih (i + 1) (acc ++ ([((common last ps[i].f0 : Nat) : Int)] ++ text (ps[i].f0.extract (common last ps[i].f0) ps[i].f0.size) ++ text ps[i].f1)) ps[i].f0 (by omega) (by omega) (by omega) (by rw [List.length_append]; omega)
            rw [List.drop_eq_getElem_cons hi']
            simp only [pairsOf, List.append_assoc, List.cons_append, List.nil_append] at this ⊢
            exact this
theorem one {w : S136} (h : OkW w) : Ev (fun k => dump_one.f k w.f0 w.f1) (oneOf w) := by
  have h' := h
  unfold OkW at h
  refine Ev.bind (putText [] w.f0 (by simp) (by omega)) ?_
  refine Ev.bind (a := text w.f0 ++ be4 (w.f1.length : Int)) ?_ ?_
  · have := put32 (text w.f0) (w.f1.length : Int) (by rw [text_length]; omega) (by omega) (by omega)
    rw [show ((w.f1.length : Int) % 4294967296) = w.f1.length by omega, List.nil_append]
    exact this
  · have := pairsEv w.f1 h.2.1 h.2.2 w.f1.length 0 (text w.f0 ++ be4 (w.f1.length : Int)) ⟨#[]⟩ (by omega) (by omega) (by decide) (by simp [text_length, be4_length]; omega)
    exact this

/-! ### a dump -/
def bodyOf (l : List S136) : List Int := [109, 114, 99, 116, (l.length : Int)] ++ l.flatMap oneOf
def marked (b : List Int) : List Int := b ++ le4 (sum b)
theorem flat_bytes : ∀ (l : List S136), (∀ w ∈ l, OkW w) → Bytes (l.flatMap oneOf) := by
  intro l h c hc
  obtain ⟨w, hw, hc⟩ := List.mem_flatMap.mp hc
  exact oneOf_bytes (h w hw) c hc
theorem bodyOf_bytes {l : List S136} (h : ∀ w ∈ l, OkW w) (hl : l.length ≤ 20) : Bytes (bodyOf l) := by
  intro c hc
  rcases List.mem_append.mp hc with hc | hc
  · simp only [List.mem_cons, List.not_mem_nil, or_false] at hc
    omega
  · exact flat_bytes l h c hc
theorem putEv (l : List S136) (hl : l.length ≤ 20) (h : ∀ w ∈ l, OkW w) : ∀ (m i : Nat) (acc : List Int), l.length - i = m → i ≤ l.length → acc.length ≤ 10 + 4000 * i → Bytes acc →
    Ev (fun k => dump_Put.l0 k acc l (l.length : Int) (i : Int)) (marked (acc ++ (l.drop i).flatMap oneOf), 0) := by
  intro m
  induction m with
  | zero =>
    intro i acc hm hi ha hb
    refine Ev.step (f := fun k => (crc_Mark.f k acc).bind fun t116 => some (t116, 0)) ?_ ?_
    · intro k
      rw [dump_Put.l0, if_neg (by omega)]
    · rw [List.drop_of_length_le (by omega)]
      simp only [List.flatMap_nil, List.append_nil]
      refine Ev.bind (a := marked acc) (Ev.of (crc_Mark.mono _) (mark_ev acc hb (by omega) 0)) (Ev.now _)
  | succ m ih =>
    intro i acc hm hi ha hb
    have hi' : i < l.length := by omega
    have hw := h l[i] (List.getElem_mem _)
    have hn := oneOf_length hw
    refine Ev.step (f := fun k => (dump_one.f k l[i].f0 l[i].f1).bind fun t110 => (if acc.length + t110.length < 140737488355328 then (dump_Put.l0 k (acc ++ t110) l (l.length : Int) ((i + 1 : Nat) : Int)) else none)) ?_ ?_
    · intro k
      rw [dump_Put.l0, if_pos (by omega), if_pos (by omega), if_pos (by omega), rd136 hi', wr (by omega) (by omega)]
      rfl
    · refine Ev.bind (one hw) ?_
      refine Ev.congr (f := fun k => dump_Put.l0 k (acc ++ oneOf l[i]) l (l.length : Int) ((i + 1 : Nat) : Int)) ?_ ?_
      · intro k
        rw [if_pos (by omega)]
      · have := ih (i + 1) (acc ++ oneOf l[i]) (by omega) (by omega) (by rw [List.length_append]; omega) (by
          intro c hc
          rcases List.mem_append.mp hc with hc | hc
          · exact hb c hc
          · exact oneOf_bytes hw c hc)
        rw [List.drop_eq_getElem_cons hi', List.flatMap_cons, ← List.append_assoc]
        exact this
theorem put_ok {l : List S136} (hl : l.length ≤ 16) (h : ∀ w ∈ l, OkW w) (hm : Ev (fun k => dump_May.f k l) true) : Ev (fun k => dump_Put.f k l) (marked (bodyOf l), 0) := by
  refine Ev.bind hm ?_
  refine Ev.congr (f := fun k => (pack_Put8.f k [109, 114, 99, 116] ((l.length : Int) % 256)).bind fun t105 => dump_Put.l0 k t105 l (l.length : Int) 0) (fun k => by rw [if_pos rfl]) ?_
  refine Ev.bind (a := [109, 114, 99, 116, (l.length : Int)]) ?_ ?_
  · have := put8 [109, 114, 99, 116] (l.length : Int) (by simp) (by omega) (by omega)
    rw [show ((l.length : Int) % 256) = l.length by omega]
    exact this
  · exact putEv l (by omega) h l.length 0 [109, 114, 99, 116, (l.length : Int)] (by omega) (by omega) (by simp) (by
      intro c hc
      simp only [List.mem_cons, List.not_mem_nil, or_false] at hc
      omega)
theorem put_no {l : List S136} (hm : Ev (fun k => dump_May.f k l) false) : Ev (fun k => dump_Put.f k l) ([], 1) := by
  refine Ev.bind hm ?_
  exact Ev.congr (fun k => by rw [if_neg (by decide)]) (Ev.now _)
end Go.Proofs.Ytfdemnefkfkghaa.Q
/- Which volumes may be dumped; which are too many; the document's example. -/
namespace Go.Proofs.Ytfdemnefkfkghaa.Q
open Go.RowKit Go.Proofs.YtfdemnefkfkghaaW.PrintWords Go.Proofs.YtfdemnefkfkghaaW.PrintLast Go.Proofs.YtfdemnefkfkghaaW.PrintMore
open Go.Proofs.Ytfdemnefkfkghaa.X
set_option linter.unusedVariables false

/-! ### too many -/
theorem greatPairs (ps : List S145) : ∃ r, Ev (fun k => marcotref06_GreatPairs.f k ps) r ∧ (r = false → ps.length ≤ 60 ∧ ∀ p ∈ ps, p.f0.size ≤ 100 ∧ p.f1.size ≤ 100) := by
  by_cases hl : ps.length ≤ 60
  · have key : ∀ (m i : Nat), ps.length - i = m → i ≤ ps.length → ∃ r, Ev (fun k => marcotref06_GreatPairs.l0 k ps (ps.length : Int) (i : Int)) r ∧ (r = false → ∀ p ∈ ps.drop i, p.f0.size ≤ 100 ∧ p.f1.size ≤ 100) := by
      intro m
      induction m with
      | zero =>
        intro i hm hi
        refine ⟨false, Ev.step (f := fun _ => some false) ?_ (Ev.now _), fun _ p hp => ?_⟩
        · intro k
          rw [marcotref06_GreatPairs.l0, if_neg (by omega)]
        · rw [List.drop_of_length_le (by omega)] at hp
          cases hp
      | succ m ih =>
        intro i hm hi
        have hi' : i < ps.length := by omega
        by_cases h1 : (ps[i].f0.size : Int) > 100
        · refine ⟨true, Ev.step (f := fun _ => some true) ?_ (Ev.now _), fun h => by cases h⟩
          intro k
          rw [marcotref06_GreatPairs.l0, if_pos (by omega), if_pos (by omega), if_pos (by omega), rd145 hi', if_pos h1]
        · by_cases h2 : (ps[i].f1.size : Int) > 100
          · refine ⟨true, Ev.step (f := fun _ => some true) ?_ (Ev.now _), fun h => by cases h⟩
            intro k
            rw [marcotref06_GreatPairs.l0, if_pos (by omega), if_pos (by omega), if_pos (by omega), rd145 hi', if_neg h1, if_pos h2]
          · obtain ⟨r, hr, hq⟩ := ih (i + 1) (by omega) (by omega)
            refine ⟨r, Ev.step ?_ hr, fun h p hp => ?_⟩
            · intro k
              rw [marcotref06_GreatPairs.l0, if_pos (by omega), if_pos (by omega), if_pos (by omega), rd145 hi', if_neg h1, if_neg h2, wr (by omega) (by omega)]
              rfl
            · rw [List.drop_eq_getElem_cons hi'] at hp
              rcases List.mem_cons.mp hp with rfl | hp
              · omega
              · exact hq h p hp
    obtain ⟨r, hr, hq⟩ := key ps.length 0 (by omega) (by omega)
    refine ⟨r, Ev.congr ?_ hr, fun h => ⟨hl, hq h⟩⟩
    intro k
    unfold marcotref06_GreatPairs.f
    rw [if_neg (by omega)]
    rfl
  · refine ⟨true, Ev.congr (f := fun _ => some true) ?_ (Ev.now _), fun h => by cases h⟩
    intro k
    unfold marcotref06_GreatPairs.f
    rw [if_pos (by omega)]
def Small (l : List S136) : Prop := l.length ≤ 20 ∧ ∀ w ∈ l, w.f0.size ≤ 100 ∧ w.f1.length ≤ 60 ∧ ∀ p ∈ w.f1, p.f0.size ≤ 100 ∧ p.f1.size ≤ 100
theorem great (l : List S136) : ∃ r, Ev (fun k => marcotref32_Great.f k l) r ∧ (r = false → Small l) := by
  by_cases hl : l.length ≤ 20
  · have key : ∀ (m i : Nat), l.length - i = m → i ≤ l.length → ∃ r, Ev (fun k => marcotref32_Great.l0 k l (l.length : Int) (i : Int)) r ∧ (r = false → ∀ w ∈ l.drop i, w.f0.size ≤ 100 ∧ w.f1.length ≤ 60 ∧ ∀ p ∈ w.f1, p.f0.size ≤ 100 ∧ p.f1.size ≤ 100) := by
      intro m
      induction m with
      | zero =>
        intro i hm hi
        refine ⟨false, Ev.step (f := fun _ => some false) ?_ (Ev.now _), fun _ p hp => ?_⟩
        · intro k
          rw [marcotref32_Great.l0, if_neg (by omega)]
        · rw [List.drop_of_length_le (by omega)] at hp
          cases hp
      | succ m ih =>
        intro i hm hi
        have hi' : i < l.length := by omega
        by_cases h1 : (l[i].f0.size : Int) > 100
        · refine ⟨true, Ev.step (f := fun _ => some true) ?_ (Ev.now _), fun h => by cases h⟩
          intro k
          rw [marcotref32_Great.l0, if_pos (by omega), if_pos (by omega), if_pos (by omega), rd136 hi', if_pos h1]
        · obtain ⟨b, hb, hbq⟩ := greatPairs l[i].f1
          have go : ∀ r, Ev (fun k => if b = true then some true else marcotref32_Great.l0 k l (l.length : Int) ((i + 1 : Nat) : Int)) r → Ev (fun k => marcotref32_Great.l0 k l (l.length : Int) (i : Int)) r := by
            intro r hr
            refine Ev.step (f := fun k => (marcotref06_GreatPairs.f k l[i].f1).bind fun t103 => (if t103 = true then (some true) else (marcotref32_Great.l0 k l (l.length : Int) ((i + 1 : Nat) : Int)))) ?_ (Ev.bind hb hr)
            intro k
            rw [marcotref32_Great.l0, if_pos (by omega), if_pos (by omega), if_pos (by omega), rd136 hi', if_neg h1, wr (by omega) (by omega)]
            rfl
          cases b with
          | true => exact ⟨true, go true (Ev.congr (fun k => by rw [if_pos rfl]) (Ev.now _)), fun h => by cases h⟩
          | false =>
            obtain ⟨r, hr, hq⟩ := ih (i + 1) (by omega) (by omega)
            refine ⟨r, go r (Ev.congr (fun k => by rw [if_neg (by decide)]) hr), fun h w hw => ?_⟩
            rw [List.drop_eq_getElem_cons hi'] at hw
            rcases List.mem_cons.mp hw with rfl | hw
            · have := hbq rfl
              exact ⟨by omega, this.1, this.2⟩
            · exact hq h w hw
    obtain ⟨r, hr, hq⟩ := key l.length 0 (by omega) (by omega)
    refine ⟨r, Ev.congr ?_ hr, fun h => ⟨hl, hq h⟩⟩
    intro k
    unfold marcotref32_Great.f
    rw [if_neg (by omega)]
    rfl
  · refine ⟨true, Ev.congr (f := fun _ => some true) ?_ (Ev.now _), fun h => by cases h⟩
    intro k
    unfold marcotref32_Great.f
    rw [if_pos (by omega)]

/-! ### what may be dumped -/
abbrev less (a b : ByteArray) : Bool := Op.bytesLess a.toList b.toList
/-- The pairs of a volume, behind a key. -/
def okPairs : Option ByteArray → List S145 → Bool
  | _, [] => true
  | q, p :: ps => decide (p.f0.size ≤ 16) && decide (p.f1.size ≤ 32) && (match q with | none => true | some a => less a p.f0) && okPairs (some p.f0) ps
def okName (last n : ByteArray) : Bool := decide (1 ≤ n.size) && decide (n.size ≤ 16) && less last n
def okL : ByteArray → List S136 → Bool
  | _, [] => true
  | last, w :: ws => okName last w.f0 && okPairs none w.f1 && okL w.f0 ws
def mayB (l : List S136) : Bool := okL ⟨#[]⟩ l && decide (l.length ≤ 16)
theorem okPairs_all : ∀ (ps : List S145) (q : Option ByteArray), okPairs q ps = true → ∀ p ∈ ps, OkP p
  | [], _, _ => fun p hp => by cases hp
  | p :: ps, q, h => by
    simp only [okPairs, Bool.and_eq_true, decide_eq_true_eq] at h
    intro x hx
    rcases List.mem_cons.mp hx with rfl | hx
    · exact ⟨h.1.1.1, h.1.1.2⟩
    · exact okPairs_all ps _ h.2 x hx
theorem okL_all : ∀ (l : List S136) (last : ByteArray), okL last l = true → (∀ w ∈ l, w.f1.length ≤ 60) → ∀ w ∈ l, OkW w
  | [], _, _, _ => fun w hw => by cases hw
  | w :: ws, last, h, hs => by
    simp only [okL, okName, Bool.and_eq_true, decide_eq_true_eq] at h
    intro x hx
    rcases List.mem_cons.mp hx with rfl | hx
    · exact ⟨h.1.1.1.2, hs x (by simp), okPairs_all _ _ h.1.2⟩
    · exact okL_all ws _ h.2 (fun y hy => hs y (by simp [hy])) x hx
/-- The key before a place. -/
def before (ps : List S145) : Nat → Option ByteArray
  | 0 => none
  | i + 1 => (ps[i]?).map (·.f0)
theorem wholeEv (n : ByteArray) (ps : List S145) (hl : ps.length ≤ 60) : ∀ (m i : Nat), ps.length - i = m → i ≤ ps.length → Ev (fun k => dump_whole.l0 k ps (ps.length : Int) (i : Int) n ps) (okPairs (before ps i) (ps.drop i)) := by
  intro m
  induction m with
  | zero =>
    intro i hm hi
    refine Ev.step (f := fun _ => some true) ?_ ?_
    · intro k
      rw [dump_whole.l0, if_neg (by omega)]
    · rw [List.drop_of_length_le (by omega)]
      exact Ev.now _
  | succ m ih =>
    intro i hm hi
    have hi' : i < ps.length := by omega
    rw [List.drop_eq_getElem_cons hi']
    have hb : before ps (i + 1) = some ps[i].f0 := by simp [before, hi']
    have ih := ih (i + 1) (by omega) (by omega)
    rw [hb] at ih
    unfold okPairs
    by_cases h1 : (ps[i].f0.size : Int) > 16
    · rw [decide_eq_false (by omega : ¬ ps[i].f0.size ≤ 16)]
      refine Ev.step (f := fun _ => some false) ?_ (by simpa using Ev.now false)
      intro k
      rw [dump_whole.l0, if_pos (by omega), if_pos (by omega), if_pos (by omega), rd145 hi', if_pos h1]
    · by_cases h2 : (ps[i].f1.size : Int) > 32
      · rw [decide_eq_false (by omega : ¬ ps[i].f1.size ≤ 32)]
        refine Ev.step (f := fun _ => some false) ?_ (by simpa using Ev.now false)
        intro k
        rw [dump_whole.l0, if_pos (by omega), if_pos (by omega), if_pos (by omega), rd145 hi', if_neg h1, if_pos h2]
      · rw [decide_eq_true (by omega : ps[i].f0.size ≤ 16), decide_eq_true (by omega : ps[i].f1.size ≤ 32), Bool.true_and, Bool.true_and]
        cases i with
        | zero =>
          refine Ev.step ?_ (by simpa [before] using ih)
          intro k
          rw [dump_whole.l0, if_pos (by omega), if_pos (by omega), if_pos (by omega), rd145 hi', if_neg h1, if_neg h2, if_neg (by omega), wr (by omega) (by omega)]
          rfl
        | succ j =>
          have hj : j < ps.length := by omega
          have hbj : before ps (j + 1) = some ps[j].f0 := by simp [before, hj]
          rw [hbj]
          dsimp only
          refine Ev.step (f := fun k => if less ps[j].f0 ps[j + 1].f0 = true then dump_whole.l0 k ps (ps.length : Int) ((j + 1 + 1 : Nat) : Int) n ps else some false) ?_ ?_
          · intro k
            have e1 : wrap64 (((j + 1 : Nat) : Int) - 1) = (j : Int) := by rw [wr (by omega) (by omega)]; omega
            rw [dump_whole.l0, if_pos (by omega), if_pos (by omega), if_pos (by omega), rd145 hi', if_neg h1, if_neg h2, if_pos (by omega), e1, if_pos (by omega), if_pos (by omega), rd145 hj, wr (n := ((j + 1 : Nat) : Int) + 1) (by omega) (by omega)]
            rfl
          · by_cases h3 : less ps[j].f0 ps[j + 1].f0 = true
            · rw [h3, Bool.true_and]
              exact Ev.congr (fun k => by rw [if_pos rfl]) ih
            · rw [Bool.not_eq_true] at h3
              rw [h3, Bool.false_and]
              exact Ev.congr (fun k => by rw [if_neg (by decide)]) (Ev.now _)
theorem wholeOf (w : S136) (last : ByteArray) (hl : w.f1.length ≤ 60) : Ev (fun k => dump_whole.f k w.f0 w.f1 last) (okName last w.f0 && okPairs none w.f1) := by
  have hw := wholeEv w.f0 w.f1 hl w.f1.length 0 (by omega) (by omega)
  have j0 : ∀ b, Ev (fun k => dump_whole.j0 k b w.f0 w.f1) (!b && okPairs none w.f1) := by
    intro b
    cases b with
    | true =>
      refine Ev.step (f := fun _ => some false) ?_ (Ev.now _)
      intro k
      rw [dump_whole.j0, if_pos rfl]
    | false =>
      refine Ev.step ?_ hw
      intro k
      rw [dump_whole.j0, if_neg (by decide)]
      rfl
  unfold okName
  by_cases h1 : 1 ≤ w.f0.size
  · have e : cat_May.f w.f0 = some (decide (w.f0.size ≤ 16)) := by
      unfold cat_May.f
      rw [if_pos (by omega)]
      refine congrArg some (decide_eq_decide.2 ?_)
      omega
    rw [decide_eq_true h1, Bool.true_and]
    by_cases h2 : w.f0.size ≤ 16
    · rw [decide_eq_true h2] at e ⊢
      rw [Bool.true_and]
      have := j0 (!(less last w.f0))
      rw [Bool.not_not] at this
      refine Ev.congr (fun k => ?_) this
      unfold dump_whole.f
      rw [e, Option.bind_some, if_pos rfl]
    · rw [decide_eq_false h2] at e ⊢
      rw [Bool.false_and, Bool.false_and]
      refine Ev.congr (fun k => ?_) (j0 true)
      unfold dump_whole.f
      rw [e, Option.bind_some, if_neg (by decide)]
  · have e : cat_May.f w.f0 = some false := by
      unfold cat_May.f
      rw [if_neg (by omega)]
    rw [decide_eq_false h1, Bool.false_and, Bool.false_and, Bool.false_and]
    refine Ev.congr (fun k => ?_) (j0 true)
    unfold dump_whole.f
    rw [e, Option.bind_some, if_neg (by decide)]
theorem mayEv (l : List S136) (hl : l.length ≤ 20) (hs : ∀ w ∈ l, w.f1.length ≤ 60) : ∀ (m i : Nat) (last : ByteArray), l.length - i = m → i ≤ l.length → Ev (fun k => dump_May.l0 k l last l (l.length : Int) (i : Int)) (okL last (l.drop i) && decide (l.length ≤ 16)) := by
  intro m
  induction m with
  | zero =>
    intro i last hm hi
    refine Ev.step (f := fun _ => some (decide ((l.length : Int) ≤ 16))) ?_ ?_
    · intro k
      rw [dump_May.l0, if_neg (by omega)]
    · rw [List.drop_of_length_le (by omega)]
      have : decide ((l.length : Int) ≤ 16) = decide (l.length ≤ 16) := decide_eq_decide.2 (by omega)
      rw [this]
      exact Ev.now _
  | succ m ih =>
    intro i last hm hi
    have hi' : i < l.length := by omega
    have hw := wholeOf l[i] last (hs _ (List.getElem_mem _))
    refine Ev.step (f := fun k => (dump_whole.f k l[i].f0 l[i].f1 last).bind fun t103 => (if t103 = true then (dump_May.l0 k l l[i].f0 l (l.length : Int) ((i + 1 : Nat) : Int)) else (some false))) ?_ (Ev.bind hw ?_)
    · intro k
      rw [dump_May.l0, if_pos (by omega), if_pos (by omega), if_pos (by omega), rd136 hi', wr (by omega) (by omega)]
      rfl
    · rw [List.drop_eq_getElem_cons hi']
      unfold okL
      cases okName last l[i].f0 && okPairs none l[i].f1 with
      | true =>
        rw [Bool.true_and]
        exact Ev.congr (fun k => by rw [if_pos rfl]) (ih (i + 1) l[i].f0 (by omega) (by omega))
      | false =>
        rw [Bool.false_and, Bool.false_and]
        exact Ev.congr (fun k => by rw [if_neg (by decide)]) (Ev.now _)
theorem may {l : List S136} (h : Small l) : Ev (fun k => dump_May.f k l) (mayB l) :=
  mayEv l h.1 (fun w hw => (h.2 w hw).2.1) l.length 0 ⟨#[]⟩ (by omega) (by omega)
/-- A dump, or the error. -/
def putOf (l : List S136) : List Int × Int := if mayB l = true then (marked (bodyOf l), 0) else ([], 1)
theorem may_all {l : List S136} (h : Small l) (hm : mayB l = true) : l.length ≤ 16 ∧ ∀ w ∈ l, OkW w := by
  unfold mayB at hm
  simp only [Bool.and_eq_true, decide_eq_true_eq] at hm
  exact ⟨hm.2, okL_all l _ hm.1 (fun w hw => (h.2 w hw).2.1)⟩
theorem put {l : List S136} (h : Small l) : Ev (fun k => dump_Put.f k l) (putOf l) := by
  have hm := may h
  unfold putOf
  by_cases h1 : mayB l = true
  · rw [if_pos h1]
    rw [h1] at hm
    obtain ⟨h2, h3⟩ := may_all h h1
    exact put_ok h2 h3 hm
  · rw [if_neg h1]
    rw [Bool.not_eq_true] at h1
    rw [h1] at hm
    exact put_no hm

/-! ### the document's example -/
theorem awake : Ev (fun k => marcotlaw32_awake.f k) true := by
  refine Ev.bind (put (l := []) ⟨by simp, fun w hw => by cases hw⟩) ?_
  have e : putOf [] = ([109, 114, 99, 116, 0] ++ le4 (sum (bodyOf [])), 0) := by
    unfold putOf
    rw [if_pos (by rfl)]
    rfl
  rw [e]
  refine Ev.congr (f := fun _ => some true) ?_ (Ev.now _)
  intro k
  rw [if_pos rfl, if_pos (by rfl), if_pos (by decide)]
  have : ([109, 114, 99, 116, 0] ++ le4 (sum (bodyOf []))).take 5 = [109, 114, 99, 116, 0] := by
    rw [List.take_append_of_le_length (by simp)]
    rfl
  rw [this]
  refine congrArg some ?_
  rw [Go.Lib.strOfNums_toList]
  decide
end Go.Proofs.Ytfdemnefkfkghaa.Q
/- Functions of the program as Lean functions, and that their calls come to them: written by xprint.py of this session, out of the kit's print program. -/
namespace Go.Proofs.Ytfdemnefkfkghaa.X
open Go.RowKit Go.Proofs.YtfdemnefkfkghaaW.PrintWords Go.Proofs.YtfdemnefkfkghaaW.PrintLast Go.Proofs.YtfdemnefkfkghaaW.PrintMore
attribute [local go_sem] max2_int min2_int max_two min_two max_three min_three max_four min_four   -- for this text's walks alone
attribute [local go_sem high] Go.Proofs.Ytfdemnefkfkghaa.XW.leq Go.Proofs.Ytfdemnefkfkghaa.XW.gtr Go.Proofs.Ytfdemnefkfkghaa.XW.geq
set_option linter.unusedVariables false
set_option linter.unusedSimpArgs false

/-- A state of type 206 at block g of W; what its slices lead to came in by w0. -/
def IsS206 (w0 W : World) (g : Nat) (f0 : List Int) (f1 : Int) (f2 : Int) : Prop := ∃ A0 c0, W.heap[g]? = some (.cells #[.slice A0 f0.length c0, .int .i64 f1, .int .i64 f2] 206 (0, 0)) ∧ w0.heap.size ≤ g ∧ Kd.C (Kd.int .u8) w0 A0 f0.length f0 ∧ f0.length ≤ c0
theorem IsS206.grown {w0 W : World} {g : Nat} {f0 : List Int} {f1 : Int} {f2 : Int} {W1 : World} {row : Option Nat} (h : IsS206 w0 W g f0 f1 f2) (hw : W.grownBy W1 row) (hne : some g ≠ row) : IsS206 w0 W1 g f0 f1 f2 := by
  obtain ⟨A0, c0, hb, hg, hr0⟩ := h
  exact ⟨A0, c0, blk_grown hb hw hne, hg, hr0⟩
theorem IsS206.own_neN {w0 W : World} {g : Nat} {f0 : List Int} {f1 : Int} {f2 : Int} {α : Type} {d : Kd α} {e : Nat} {base : Nat} {ok : Nat → Prop} {v : Value} {xs : List α} (h : IsS206 w0 W g f0 f1 f2) (ho : Kd.N d e W base ok v xs) (ht : e ≠ 206) : some g ≠ v.ownBlock := by
  obtain ⟨A0, c0, hb, hg, hr0⟩ := h
  exact Kd.N_ne ho hb ht
theorem IsS206.fresh {w0 W : World} {g : Nat} {f0 : List Int} {f1 : Int} {f2 : Int} (h : IsS206 w0 W g f0 f1 f2) : ∀ k, W.heap.size ≤ k → k ≠ g := by
  obtain ⟨A0, c0, hb, hg, hr0⟩ := h
  exact Kd.freshB hb
theorem IsS206.kept {w0 W : World} {g : Nat} {f0 : List Int} {f1 : Int} {f2 : Int} {W1 : World} {S : Nat → Prop} (h : IsS206 w0 W g f0 f1 f2) (hk : Kept W W1 S) (hne : ¬ S g) : IsS206 w0 W1 g f0 f1 f2 := by
  obtain ⟨A0, c0, hb, hg, hr0⟩ := h
  exact ⟨A0, c0, blk_kept hb hk hne, hg, hr0⟩
theorem IsS206.below {w0 W : World} {g : Nat} {f0 : List Int} {f1 : Int} {f2 : Int} {W1 : World} (h : IsS206 w0 W g f0 f1 f2) (hw : Below W.heap.size W W1) : IsS206 w0 W1 g f0 f1 f2 := h.grown (grown_of_below hw none) (by simp)
theorem IsS206.alloc {w0 W : World} {g : Nat} {f0 : List Int} {f1 : Int} {f2 : Int} (h : IsS206 w0 W g f0 f1 f2) (o : Obj) : IsS206 w0 (W.alloc o) g f0 f1 f2 := h.below (below_alloc (Below.refl _ _) o)
theorem IsS206.drewN {w0 W : World} {g : Nat} {f0 : List Int} {f1 : Int} {f2 : Int} (h : IsS206 w0 W g f0 f1 f2) (m : Nat) : IsS206 w0 (W.drewN m) g f0 f1 f2 := h
theorem IsS206.drew {w0 W : World} {g : Nat} {f0 : List Int} {f1 : Int} {f2 : Int} (h : IsS206 w0 W g f0 f1 f2) : IsS206 w0 W.drew g f0 f1 f2 := h
theorem IsS206.at_ {w0 W : World} {g : Nat} {f0 : List Int} {f1 : Int} {f2 : Int} {w' : World} {m : Nat} (hq : W.drewN m = w') (h : IsS206 w0 W g f0 f1 f2) : IsS206 w0 w' g f0 f1 f2 := by subst hq; exact IsS206.drewN h m
theorem IsS206.apart {w0 W : World} {g : Nat} {f0 : List Int} {f1 : Int} {f2 : Int} {α : Type} {d : Kd α} {e : Nat} {base : Nat} {ok : Nat → Prop} {v : Value} {xs : List α} (h : IsS206 w0 W g f0 f1 f2) (ho : d.R e W base ok v xs) (ht : ∀ q, q ∈ e :: d.E → q ≠ 206) : d.R e W base (fun k => ok k ∧ k ≠ g) v xs := by
  obtain ⟨A0, c0, hb, hg, hr0⟩ := h
  exact Kd.R_types ho hb ht
theorem IsS206.own_ne {w0 W : World} {g : Nat} {f0 : List Int} {f1 : Int} {f2 : Int} {α : Type} {d : Kd α} {e : Nat} {base : Nat} {ok : Nat → Prop} {v : Value} {xs : List α} (h : IsS206 w0 W g f0 f1 f2) (ho : d.R e W base ok v xs) (ht : e ≠ 206) : some g ≠ v.ownBlock := by
  obtain ⟨A0, c0, hb, hg, hr0⟩ := h
  exact Kd.R_ne ho hb ht
theorem IsS206.apartQ {w0 W : World} {g : Nat} {f0 : List Int} {f1 : Int} {f2 : Int} {α : Type} {d : Kd α} {e : Nat} {base : Nat} {ok : Nat → Prop} {v : Value} {xs : List α} (h : IsS206 w0 W g f0 f1 f2) (ho : d.Q e W base ok v xs) (ht : ∀ q, q ∈ e :: d.E → q ≠ 206) : d.Q e W base (fun k => ok k ∧ k ≠ g) v xs := by
  obtain ⟨A0, c0, hb, hg, hr0⟩ := h
  exact Kd.Q_types ho hb ht
theorem IsS206.own_neQ {w0 W : World} {g : Nat} {f0 : List Int} {f1 : Int} {f2 : Int} {α : Type} {d : Kd α} {e : Nat} {base : Nat} {ok : Nat → Prop} {v : Value} {xs : List α} (h : IsS206 w0 W g f0 f1 f2) (ho : d.Q e W base ok v xs) (ht : e ≠ 206) : some g ≠ v.ownBlock := by
  obtain ⟨A0, c0, hb, hg, hr0⟩ := h
  exact Kd.Q_ne ho hb ht
theorem IsS206.apartS {w0 W : World} {g : Nat} {f0 : List Int} {f1 : Int} {f2 : Int} {α : Type} {d : Kd α} {e : Nat} {base : Nat} {ok : Nat → Prop} {v : Value} {xs : List α} (h : IsS206 w0 W g f0 f1 f2) (ho : d.S e W base ok v xs) (ht : ∀ q, q ∈ e :: d.E → q ≠ 206) : d.S e W base (fun k => ok k ∧ k ≠ g) v xs := by
  obtain ⟨A0, c0, hb, hg, hr0⟩ := h
  exact Kd.S_types ho hb ht
theorem IsS206.own_neS {w0 W : World} {g : Nat} {f0 : List Int} {f1 : Int} {f2 : Int} {α : Type} {d : Kd α} {e : Nat} {base : Nat} {ok : Nat → Prop} {v : Value} {xs : List α} (h : IsS206 w0 W g f0 f1 f2) (ho : d.S e W base ok v xs) (ht : e ≠ 206) : some g ≠ v.ownBlock := by
  obtain ⟨A0, c0, hb, hg, hr0⟩ := h
  exact Kd.S_ne ho hb ht
theorem IsS206.lt {w0 W : World} {g : Nat} {f0 : List Int} {f1 : Int} {f2 : Int} (h : IsS206 w0 W g f0 f1 f2) : g < W.heap.size := by
  obtain ⟨A0, c0, hb, hg, hr0⟩ := h
  exact blk_lt hb
theorem IsS206.ge {w0 W : World} {g : Nat} {f0 : List Int} {f1 : Int} {f2 : Int} (h : IsS206 w0 W g f0 f1 f2) : w0.heap.size ≤ g := by
  obtain ⟨A0, c0, hb, hg, hr0⟩ := h
  exact hg
theorem IsS206.ne_blk {w0 W : World} {g : Nat} {f0 : List Int} {f1 : Int} {f2 : Int} {a : Nat} {cs : Array Value} {t : TypeId} {fr : Nat × Nat} (h : IsS206 w0 W g f0 f1 f2) (hb2 : W.heap[a]? = some (.cells cs t fr)) (ht : t ≠ 206) : g ≠ a := by
  obtain ⟨A0, c0, hb, hg, hr0⟩ := h
  rintro rfl
  rw [hb] at hb2
  injection hb2 with hb2
  injection hb2 with _ ht2
  exact ht ht2.symm
theorem IsS206.far {w0 W : World} {g : Nat} {f0 : List Int} {f1 : Int} {f2 : Int} {p : Addr} (h : IsS206 w0 W g f0 f1 f2) (hne : g ≠ p.block) (u : Value) : IsS206 w0 (W.setCell p u) g f0 f1 f2 := by
  obtain ⟨A0, c0, hb, hg, hr0⟩ := h
  exact ⟨A0, c0, blk_far hb hne u, hg, hr0⟩
theorem cellS206_0 {W : World} {g : Nat} {A0 : Option Addr} {c0 : Nat} {f0 : List Int} {f1 : Int} {f2 : Int} (h : W.heap[g]? = some (.cells #[.slice A0 f0.length c0, .int .i64 f1, .int .i64 f2] 206 (0, 0))) : W.cell? ⟨g, 0, none⟩ = some (.slice A0 f0.length c0) := (blk_cell h 0).trans rfl
theorem cellS206_1 {W : World} {g : Nat} {A0 : Option Addr} {c0 : Nat} {f0 : List Int} {f1 : Int} {f2 : Int} (h : W.heap[g]? = some (.cells #[.slice A0 f0.length c0, .int .i64 f1, .int .i64 f2] 206 (0, 0))) : W.cell? ⟨g, 1, none⟩ = some (.int .i64 f1) := (blk_cell h 1).trans rfl
theorem IsS206.set_1 {w0 W : World} {g : Nat} {f0 : List Int} {f1 : Int} {f2 : Int} (h : IsS206 w0 W g f0 f1 f2) (x : Int) : IsS206 w0 (W.setCell ⟨g, 1, none⟩ (.int .i64 x)) g f0 x f2 := by
  obtain ⟨A0, c0, hb, hg, hr0⟩ := h
  exact ⟨A0, c0, by simpa using blk_set hb 1 (.int .i64 x), hg, hr0⟩
theorem cellS206_2 {W : World} {g : Nat} {A0 : Option Addr} {c0 : Nat} {f0 : List Int} {f1 : Int} {f2 : Int} (h : W.heap[g]? = some (.cells #[.slice A0 f0.length c0, .int .i64 f1, .int .i64 f2] 206 (0, 0))) : W.cell? ⟨g, 2, none⟩ = some (.int .i64 f2) := (blk_cell h 2).trans rfl
theorem IsS206.set_2 {w0 W : World} {g : Nat} {f0 : List Int} {f1 : Int} {f2 : Int} (h : IsS206 w0 W g f0 f1 f2) (x : Int) : IsS206 w0 (W.setCell ⟨g, 2, none⟩ (.int .i64 x)) g f0 f1 x := by
  obtain ⟨A0, c0, hb, hg, hr0⟩ := h
  exact ⟨A0, c0, by simpa using blk_set hb 2 (.int .i64 x), hg, hr0⟩
theorem IsS206.new (w0 W : World) (A0 : Option Addr) (c0 : Nat) (f0 : List Int) (f1 : Int) (f2 : Int) (hB : Below w0.heap.size w0 W) (hr0 : Kd.C (Kd.int .u8) w0 A0 f0.length f0) (hc0 : f0.length ≤ c0) : IsS206 w0 (W.alloc (.cells #[.slice A0 f0.length c0, .int .i64 f1, .int .i64 f2] 206)) W.heap.size f0 f1 f2 := ⟨A0, c0, by simpa using heap_alloc_new W _, hB.size, hr0, hc0⟩

end Go.Proofs.Ytfdemnefkfkghaa.X
/- The reader's take: so many bytes as a number. -/
namespace Go.Proofs.Ytfdemnefkfkghaa.X
open Go.RowKit Go.Proofs.YtfdemnefkfkghaaW.PrintWords Go.Proofs.YtfdemnefkfkghaaW.PrintLast Go.Proofs.YtfdemnefkfkghaaW.PrintMore
set_option linter.unusedVariables false
set_option linter.unusedSimpArgs false

def beNum : List Int → Int → Int
  | [], n => n
  | c :: r, n => beNum r (n * 256 + c)

theorem pow_le (j : Nat) (h : j ≤ 6) : (256 : Int) ^ j ≤ 281474976710656 := by
  have h9 : j = 0 ∨ j = 1 ∨ j = 2 ∨ j = 3 ∨ j = 4 ∨ j = 5 ∨ j = 6 := by omega
  rcases h9 with rfl | rfl | rfl | rfl | rfl | rfl | rfl <;> decide
theorem or_byte (x c : Int) (h0 : 0 ≤ x) (h1 : x < 72057594037927936) (c0 : 0 ≤ c) (c1 : c ≤ 255) : bits .or .u64 (IntKind.u64.wrap (x * 256)) (IntKind.u64.wrap c) = x * 256 + c := by
  have hw : ∀ n : Int, 0 ≤ n → n < 2 ^ 64 → IntKind.u64.wrap n = n := fun n a b => by simp [IntKind.wrap, IntKind.bits, IntKind.signed]; omega
  rw [hw _ (by omega) (by omega), hw _ (by omega) (by omega)]
  exact bits_join .u64 64 (by decide) hw 8 _ _ (by omega) (by omega) (by omega) (by omega) (by omega) (by omega)

def pack_Reader_take.f (s0_0 : List Int) (s0_1 : Int) (s0_2 : Int) (a1 : Int) : Option (Int × Int × Int) :=
  if 0 ≤ s0_1 ∧ s0_1 ≤ s0_0.length ∧ 0 ≤ a1 ∧ a1 ≤ 7 then
    (if s0_2 = 0 then (if a1 > s0_0.length - s0_1 then some (0, s0_1, 2) else if ∀ c ∈ s0_0, 0 ≤ c ∧ c ≤ 255 then some (beNum ((s0_0.take (s0_1 + a1).toNat).drop s0_1.toNat) 0, s0_1 + a1, s0_2) else none)
    else some (0, s0_1, s0_2))
  else none

set_option maxHeartbeats 8000000 in
set_option maxRecDepth 100000 in
theorem pack_Reader_take.calls (g : Nat) (s0_0 : List Int) (s0_1 : Int) (s0_2 : Int) (a1 : Int) (r0 : Int) (r1 : Int) (r2 : Int) (w0 w : World) (hI : IsS206 w0 w g s0_0 s0_1 s0_2) (hB : Below w0.heap.size w0 w) (h : pack_Reader_take.f s0_0 s0_1 s0_2 a1 = some (r0, r1, r2)) :
    Calls Try.prog 193 #[.pointer (some ⟨g, 0, none⟩), .int .i64 a1] w fun e w' => e = .returned (.int .u64 r0) ∧ IsS206 w0 w' g s0_0 r1 r2 ∧ Below w0.heap.size w0 w' ∧ KeepBut w w' g none := by
  have HI0 := Aside0.mk hI
  have HK := Aside0.mk (KeepBut.refl w g none)
  have HB := Aside0.mk hB
  obtain ⟨A, c, HG, hg, HS⟩ := hI
  have hcz0 := cellS206_0 HG
  have hcz1 := cellS206_1 HG
  have hcz2 := cellS206_2 HG
  have hfz1 := blk_frozen HG 1
  have hfz2 := blk_frozen HG 2
  have hC := Aside0.mk (Kd.C_below HS.1 hB)
  have HCAP : Aside0 (s0_0.length ≤ c) := ⟨HS.2⟩
  unfold pack_Reader_take.f at h
  by_cases hr : 0 ≤ s0_1 ∧ s0_1 ≤ s0_0.length ∧ 0 ≤ a1 ∧ a1 ≤ 7
  · rw [if_pos hr] at h
    obtain ⟨h0, h1, h2, h3⟩ := hr
    have hlen : s0_0.length ≤ 9223372036854775807 := HS.1.2.1
    clear HG hg HS hB
    by_cases he : s0_2 = 0
    · rw [if_pos he] at h
      subst he
      by_cases hn : a1 > s0_0.length - s0_1
      · rw [if_pos hn] at h
        simp only [Option.some.injEq, Prod.mk.injEq] at h
        obtain ⟨rfl, rfl, rfl⟩ := h
        have hd : decide ((s0_0.length : Int) - s0_1 < a1) = true := decide_eq_true hn
        clear hn
        go_enter Try.func193, Try.ntmps193
        go_wp2
        repeat (go_quiet (fail); try go_wp2)
        go_ret
        exact ⟨rfl, by repeat (first | (with_reducible first | exact HI0.out | apply IsS206.alloc | apply IsS206.drewN | apply IsS206.drew | apply IsS206.set_1 | apply IsS206.set_2) | exact HI0.out), by repeat (first | (with_reducible first | exact HB.out | apply below_alloc | apply pw_below_drewN | apply below_drew1 | refine below_set ?_ (IsS206.ge HI0.out)) | exact HB.out), by repeat (first | (with_reducible first | exact HK.out | apply KeepBut.set_ | apply keep_drewN | apply keep_drew | apply keep_alloc) | exact HK.out)⟩
      · rw [if_neg hn] at h
        have hd : decide ((s0_0.length : Int) - s0_1 < a1) = false := decide_eq_false (by omega)
        by_cases hb : ∀ c ∈ s0_0, 0 ≤ c ∧ c ≤ 255
        · rw [if_pos hb] at h
          simp only [Option.some.injEq, Prod.mk.injEq] at h
          obtain ⟨hr0, rfl, rfl⟩ := h
          obtain ⟨i0, hi, hzz⟩ := Option.map_eq_some_iff.1 info5
          simp only [Prod.mk.injEq] at hzz
          obtain ⟨A', hsl, hre, hcap⟩ := print_mid_int (k := .u8) (P := Try.prog) 31 5 Try.underlying31 hi hzz.2.1 A c s0_0 s0_1 (s0_1 + a1) h0 (by omega) (by omega) HCAP.out
          have hR := hre w (Kd.reads_of_C (enc := Value.int .u8) (d := (0 : Int)) (h1 := fun _ => rfl) hC.out)
          have hseg : ((s0_0.take (s0_1 + a1).toNat).drop s0_1.toNat).length = a1.toNat := by
            simp only [List.length_drop, List.length_take]
            omega
          have hsb : ∀ c ∈ (s0_0.take (s0_1 + a1).toNat).drop s0_1.toNat, 0 ≤ c ∧ c ≤ 255 := fun c hc => hb c (List.mem_of_mem_take (List.mem_of_mem_drop hc))
          obtain ⟨seg, es⟩ : ∃ seg, (s0_0.take (s0_1 + a1).toNat).drop s0_1.toNat = seg := ⟨_, rfl⟩
          rw [es] at hsl hR hseg hsb hr0
          obtain ⟨m, rfl⟩ := Int.eq_ofNat_of_zero_le h2
          rw [Int.toNat_natCast] at hseg
          rw [hseg] at hsl hR
          obtain ⟨cc, ec⟩ : ∃ cc, c - s0_1.toNat = cc := ⟨_, rfl⟩
          rw [ec] at hsl
          have hle : s0_1 + (m : Int) ≤ (s0_0.length : Int) := by omega
          have hw : wrap64 (s0_1 + (m : Int)) = s0_1 + (m : Int) := by unfold wrap64; omega
          have HRD := Aside0.mk hR
          have HSB := Aside0.mk hsb
          have HSEG := Aside0.mk hseg
          have HR0 := Aside0.mk hr0
          clear hi hzz hre hcap hR hsb hseg hr0 es ec hb hn hC
          go_enter Try.func193, Try.ntmps193
          go_wp2
          go_quiet (fail)
          go_wp2
          refine start_ (n := 17) (S := fun w' => w'.cell? ⟨g, 0, none⟩ = some (.slice A s0_0.length c) ∧ w'.cell? ⟨g, 1, none⟩ = some (.int .i64 s0_1)) (ds := []) #[false, false, false, false, false, false, false, false, false, false, false, false, false, false, false, false, false] (by kernel_rfl) rfl rfl ⟨hcz0, hcz1⟩ (fun hHeld => ?_)
          refine pure_ (i := 0) (N := some 32) (v := ?_) (a' := ?_) #[true, false, false, false, false, false, false, false, false, false, false, false, false, false, false, false, false] rfl rfl (by kernel_rfl) (fun _ _ _ h => h) (Or.inl ⟨by rfl, ?_⟩) ?_ ?_
          rotate_left
          · intro w'
            go_simp
            with_reducible rfl
          rotate_left
          · simp only [Act.put, List.setIfInBounds_toArray, List.set_cons_zero, List.set_cons_succ, i64_w, i32_w]
            rfl
          refine pure_ (i := 1) (N := some 33) (v := ?_) (a' := ?_) #[true, true, false, false, false, false, false, false, false, false, false, false, false, false, false, false, false] rfl rfl (by kernel_rfl) (fun _ _ _ h => h) (Or.inl ⟨by rfl, ?_⟩) ?_ ?_
          rotate_left
          · intro w'
            go_simp
            with_reducible rfl
          rotate_left
          · simp only [Act.put, List.setIfInBounds_toArray, List.set_cons_zero, List.set_cons_succ, i64_w, i32_w]
            rfl
          refine pure_ (i := 2) (N := some 34) (v := ?_) (a' := ?_) #[true, true, true, false, false, false, false, false, false, false, false, false, false, false, false, false, false] rfl rfl (by kernel_rfl) (fun _ _ _ h => h) (Or.inl ⟨by rfl, ?_⟩) ?_ ?_
          rotate_left
          · intro w'
            go_simp
            with_reducible rfl
          rotate_left
          · simp only [Act.put, List.setIfInBounds_toArray, List.set_cons_zero, List.set_cons_succ, i64_w, i32_w]
            rfl
          refine pure_ (i := 4) (N := some 36) (v := ?_) (a' := ?_) #[true, true, true, false, true, false, false, false, false, false, false, false, false, false, false, false, false] rfl rfl (by kernel_rfl) (fun _ _ _ h => h) (Or.inl ⟨by rfl, ?_⟩) ?_ ?_
          rotate_left
          · intro w'
            go_simp
            with_reducible rfl
          rotate_left
          · simp only [Act.put, List.setIfInBounds_toArray, List.set_cons_zero, List.set_cons_succ, i64_w, i32_w]
            rfl
          refine pure_ (i := 5) (N := some 37) (v := ?_) (a' := ?_) #[true, true, true, false, true, true, false, false, false, false, false, false, false, false, false, false, false] rfl rfl (by kernel_rfl) (fun _ _ _ h => h) (Or.inl ⟨by rfl, ?_⟩) ?_ ?_
          rotate_left
          · intro w'
            go_simp
            with_reducible rfl
          rotate_left
          · simp only [Act.put, List.setIfInBounds_toArray, List.set_cons_zero, List.set_cons_succ, i64_w, i32_w]
            rfl
          refine pure_ (i := 6) (N := some 38) (v := ?_) (a' := ?_) #[true, true, true, false, true, true, true, false, false, false, false, false, false, false, false, false, false] rfl rfl (by kernel_rfl) (fun _ _ _ h => h) (Or.inl ⟨by rfl, ?_⟩) ?_ ?_
          rotate_left
          · intro w'
            go_simp
            with_reducible rfl
          rotate_left
          · simp only [Act.put, List.setIfInBounds_toArray, List.set_cons_zero, List.set_cons_succ, i64_w, i32_w]
            rfl
          refine pure_ (i := 8) (N := some 40) (v := ?_) (a' := ?_) #[true, true, true, false, true, true, true, false, true, false, false, false, false, false, false, false, false] rfl rfl (by kernel_rfl) (fun _ _ _ h => h) (Or.inl ⟨by rfl, ?_⟩) ?_ ?_
          rotate_left
          · intro w'
            go_simp
            with_reducible rfl
          rotate_left
          · simp only [Act.put, List.setIfInBounds_toArray, List.set_cons_zero, List.set_cons_succ, i64_w, i32_w]
            rfl
          refine pure_ (i := 9) (N := some 41) (v := ?_) (a' := ?_) #[true, true, true, false, true, true, true, false, true, true, false, false, false, false, false, false, false] rfl rfl (by kernel_rfl) (fun _ _ _ h => h) (Or.inl ⟨by rfl, ?_⟩) ?_ ?_
          rotate_left
          · intro w'
            go_simp
            with_reducible rfl
          rotate_left
          · simp only [Act.put, List.setIfInBounds_toArray, List.set_cons_zero, List.set_cons_succ, i64_w, i32_w]
            rfl
          refine pure_ (i := 10) (N := some 42) (v := ?_) (a' := ?_) #[true, true, true, false, true, true, true, false, true, true, true, false, false, false, false, false, false] rfl rfl (by kernel_rfl) (fun _ _ _ h => h) (Or.inl ⟨by rfl, ?_⟩) ?_ ?_
          rotate_left
          · intro w'
            go_simp
            with_reducible rfl
          rotate_left
          · simp only [Act.put, List.setIfInBounds_toArray, List.set_cons_zero, List.set_cons_succ, i64_w, i32_w]
            rfl
          refine pure_ (i := 12) (N := some 44) (v := ?_) (a' := ?_) #[true, true, true, false, true, true, true, false, true, true, true, false, true, false, false, false, false] rfl rfl (by kernel_rfl) (fun _ _ _ h => h) (Or.inl ⟨by rfl, ?_⟩) ?_ ?_
          rotate_left
          · intro w'
            go_simp
            with_reducible rfl
          rotate_left
          · simp only [Act.put, List.setIfInBounds_toArray, List.set_cons_zero, List.set_cons_succ, i64_w, i32_w]
            rfl
          refine pure_ (i := 16) (N := some 48) (v := ?_) (a' := ?_) #[true, true, true, false, true, true, true, false, true, true, true, false, true, false, false, false, true] rfl rfl (by kernel_rfl) (fun _ _ _ h => h) (Or.inl ⟨by rfl, ?_⟩) ?_ ?_
          rotate_left
          · intro w'
            go_simp
            with_reducible rfl
          rotate_left
          · simp only [Act.put, List.setIfInBounds_toArray, List.set_cons_zero, List.set_cons_succ, i64_w, i32_w]
            rfl
          refine take_ (i := 3) (N := some 35) (v := ?_) (a' := ?_) #[true, true, true, true, true, true, true, false, true, true, true, false, true, false, false, false, true] rfl rfl (by kernel_rfl) (fun _ _ _ h => h) (Or.inl ⟨by rfl, ?_⟩) hHeld ?_ ?_
          rotate_left
          · rintro w' ⟨s0, s1⟩
            go_simp
            with_reducible rfl
          rotate_left
          · simp only [Act.put, List.setIfInBounds_toArray, List.set_cons_zero, List.set_cons_succ, i64_w, i32_w]
            rfl
          refine take_ (i := 7) (N := some 39) (v := ?_) (a' := ?_) #[true, true, true, true, true, true, true, true, true, true, true, false, true, false, false, false, true] rfl rfl (by kernel_rfl) (fun _ _ _ h => h) (Or.inl ⟨by rfl, ?_⟩) hHeld ?_ ?_
          rotate_left
          · rintro w' ⟨s0, s1⟩
            go_simp
            with_reducible rfl
          rotate_left
          · simp only [Act.put, List.setIfInBounds_toArray, List.set_cons_zero, List.set_cons_succ, i64_w, i32_w]
            rfl
          refine take_ (i := 11) (N := some 43) (v := ?_) (a' := ?_) #[true, true, true, true, true, true, true, true, true, true, true, true, true, false, false, false, true] rfl rfl (by kernel_rfl) (fun _ _ _ h => h) (Or.inl ⟨by rfl, ?_⟩) hHeld ?_ ?_
          rotate_left
          · rintro w' ⟨s0, s1⟩
            go_simp
            with_reducible rfl
          rotate_left
          · simp only [Act.put, List.setIfInBounds_toArray, List.set_cons_zero, List.set_cons_succ, i64_w, i32_w]
            rfl
          refine pure_ (i := 13) (N := some 45) (v := ?_) (a' := ?_) #[true, true, true, true, true, true, true, true, true, true, true, true, true, true, false, false, true] rfl rfl (by kernel_rfl) (fun _ _ _ h => h) (Or.inl ⟨by rfl, ?_⟩) ?_ ?_
          rotate_left
          · intro w'
            go_simp
            with_reducible rfl
          rotate_left
          · simp only [Act.put, List.setIfInBounds_toArray, List.set_cons_zero, List.set_cons_succ, i64_w, i32_w]
            rfl
          refine pure_ (i := 14) (N := some 46) (v := ?_) (a' := ?_) #[true, true, true, true, true, true, true, true, true, true, true, true, true, true, true, false, true] rfl rfl (by kernel_rfl) (fun _ _ _ h => h) (Or.inl ⟨by rfl, ?_⟩) ?_ ?_
          rotate_left
          · intro w'
            go_simp
            with_reducible rfl
          rotate_left
          · simp only [Act.put, List.setIfInBounds_toArray, List.set_cons_zero, List.set_cons_succ, i64_w, i32_w]
            rfl
          refine pure_ (i := 15) (N := some 47) (v := ?_) (a' := ?_) #[true, true, true, true, true, true, true, true, true, true, true, true, true, true, true, true, true] rfl rfl (by kernel_rfl) (fun _ _ _ h => h) (Or.inl ⟨by rfl, ?_⟩) ?_ ?_
          rotate_left
          · intro w'
            go_simp
            with_reducible rfl
          rotate_left
          · simp only [Act.put, List.setIfInBounds_toArray, List.set_cons_zero, List.set_cons_succ, i64_w, i32_w]
            rfl
          refine done_ (by kernel_rfl) ?_

          go_wp2_with fail
          go_loopg [5, 7, 48] m (fun kq v5 v7 v48 w' => ∃ (j : Nat) (x : Int), v5 = .int .u64 x ∧ v48 = .int .i64 (j : Int) ∧ j ≤ m ∧ Aside0 (kq = m - j) ∧ 0 ≤ x ∧ Aside0 (x < 256 ^ j) ∧ Aside0 (beNum (seg.drop j) x = r0) ∧ Aside0 (Drawn0 w w'))
          case atStart => exact ⟨0, 0, rfl, rfl, Nat.zero_le _, ⟨rfl⟩, Int.le_refl _, ⟨by decide⟩, ⟨HR0.out⟩, ⟨⟨nq + 1, rfl⟩⟩⟩
          case round =>
            obtain ⟨j, x, rfl, rfl, hj, hk, hx0, hx1, hx, hw'⟩ := hrel
            obtain ⟨nd, rfl⟩ := hw'.out
            by_cases hlt : j < m
            · obtain ⟨ad, hA, hcell⟩ := HRD.out.2.2 (by omega)
              subst hA
              have hc1 : (w.drewN nd).cell? (ad.add j) = some (.int .u8 (seg.getD j 0)) := hcell j hlt
              obtain ⟨cb, ecb⟩ : ∃ cb, seg.getD j 0 = cb := ⟨_, rfl⟩
              rw [ecb] at hc1
              clear hcell
              go_wp2
              go_roundg (m - (j + 1))
              case measure => have := hk.out; omega
              case rel =>
                have hcb : 0 ≤ cb ∧ cb ≤ 255 := by
                  rw [← ecb, List.getD_eq_getElem?_getD, List.getElem?_eq_getElem (by have := HSEG.out; omega)]
                  exact HSB.out _ (List.getElem_mem _)
                have hx2 : x < 281474976710656 := Int.lt_of_lt_of_le hx1.out (pow_le j (by omega))
                have ho := or_byte x cb hx0 (by omega) hcb.1 hcb.2
                refine ⟨j + 1, x * 256 + cb, by rw [ho], by simp, by omega, ⟨rfl⟩, by omega, ⟨?_⟩, ⟨?_⟩, ⟨⟨nd, rfl⟩⟩⟩
                · have h9 := hx1.out
                  rw [Int.pow_succ]
                  omega
                · have h9 := hx.out
                  rw [List.drop_eq_getElem_cons (by have := HSEG.out; omega)] at h9
                  have e9 : seg[j]'(by have := HSEG.out; omega) = cb := by
                    rw [← ecb, List.getD_eq_getElem?_getD, List.getElem?_eq_getElem (by have := HSEG.out; omega)]
                    rfl
                  rw [e9] at h9
                  exact h9
            · obtain rfl : j = m := by omega
              have hr9 : x = r0 := by
                have h9 := hx.out
                rw [List.drop_of_length_le (by have := HSEG.out; omega)] at h9
                exact h9
              subst hr9
              clear hlt
              have h9 : decide ((j : Int) < (j : Int)) = false := by simp
              go_wp2
              go_ret
              exact ⟨rfl, by repeat (first | (with_reducible first | exact HI0.out | apply IsS206.alloc | apply IsS206.drewN | apply IsS206.drew | apply IsS206.set_1 | apply IsS206.set_2) | exact HI0.out), by repeat (first | (with_reducible first | exact HB.out | apply below_alloc | apply pw_below_drewN | apply below_drew1 | refine below_set ?_ (IsS206.ge HI0.out)) | exact HB.out), by repeat (first | (with_reducible first | exact HK.out | apply KeepBut.set_ | apply keep_drewN | apply keep_drew | apply keep_alloc) | exact HK.out)⟩
        · rw [if_neg hb] at h
          cases h
    · rw [if_neg he] at h
      simp only [Option.some.injEq, Prod.mk.injEq] at h
      obtain ⟨rfl, rfl, rfl⟩ := h
      have hd : (s0_2 != 0) = true := bne_iff_ne.mpr he
      have hd1 : (s0_2 == 0) = false := beq_eq_false_iff_ne.mpr he
      clear he
      go_enter Try.func193, Try.ntmps193
      go_wp2
      repeat (go_quiet (fail); try go_wp2)
      go_ret
      exact ⟨rfl, by repeat (first | (with_reducible first | exact HI0.out | apply IsS206.alloc | apply IsS206.drewN | apply IsS206.drew) | exact HI0.out), by repeat (first | (with_reducible first | exact HB.out | apply below_alloc | apply pw_below_drewN | apply below_drew1) | exact HB.out), by repeat (first | (with_reducible first | exact HK.out | apply KeepBut.set_ | apply keep_drewN | apply keep_drew | apply keep_alloc) | exact HK.out)⟩
  · rw [if_neg hr] at h
    cases h
end Go.Proofs.Ytfdemnefkfkghaa.X
/- Functions of the program as Lean functions, and that their calls come to them: written by xprint.py of this session, out of the kit's print program. -/
namespace Go.Proofs.Ytfdemnefkfkghaa.X
open Go.RowKit Go.Proofs.YtfdemnefkfkghaaW.PrintWords Go.Proofs.YtfdemnefkfkghaaW.PrintLast Go.Proofs.YtfdemnefkfkghaaW.PrintMore
attribute [local go_sem] max2_int min2_int max_two min_two max_three min_three max_four min_four   -- for this text's walks alone
attribute [local go_sem high] Go.Proofs.Ytfdemnefkfkghaa.XW.leq Go.Proofs.Ytfdemnefkfkghaa.XW.gtr Go.Proofs.Ytfdemnefkfkghaa.XW.geq
set_option linter.unusedVariables false
set_option linter.unusedSimpArgs false

/-! ### pack_Reader_Get8: function 143 -/
def pack_Reader_Get8.f (s0_0 : List Int) (s0_1 : Int) (s0_2 : Int) : Option (Int × Int × Int) := (pack_Reader_take.f s0_0 s0_1 s0_2 1).bind fun bt101 => (some ((bt101.1) % 256, bt101.2.1, bt101.2.2))
set_option maxHeartbeats 8000000 in
set_option maxRecDepth 100000 in
theorem pack_Reader_Get8.calls (g : Nat) (s0_0 : List Int) (s0_1 : Int) (s0_2 : Int) (r1 : Int) (r2 : Int) (r3 : Int) (w0 w : World) (hI : IsS206 w0 w g s0_0 s0_1 s0_2) (hB : Below w0.heap.size w0 w) (h : pack_Reader_Get8.f s0_0 s0_1 s0_2 = some (r1, r2, r3)) :
    Calls Try.prog 143 #[.pointer (some ⟨g, 0, none⟩)] w fun e w' => e = .returned (.int .u8 r1) ∧ IsS206 w0 w' g s0_0 r2 r3 ∧ Below w0.heap.size w0 w' ∧ KeepBut w w' g none := by
  have HI0 := Aside0.mk hI
  have HK := Aside0.mk (KeepBut.refl w g none)
  have HL := Aside0.mk hB.size
  clear hI
  have HW0 := Aside0.mk hB.size
  have HB := Aside0.mk hB
  clear hB
  have H : ((pack_Reader_take.f s0_0 s0_1 s0_2 1).bind fun bt101 => (some ((bt101.1) % 256, bt101.2.1, bt101.2.2))) = some (r1, r2, r3) := h
  clear h
  replace H := Option.bind_eq_some_iff.mp H
  obtain ⟨⟨t101, t102, t103⟩, A20, H⟩ := H
  replace H : (some ((t101) % 256, t102, t103)) = some (r1, r2, r3) := H
  have A2 := Aside0.mk A20
  clear A20
  simp only [Option.some.injEq, Prod.mk.injEq] at H
  obtain ⟨rfl, rfl, rfl⟩ := H
  go_enter Try.func143, Try.ntmps143
  go_wp2_with (first | ((with_reducible refine gate_callee (f := 193) rfl ?_); refine goesL_ (some 4) rfl rfl Try.func193 (by kernel_rfl) rfl #[.pointer (some ⟨g, 0, none⟩), .int .i64 1] rfl (by (try simp only [List.map_toArray, List.map_cons, List.map_nil]); first | done | rfl | (simp only [List.length_drop, List.length_take]; rfl)) ?_; (with_reducible refine (pack_Reader_take.calls g s0_0 s0_1 s0_2 1 t101 t102 t103 w0 _ ?side1 ?side2 A2.out).mono ?_); (case side1 => repeat (first | (with_reducible first | exact HI0.out | apply IsS206.alloc | apply IsS206.drewN | apply IsS206.drew | apply IsS206.set_1 | apply IsS206.set_2) | exact HI0.out)); (case side2 => repeat (first | (with_reducible first | exact HB.out | apply below_alloc | apply pw_below_drewN | apply below_drew1 | refine below_set ?_ (IsS206.ge HI0.out)) | exact HB.out)); rintro e w3 ⟨rfl, hi, hb, hk⟩; refine ⟨_, rfl, ?_⟩; have n0_ := Aside0.mk (KeepBut.trans (by repeat (first | (with_reducible first | exact HK.out | apply KeepBut.set_ | apply keep_drewN | apply keep_drew | apply keep_alloc) | exact HK.out)) hk (.inl rfl)); have n1_ := Aside0.mk (hb); have n2_ := Aside0.mk (hi); clear HK; clear HB; clear HI0; have HK := n0_; have HB := n1_; have HI0 := n2_; clear n0_ n1_ n2_; (try clear hb); (try clear hb2); (try clear hk); (try clear hi)))
  go_ret
  exact ⟨by first | rfl | (simp [errW_none, errW_some] <;> rfl) | (simp [*, errW_none, errW_some] <;> rfl), by repeat (first | (with_reducible first | exact HI0.out | apply IsS206.alloc | apply IsS206.drewN | apply IsS206.drew | apply IsS206.set_1 | apply IsS206.set_2) | exact HI0.out), by repeat (first | (with_reducible first | exact HB.out | apply below_alloc | apply pw_below_drewN | apply below_drew1 | refine below_set ?_ (IsS206.ge HI0.out)) | exact HB.out), by repeat (first | (with_reducible first | exact HK.out | apply KeepBut.set_ | apply keep_drewN | apply keep_drew | apply keep_alloc) | exact HK.out)⟩

end Go.Proofs.Ytfdemnefkfkghaa.X
/- Functions of the program as Lean functions, and that their calls come to them: written by xprint.py of this session, out of the kit's print program. -/
namespace Go.Proofs.Ytfdemnefkfkghaa.X
open Go.RowKit Go.Proofs.YtfdemnefkfkghaaW.PrintWords Go.Proofs.YtfdemnefkfkghaaW.PrintLast Go.Proofs.YtfdemnefkfkghaaW.PrintMore
attribute [local go_sem] max2_int min2_int max_two min_two max_three min_three max_four min_four   -- for this text's walks alone
attribute [local go_sem high] Go.Proofs.Ytfdemnefkfkghaa.XW.leq Go.Proofs.Ytfdemnefkfkghaa.XW.gtr Go.Proofs.Ytfdemnefkfkghaa.XW.geq
set_option linter.unusedVariables false
set_option linter.unusedSimpArgs false

/-! ### pack_Reader_Fail: function 144 -/
def pack_Reader_Fail.f (s0_0 : List Int) (s0_1 : Int) (s0_2 : Int) (a1 : Int) : Option (Int × Int) := if s0_2 = 0 then (some (s0_1, a1)) else (some (s0_1, s0_2))
set_option maxHeartbeats 8000000 in
set_option maxRecDepth 100000 in
theorem pack_Reader_Fail.calls (g : Nat) (s0_0 : List Int) (s0_1 : Int) (s0_2 : Int) (a1 : Int) (r1 : Int) (r2 : Int) (w0 w : World) (hI : IsS206 w0 w g s0_0 s0_1 s0_2) (hB : Below w0.heap.size w0 w) (h : pack_Reader_Fail.f s0_0 s0_1 s0_2 a1 = some (r1, r2)) :
    Calls Try.prog 144 #[.pointer (some ⟨g, 0, none⟩), .int .i64 a1] w fun e w' => e = .returned (.tuple #[]) ∧ IsS206 w0 w' g s0_0 r1 r2 ∧ Below w0.heap.size w0 w' ∧ KeepBut w w' g none := by
  have HI0 := Aside0.mk hI
  have HK := Aside0.mk (KeepBut.refl w g none)
  have HL := Aside0.mk hB.size
  clear hI
  have HW0 := Aside0.mk hB.size
  have HB := Aside0.mk hB
  clear hB
  have H : (if s0_2 = 0 then (some (s0_1, a1)) else (some (s0_1, s0_2))) = some (r1, r2) := h
  clear h
  by_cases c3 : s0_2 = 0
  · rw [if_pos c3] at H
    have c3b0 : (s0_2 == 0) = true := beq_iff_eq.mpr c3
    have c3b1 : (s0_2 != 0) = false := bne_eq_false_iff_eq.mpr c3
    clear c3
    simp only [Option.some.injEq, Prod.mk.injEq] at H
    obtain ⟨rfl, rfl⟩ := H
    obtain ⟨ASz4_0, cSz4_0, HGz4, hgz4, HSz4_0⟩ := HI0.out
    have hcz4_0 := cellS206_0 HGz4
    have hcz4_1 := cellS206_1 HGz4
    have hcz4_2 := cellS206_2 HGz4
    have hfz4_1 := blk_frozen HGz4 1
    have hfz4_2 := blk_frozen HGz4 2
    clear HGz4 hgz4
    go_enter Try.func144, Try.ntmps144
    go_wp2
    first | go_end0 | ((try simp only [Exit.inBlock, Exit.then]); refine bodyPost_ret (results_none rfl _ _ _) rfl ?_)
    exact ⟨by first | rfl | (simp [errW_none, errW_some] <;> rfl) | (simp [*, errW_none, errW_some] <;> rfl), by repeat (first | (with_reducible first | exact HI0.out | apply IsS206.alloc | apply IsS206.drewN | apply IsS206.drew | apply IsS206.set_1 | apply IsS206.set_2) | exact HI0.out), by repeat (first | (with_reducible first | exact HB.out | apply below_alloc | apply pw_below_drewN | apply below_drew1 | refine below_set ?_ (IsS206.ge HI0.out)) | exact HB.out), by repeat (first | (with_reducible first | exact HK.out | apply KeepBut.set_ | apply keep_drewN | apply keep_drew | apply keep_alloc) | exact HK.out)⟩
  · rw [if_neg c3] at H
    have c3b0 : (s0_2 == 0) = false := beq_eq_false_iff_ne.mpr c3
    have c3b1 : (s0_2 != 0) = true := bne_iff_ne.mpr c3
    simp only [Option.some.injEq, Prod.mk.injEq] at H
    obtain ⟨rfl, rfl⟩ := H
    obtain ⟨ASz5_0, cSz5_0, HGz5, hgz5, HSz5_0⟩ := HI0.out
    have hcz5_0 := cellS206_0 HGz5
    have hcz5_1 := cellS206_1 HGz5
    have hcz5_2 := cellS206_2 HGz5
    have hfz5_1 := blk_frozen HGz5 1
    have hfz5_2 := blk_frozen HGz5 2
    clear HGz5 hgz5
    go_enter Try.func144, Try.ntmps144
    go_wp2
    first | go_end0 | ((try simp only [Exit.inBlock, Exit.then]); refine bodyPost_ret (results_none rfl _ _ _) rfl ?_)
    exact ⟨by first | rfl | (simp [errW_none, errW_some] <;> rfl) | (simp [*, errW_none, errW_some] <;> rfl), by repeat (first | (with_reducible first | exact HI0.out | apply IsS206.alloc | apply IsS206.drewN | apply IsS206.drew | apply IsS206.set_1 | apply IsS206.set_2) | exact HI0.out), by repeat (first | (with_reducible first | exact HB.out | apply below_alloc | apply pw_below_drewN | apply below_drew1 | refine below_set ?_ (IsS206.ge HI0.out)) | exact HB.out), by repeat (first | (with_reducible first | exact HK.out | apply KeepBut.set_ | apply keep_drewN | apply keep_drew | apply keep_alloc) | exact HK.out)⟩

end Go.Proofs.Ytfdemnefkfkghaa.X
/- Functions of the program as Lean functions, and that their calls come to them: written by xprint.py of this session, out of the kit's print program. -/
namespace Go.Proofs.Ytfdemnefkfkghaa.X
open Go.RowKit Go.Proofs.YtfdemnefkfkghaaW.PrintWords Go.Proofs.YtfdemnefkfkghaaW.PrintLast Go.Proofs.YtfdemnefkfkghaaW.PrintMore
attribute [local go_sem] max2_int min2_int max_two min_two max_three min_three max_four min_four   -- for this text's walks alone
attribute [local go_sem high] Go.Proofs.Ytfdemnefkfkghaa.XW.leq Go.Proofs.Ytfdemnefkfkghaa.XW.gtr Go.Proofs.Ytfdemnefkfkghaa.XW.geq
set_option linter.unusedVariables false
set_option linter.unusedSimpArgs false

/-! ### pack_Reader_Get32: function 146 -/
def pack_Reader_Get32.f (s0_0 : List Int) (s0_1 : Int) (s0_2 : Int) : Option (Int × Int × Int) := (pack_Reader_take.f s0_0 s0_1 s0_2 4).bind fun bt101 => (some ((bt101.1) % 4294967296, bt101.2.1, bt101.2.2))
set_option maxHeartbeats 8000000 in
set_option maxRecDepth 100000 in
theorem pack_Reader_Get32.calls (g : Nat) (s0_0 : List Int) (s0_1 : Int) (s0_2 : Int) (r1 : Int) (r2 : Int) (r3 : Int) (w0 w : World) (hI : IsS206 w0 w g s0_0 s0_1 s0_2) (hB : Below w0.heap.size w0 w) (h : pack_Reader_Get32.f s0_0 s0_1 s0_2 = some (r1, r2, r3)) :
    Calls Try.prog 146 #[.pointer (some ⟨g, 0, none⟩)] w fun e w' => e = .returned (.int .u32 r1) ∧ IsS206 w0 w' g s0_0 r2 r3 ∧ Below w0.heap.size w0 w' ∧ KeepBut w w' g none := by
  have HI0 := Aside0.mk hI
  have HK := Aside0.mk (KeepBut.refl w g none)
  have HL := Aside0.mk hB.size
  clear hI
  have HW0 := Aside0.mk hB.size
  have HB := Aside0.mk hB
  clear hB
  have H : ((pack_Reader_take.f s0_0 s0_1 s0_2 4).bind fun bt101 => (some ((bt101.1) % 4294967296, bt101.2.1, bt101.2.2))) = some (r1, r2, r3) := h
  clear h
  replace H := Option.bind_eq_some_iff.mp H
  obtain ⟨⟨t101, t102, t103⟩, A20, H⟩ := H
  replace H : (some ((t101) % 4294967296, t102, t103)) = some (r1, r2, r3) := H
  have A2 := Aside0.mk A20
  clear A20
  simp only [Option.some.injEq, Prod.mk.injEq] at H
  obtain ⟨rfl, rfl, rfl⟩ := H
  go_enter Try.func146, Try.ntmps146
  go_wp2_with (first | ((with_reducible refine gate_callee (f := 193) rfl ?_); refine goesL_ (some 4) rfl rfl Try.func193 (by kernel_rfl) rfl #[.pointer (some ⟨g, 0, none⟩), .int .i64 4] rfl (by (try simp only [List.map_toArray, List.map_cons, List.map_nil]); first | done | rfl | (simp only [List.length_drop, List.length_take]; rfl)) ?_; (with_reducible refine (pack_Reader_take.calls g s0_0 s0_1 s0_2 4 t101 t102 t103 w0 _ ?side1 ?side2 A2.out).mono ?_); (case side1 => repeat (first | (with_reducible first | exact HI0.out | apply IsS206.alloc | apply IsS206.drewN | apply IsS206.drew | apply IsS206.set_1 | apply IsS206.set_2) | exact HI0.out)); (case side2 => repeat (first | (with_reducible first | exact HB.out | apply below_alloc | apply pw_below_drewN | apply below_drew1 | refine below_set ?_ (IsS206.ge HI0.out)) | exact HB.out)); rintro e w3 ⟨rfl, hi, hb, hk⟩; refine ⟨_, rfl, ?_⟩; have n0_ := Aside0.mk (KeepBut.trans (by repeat (first | (with_reducible first | exact HK.out | apply KeepBut.set_ | apply keep_drewN | apply keep_drew | apply keep_alloc) | exact HK.out)) hk (.inl rfl)); have n1_ := Aside0.mk (hb); have n2_ := Aside0.mk (hi); clear HK; clear HB; clear HI0; have HK := n0_; have HB := n1_; have HI0 := n2_; clear n0_ n1_ n2_; (try clear hb); (try clear hb2); (try clear hk); (try clear hi)))
  go_ret
  exact ⟨by first | rfl | (simp [errW_none, errW_some] <;> rfl) | (simp [*, errW_none, errW_some] <;> rfl), by repeat (first | (with_reducible first | exact HI0.out | apply IsS206.alloc | apply IsS206.drewN | apply IsS206.drew | apply IsS206.set_1 | apply IsS206.set_2) | exact HI0.out), by repeat (first | (with_reducible first | exact HB.out | apply below_alloc | apply pw_below_drewN | apply below_drew1 | refine below_set ?_ (IsS206.ge HI0.out)) | exact HB.out), by repeat (first | (with_reducible first | exact HK.out | apply KeepBut.set_ | apply keep_drewN | apply keep_drew | apply keep_alloc) | exact HK.out)⟩

end Go.Proofs.Ytfdemnefkfkghaa.X
/- Functions of the program as Lean functions, and that their calls come to them: written by xprint.py of this session, out of the kit's print program. -/
namespace Go.Proofs.Ytfdemnefkfkghaa.X
open Go.RowKit Go.Proofs.YtfdemnefkfkghaaW.PrintWords Go.Proofs.YtfdemnefkfkghaaW.PrintLast Go.Proofs.YtfdemnefkfkghaaW.PrintMore
attribute [local go_sem] max2_int min2_int max_two min_two max_three min_three max_four min_four   -- for this text's walks alone
attribute [local go_sem high] Go.Proofs.Ytfdemnefkfkghaa.XW.leq Go.Proofs.Ytfdemnefkfkghaa.XW.gtr Go.Proofs.Ytfdemnefkfkghaa.XW.geq
set_option linter.unusedVariables false
set_option linter.unusedSimpArgs false

/-! ### pack_Reader_Left: function 147 -/
def pack_Reader_Left.f (s0_0 : List Int) (s0_1 : Int) (s0_2 : Int) : Option (Int × Int × Int) := some (wrap64 ((s0_0.length : Int) - s0_1), s0_1, s0_2)
set_option maxHeartbeats 8000000 in
set_option maxRecDepth 100000 in
theorem pack_Reader_Left.calls (g : Nat) (s0_0 : List Int) (s0_1 : Int) (s0_2 : Int) (r1 : Int) (r2 : Int) (r3 : Int) (w0 w : World) (hI : IsS206 w0 w g s0_0 s0_1 s0_2) (hB : Below w0.heap.size w0 w) (h : pack_Reader_Left.f s0_0 s0_1 s0_2 = some (r1, r2, r3)) :
    Calls Try.prog 147 #[.pointer (some ⟨g, 0, none⟩)] w fun e w' => e = .returned (.int .i64 r1) ∧ IsS206 w0 w' g s0_0 r2 r3 ∧ Below w0.heap.size w0 w' ∧ KeepBut w w' g none := by
  have HI0 := Aside0.mk hI
  have HK := Aside0.mk (KeepBut.refl w g none)
  have HL := Aside0.mk hB.size
  clear hI
  have HW0 := Aside0.mk hB.size
  have HB := Aside0.mk hB
  clear hB
  have H : (some (wrap64 ((s0_0.length : Int) - s0_1), s0_1, s0_2)) = some (r1, r2, r3) := h
  clear h
  simp only [Option.some.injEq, Prod.mk.injEq] at H
  obtain ⟨rfl, rfl, rfl⟩ := H
  obtain ⟨ASz2_0, cSz2_0, HGz2, hgz2, HSz2_0⟩ := HI0.out
  have hcz2_0 := cellS206_0 HGz2
  have hcz2_1 := cellS206_1 HGz2
  have hcz2_2 := cellS206_2 HGz2
  have hfz2_1 := blk_frozen HGz2 1
  have hfz2_2 := blk_frozen HGz2 2
  clear HGz2 hgz2
  go_enter Try.func147, Try.ntmps147
  go_wp2
  repeat (go_quiet (fail); try go_wp2)
  go_ret
  exact ⟨by first | rfl | (simp [errW_none, errW_some] <;> rfl) | (simp [*, errW_none, errW_some] <;> rfl), by repeat (first | (with_reducible first | exact HI0.out | apply IsS206.alloc | apply IsS206.drewN | apply IsS206.drew | apply IsS206.set_1 | apply IsS206.set_2) | exact HI0.out), by repeat (first | (with_reducible first | exact HB.out | apply below_alloc | apply pw_below_drewN | apply below_drew1 | refine below_set ?_ (IsS206.ge HI0.out)) | exact HB.out), by repeat (first | (with_reducible first | exact HK.out | apply KeepBut.set_ | apply keep_drewN | apply keep_drew | apply keep_alloc) | exact HK.out)⟩

end Go.Proofs.Ytfdemnefkfkghaa.X
/- The reader's text. -/
namespace Go.Proofs.Ytfdemnefkfkghaa.X
open Go.RowKit Go.Proofs.YtfdemnefkfkghaaW.PrintWords Go.Proofs.YtfdemnefkfkghaaW.PrintLast Go.Proofs.YtfdemnefkfkghaaW.PrintMore
attribute [local go_sem] max2_int min2_int max_two min_two
set_option linter.unusedVariables false
set_option linter.unusedSimpArgs false

def pack_Reader_GetText.f (b : List Int) (at_ : Int) (e : Int) (a1 : Int) : Option (ByteArray × Int × Int) :=
  if 0 ≤ at_ ∧ at_ ≤ b.length then
    (if e = 0 then
      (if at_ = b.length then some (⟨#[]⟩, at_, 2)
      else if ∀ c ∈ b, 0 ≤ c ∧ c ≤ 255 then
        (if mx a1 0 < rd b at_ then some (⟨#[]⟩, at_, 4)
        else if b.length - (at_ + 1) < rd b at_ then some (⟨#[]⟩, at_, 2)
        else some (strOfNums ((b.take (at_ + 1 + rd b at_).toNat).drop (at_ + 1).toNat), at_ + 1 + rd b at_, 0))
      else none)
    else some (⟨#[]⟩, at_, e))
  else none

set_option maxHeartbeats 8000000 in
set_option maxRecDepth 100000 in
theorem pack_Reader_GetText.calls (g : Nat) (b : List Int) (at_ : Int) (e : Int) (a1 : Int) (r0 : ByteArray) (r1 : Int) (r2 : Int) (w0 w : World) (hI : IsS206 w0 w g b at_ e) (hB : Below w0.heap.size w0 w) (h : pack_Reader_GetText.f b at_ e a1 = some (r0, r1, r2)) :
    Calls Try.prog 145 #[.pointer (some ⟨g, 0, none⟩), .int .i64 a1] w fun e w' => e = .returned (.string r0) ∧ IsS206 w0 w' g b r1 r2 ∧ Below w0.heap.size w0 w' ∧ KeepBut w w' g none := by
  have HI := Aside0.mk hI
  have HB := Aside0.mk hB
  unfold pack_Reader_GetText.f at h
  obtain ⟨A, c, HG, hg, HS⟩ := hI
  have hcw0 := cellS206_0 HG
  have hcw1 := cellS206_1 HG
  have hcw2 := cellS206_2 HG
  have hlen : b.length ≤ 9223372036854775807 := HS.1.2.1
  clear HG hg HS hB
  by_cases hr : 0 ≤ at_ ∧ at_ ≤ b.length
  · rw [if_pos hr] at h
    obtain ⟨h0, h1⟩ := hr
    by_cases he : e = 0
    · rw [if_pos he] at h
      by_cases hend : at_ = b.length
      · rw [if_pos hend] at h
        simp only [Option.some.injEq, Prod.mk.injEq] at h
        obtain ⟨rfl, rfl, rfl⟩ := h
        have HT : Aside0 (pack_Reader_take.f b at_ e 1 = some (0, at_, 2)) := ⟨by
          unfold pack_Reader_take.f
          rw [if_pos (by omega), if_pos he, if_pos (by omega)]⟩
        clear he hend
        go_enter Try.func145, Try.ntmps145
        go_wp2_with (first | (go_at_call 193; (with_reducible refine (pack_Reader_take.calls g b at_ _ 1 0 at_ 2 w0 _ ?s1 ?s2 HT.out).mono ?_); (case s1 => exact HI.out); (case s2 => exact HB.out); rintro x w1 ⟨rfl, hI1, hB1, hK1⟩; have HI1 := Aside0.mk hI1; have HK := Aside0.mk hK1; clear HB; have HB := Aside0.mk hB1; obtain ⟨A, c, HG, hg, HS⟩ := hI1; have hcz0 := cellS206_0 HG; have hcz1 := cellS206_1 HG; have hcz2 := cellS206_2 HG; have hfz1 := blk_frozen HG 1; have hfz2 := blk_frozen HG 2; have HSA := Aside0.mk HS; have HGA := Aside0.mk HG; clear HG hg HS hB1 hK1 HI))
        go_ret
        exact ⟨rfl, by repeat (first | (with_reducible first | exact HI1.out | apply IsS206.alloc | apply IsS206.drewN | apply IsS206.drew | apply IsS206.set_1 | apply IsS206.set_2) | exact HI1.out), by repeat (first | (with_reducible first | exact HB.out | apply below_alloc | apply pw_below_drewN | apply below_drew1 | refine below_set ?_ (IsS206.ge HI1.out)) | exact HB.out), by repeat (first | (with_reducible first | exact HK.out | apply KeepBut.set_ | apply keep_drewN | apply keep_drew | apply keep_alloc) | exact HK.out)⟩
      · rw [if_neg hend] at h
        by_cases hb : ∀ c ∈ b, 0 ≤ c ∧ c ≤ 255
        · rw [if_pos hb] at h
          have hlt : at_ < b.length := by omega
          have hv : rd b at_ = b[at_.toNat]'(by omega) := by
            unfold rd
            rw [List.getD_eq_getElem?_getD, List.getElem?_eq_getElem (by omega)]
            rfl
          have hvb := hb _ (List.getElem_mem (h := (by omega : at_.toNat < b.length)))
          rw [← hv] at hvb
          obtain ⟨v, ev⟩ : ∃ v, rd b at_ = v := ⟨_, rfl⟩
          have HT : Aside0 (pack_Reader_take.f b at_ e 1 = some (v, at_ + 1, e)) := ⟨by
            unfold pack_Reader_take.f
            rw [if_pos (by omega), if_pos he, if_neg (by omega), if_pos hb]
            have e1 : (at_ + 1).toNat = at_.toNat + 1 := by omega
            have e2 : (b.take (at_ + 1).toNat).drop at_.toNat = [v] := by
              rw [e1, List.drop_take, show at_.toNat + 1 - at_.toNat = 1 by omega, List.drop_eq_getElem_cons (by omega)]
              simp only [List.take_succ_cons, List.take_zero]
              rw [← ev, hv]
            rw [e2]
            simp only [beNum]
            rw [show (0 : Int) * 256 + v = v by omega]⟩
          rw [ev] at h hvb
          obtain ⟨hv0, hv1⟩ := hvb
          subst he
          have hmm : (if a1 < 0 then 0 else a1) = mx a1 0 := by unfold mx; rfl
          obtain ⟨mm, em⟩ : ∃ mm, mx a1 0 = mm := ⟨_, rfl⟩
          rw [em] at hmm h
          clear hv ev em
          by_cases hm : mm < v
          · rw [if_pos hm] at h
            simp only [Option.some.injEq, Prod.mk.injEq] at h
            obtain ⟨rfl, rfl, rfl⟩ := h
            have hd : decide (mm < v) = true := decide_eq_true hm
            clear hm hb hend
            go_enter Try.func145, Try.ntmps145
            go_wp2_with (first | (go_at_call 193; (with_reducible refine (pack_Reader_take.calls g b at_ _ 1 v (at_ + 1) 0 w0 _ ?s1 ?s2 HT.out).mono ?_); (case s1 => exact HI.out); (case s2 => exact HB.out); rintro x w1 ⟨rfl, hI1, hB1, hK1⟩; have HI1 := Aside0.mk hI1; have HK := Aside0.mk hK1; clear HB; have HB := Aside0.mk hB1; obtain ⟨A, c, HG, hg, HS⟩ := hI1; have hcz0 := cellS206_0 HG; have hcz1 := cellS206_1 HG; have hcz2 := cellS206_2 HG; have hfz1 := blk_frozen HG 1; have hfz2 := blk_frozen HG 2; have HSA := Aside0.mk HS; have HGA := Aside0.mk HG; clear HG hg HS hB1 hK1 HI))
            go_ret
            exact ⟨rfl, by repeat (first | (with_reducible first | exact HI1.out | apply IsS206.alloc | apply IsS206.drewN | apply IsS206.drew | apply IsS206.set_1 | apply IsS206.set_2) | exact HI1.out), by repeat (first | (with_reducible first | exact HB.out | apply below_alloc | apply pw_below_drewN | apply below_drew1 | refine below_set ?_ (IsS206.ge HI1.out)) | exact HB.out), by repeat (first | (with_reducible first | exact HK.out | apply KeepBut.set_ | apply keep_drewN | apply keep_drew | apply keep_alloc) | exact HK.out)⟩
          · rw [if_neg hm] at h
            have hd : decide (mm < v) = false := decide_eq_false hm
            by_cases hn : b.length - (at_ + 1) < v
            · rw [if_pos hn] at h
              simp only [Option.some.injEq, Prod.mk.injEq] at h
              obtain ⟨rfl, rfl, rfl⟩ := h
              have hd2 : decide ((b.length : Int) - (at_ + 1) < v) = true := decide_eq_true hn
              clear hm hb hend hn
              go_enter Try.func145, Try.ntmps145
              go_wp2_with (first | (go_at_call 193; (with_reducible refine (pack_Reader_take.calls g b at_ _ 1 v (at_ + 1) 0 w0 _ ?s1 ?s2 HT.out).mono ?_); (case s1 => exact HI.out); (case s2 => exact HB.out); rintro x w1 ⟨rfl, hI1, hB1, hK1⟩; have HI1 := Aside0.mk hI1; have HK := Aside0.mk hK1; clear HB; have HB := Aside0.mk hB1; obtain ⟨A, c, HG, hg, HS⟩ := hI1; have hcz0 := cellS206_0 HG; have hcz1 := cellS206_1 HG; have hcz2 := cellS206_2 HG; have hfz1 := blk_frozen HG 1; have hfz2 := blk_frozen HG 2; have HSA := Aside0.mk HS; have HGA := Aside0.mk HG; clear HG hg HS hB1 hK1 HI))
              repeat (go_quiet (fail); try go_wp2)
              go_ret
              exact ⟨rfl, by repeat (first | (with_reducible first | exact HI1.out | apply IsS206.alloc | apply IsS206.drewN | apply IsS206.drew | apply IsS206.set_1 | apply IsS206.set_2) | exact HI1.out), by repeat (first | (with_reducible first | exact HB.out | apply below_alloc | apply pw_below_drewN | apply below_drew1 | refine below_set ?_ (IsS206.ge HI1.out)) | exact HB.out), by repeat (first | (with_reducible first | exact HK.out | apply KeepBut.set_ | apply keep_drewN | apply keep_drew | apply keep_alloc) | exact HK.out)⟩
            · rw [if_neg hn] at h
              simp only [Option.some.injEq, Prod.mk.injEq] at h
              obtain ⟨hr0, rfl, rfl⟩ := h
              have hd2 : decide ((b.length : Int) - (at_ + 1) < v) = false := decide_eq_false hn
              obtain ⟨i0, hi, hzz⟩ := Option.map_eq_some_iff.1 info5
              simp only [Prod.mk.injEq] at hzz
              have hle : at_ + 1 + v ≤ (b.length : Int) := by omega
              have hw1 : wrap64 (at_ + 1 + v) = at_ + 1 + v := by unfold wrap64; omega
              have hw2 : wrap64 (at_ + 1 + v - v) = at_ + 1 := by unfold wrap64; omega
              have hw4 : wrap64 (at_ + 1) = at_ + 1 := by unfold wrap64; omega
              have hw3 : at_ + 1 + v - v = at_ + 1 := by omega
              have HR0 := Aside0.mk hr0
              have HZ := Aside0.mk hzz.2.1
              have HII := Aside0.mk hi
              clear hm hb hend hn hr0 hi hzz hlt
              go_enter Try.func145, Try.ntmps145
              go_wp2_with (first | (go_at_call 193; (with_reducible refine (pack_Reader_take.calls g b at_ _ 1 v (at_ + 1) 0 w0 _ ?s1 ?s2 HT.out).mono ?_); (case s1 => exact HI.out); (case s2 => exact HB.out); rintro x w1 ⟨rfl, hI1, hB1, hK1⟩; have HI1 := Aside0.mk hI1; have HK := Aside0.mk hK1; clear HB; have HB := Aside0.mk hB1; obtain ⟨A, c, HG, hg, HS⟩ := hI1; have hcz0 := cellS206_0 HG; have hcz1 := cellS206_1 HG; have hcz2 := cellS206_2 HG; have hfz1 := blk_frozen HG 1; have hfz2 := blk_frozen HG 2; have HSA := Aside0.mk HS; have HGA := Aside0.mk HG; clear HG hg HS hB1 hK1 HI))
              go_quiet (fail)
              go_wp2
              obtain ⟨A', hsl, hre, hcap⟩ := print_mid_int (k := .u8) (P := Try.prog) 31 5 Try.underlying31 HII.out HZ.out A c b (at_ + 1) (at_ + 1 + v) (by omega) (by omega) hle HSA.out.2
              obtain ⟨seg, es⟩ : ∃ seg, (b.take (at_ + 1 + v).toNat).drop (at_ + 1).toNat = seg := ⟨_, rfl⟩
              rw [es] at hsl hre
              have HR1 : Aside0 (strOfNums seg = r0) := ⟨by rw [← es]; exact HR0.out⟩
              obtain ⟨cc, ec⟩ : ∃ cc, c - (at_ + 1).toNat = cc := ⟨_, rfl⟩
              rw [ec] at hsl
              have HRE := Aside0.mk hre
              clear hre hcap es ec
              refine start_ (n := 17) (S := fun w' => w'.cell? ⟨g, 0, none⟩ = some (.slice A b.length c) ∧ w'.cell? ⟨g, 1, none⟩ = some (.int .i64 (at_ + 1 + v)) ∧ (convert 31 9 (.slice A' seg.length cc)).run Try.prog w' = .ok (.string (strOfNums seg)) w') (ds := []) #[false, false, false, false, false, false, false, false, false, false, false, false, false, false, false, false, false] (by kernel_rfl) rfl rfl ⟨((blk_cell (blk_put (cs := #[.slice A b.length c, .int .i64 (at_ + 1), .int .i64 0]) HGA.out 1 (.int .i64 (at_ + 1 + v)) rfl) 0).trans rfl), ((blk_cell (blk_put (cs := #[.slice A b.length c, .int .i64 (at_ + 1), .int .i64 0]) HGA.out 1 (.int .i64 (at_ + 1 + v)) rfl) 1).trans rfl), (string_of_reads (A := A') (n := seg.length) (c := cc) Try.underlying31 Try.underlying5 Try.underlying9 (HRE.out _ (Kd.reads_of_C (enc := Value.int .u8) (d := (0 : Int)) (h1 := fun _ => rfl) (Kd.C_below HSA.out.1 (by repeat (first | (with_reducible first | exact HB.out | apply below_alloc | apply pw_below_drewN | apply below_drew1 | refine below_set ?_ (IsS206.ge HI1.out)) | exact HB.out))))))⟩ (fun hHeld => ?_)
              refine pure_ (i := 0) (N := some 63) (v := ?_) (a' := ?_) #[true, false, false, false, false, false, false, false, false, false, false, false, false, false, false, false, false] rfl rfl (by kernel_rfl) (fun _ _ _ h => h) (Or.inl ⟨by rfl, ?_⟩) ?_ ?_
              rotate_left
              · intro w'
                go_simp
                with_reducible rfl
              rotate_left
              · simp only [Act.put, List.setIfInBounds_toArray, List.set_cons_zero, List.set_cons_succ, i64_w, i32_w]
                rfl
              refine pure_ (i := 1) (N := some 64) (v := ?_) (a' := ?_) #[true, true, false, false, false, false, false, false, false, false, false, false, false, false, false, false, false] rfl rfl (by kernel_rfl) (fun _ _ _ h => h) (Or.inl ⟨by rfl, ?_⟩) ?_ ?_
              rotate_left
              · intro w'
                go_simp
                with_reducible rfl
              rotate_left
              · simp only [Act.put, List.setIfInBounds_toArray, List.set_cons_zero, List.set_cons_succ, i64_w, i32_w]
                rfl
              refine pure_ (i := 2) (N := some 65) (v := ?_) (a' := ?_) #[true, true, true, false, false, false, false, false, false, false, false, false, false, false, false, false, false] rfl rfl (by kernel_rfl) (fun _ _ _ h => h) (Or.inl ⟨by rfl, ?_⟩) ?_ ?_
              rotate_left
              · intro w'
                go_simp
                with_reducible rfl
              rotate_left
              · simp only [Act.put, List.setIfInBounds_toArray, List.set_cons_zero, List.set_cons_succ, i64_w, i32_w]
                rfl
              refine pure_ (i := 4) (N := some 67) (v := ?_) (a' := ?_) #[true, true, true, false, true, false, false, false, false, false, false, false, false, false, false, false, false] rfl rfl (by kernel_rfl) (fun _ _ _ h => h) (Or.inl ⟨by rfl, ?_⟩) ?_ ?_
              rotate_left
              · intro w'
                go_simp
                with_reducible rfl
              rotate_left
              · simp only [Act.put, List.setIfInBounds_toArray, List.set_cons_zero, List.set_cons_succ, i64_w, i32_w]
                rfl
              refine pure_ (i := 5) (N := some 68) (v := ?_) (a' := ?_) #[true, true, true, false, true, true, false, false, false, false, false, false, false, false, false, false, false] rfl rfl (by kernel_rfl) (fun _ _ _ h => h) (Or.inl ⟨by rfl, ?_⟩) ?_ ?_
              rotate_left
              · intro w'
                go_simp
                with_reducible rfl
              rotate_left
              · simp only [Act.put, List.setIfInBounds_toArray, List.set_cons_zero, List.set_cons_succ, i64_w, i32_w]
                rfl
              refine pure_ (i := 6) (N := some 69) (v := ?_) (a' := ?_) #[true, true, true, false, true, true, true, false, false, false, false, false, false, false, false, false, false] rfl rfl (by kernel_rfl) (fun _ _ _ h => h) (Or.inl ⟨by rfl, ?_⟩) ?_ ?_
              rotate_left
              · intro w'
                go_simp
                with_reducible rfl
              rotate_left
              · simp only [Act.put, List.setIfInBounds_toArray, List.set_cons_zero, List.set_cons_succ, i64_w, i32_w]
                rfl
              refine pure_ (i := 8) (N := some 71) (v := ?_) (a' := ?_) #[true, true, true, false, true, true, true, false, true, false, false, false, false, false, false, false, false] rfl rfl (by kernel_rfl) (fun _ _ _ h => h) (Or.inl ⟨by rfl, ?_⟩) ?_ ?_
              rotate_left
              · intro w'
                go_simp
                with_reducible rfl
              rotate_left
              · simp only [Act.put, List.setIfInBounds_toArray, List.set_cons_zero, List.set_cons_succ, i64_w, i32_w]
                rfl
              refine pure_ (i := 10) (N := some 73) (v := ?_) (a' := ?_) #[true, true, true, false, true, true, true, false, true, false, true, false, false, false, false, false, false] rfl rfl (by kernel_rfl) (fun _ _ _ h => h) (Or.inl ⟨by rfl, ?_⟩) ?_ ?_
              rotate_left
              · intro w'
                go_simp
                with_reducible rfl
              rotate_left
              · simp only [Act.put, List.setIfInBounds_toArray, List.set_cons_zero, List.set_cons_succ, i64_w, i32_w]
                rfl
              refine pure_ (i := 11) (N := some 74) (v := ?_) (a' := ?_) #[true, true, true, false, true, true, true, false, true, false, true, true, false, false, false, false, false] rfl rfl (by kernel_rfl) (fun _ _ _ h => h) (Or.inl ⟨by rfl, ?_⟩) ?_ ?_
              rotate_left
              · intro w'
                go_simp
                with_reducible rfl
              rotate_left
              · simp only [Act.put, List.setIfInBounds_toArray, List.set_cons_zero, List.set_cons_succ, i64_w, i32_w]
                rfl
              refine pure_ (i := 12) (N := some 75) (v := ?_) (a' := ?_) #[true, true, true, false, true, true, true, false, true, false, true, true, true, false, false, false, false] rfl rfl (by kernel_rfl) (fun _ _ _ h => h) (Or.inl ⟨by rfl, ?_⟩) ?_ ?_
              rotate_left
              · intro w'
                go_simp
                with_reducible rfl
              rotate_left
              · simp only [Act.put, List.setIfInBounds_toArray, List.set_cons_zero, List.set_cons_succ, i64_w, i32_w]
                rfl
              refine take_ (i := 3) (N := some 66) (v := ?_) (a' := ?_) #[true, true, true, true, true, true, true, false, true, false, true, true, true, false, false, false, false] rfl rfl (by kernel_rfl) (fun _ _ _ h => h) (Or.inl ⟨by rfl, ?_⟩) hHeld ?_ ?_
              rotate_left
              · rintro w' ⟨s0, s1, s2⟩
                go_simp
                with_reducible rfl
              rotate_left
              · simp only [Act.put, List.setIfInBounds_toArray, List.set_cons_zero, List.set_cons_succ, i64_w, i32_w]
                rfl
              refine take_ (i := 7) (N := some 70) (v := ?_) (a' := ?_) #[true, true, true, true, true, true, true, true, true, false, true, true, true, false, false, false, false] rfl rfl (by kernel_rfl) (fun _ _ _ h => h) (Or.inl ⟨by rfl, ?_⟩) hHeld ?_ ?_
              rotate_left
              · rintro w' ⟨s0, s1, s2⟩
                go_simp
                with_reducible rfl
              rotate_left
              · simp only [Act.put, List.setIfInBounds_toArray, List.set_cons_zero, List.set_cons_succ, i64_w, i32_w]
                rfl
              refine pure_ (i := 9) (N := some 72) (v := ?_) (a' := ?_) #[true, true, true, true, true, true, true, true, true, true, true, true, true, false, false, false, false] rfl rfl (by kernel_rfl) (fun _ _ _ h => h) (Or.inl ⟨by rfl, ?_⟩) ?_ ?_
              rotate_left
              · intro w'
                go_simp
                with_reducible rfl
              rotate_left
              · simp only [Act.put, List.setIfInBounds_toArray, List.set_cons_zero, List.set_cons_succ, i64_w, i32_w]
                rfl
              refine take_ (i := 13) (N := some 76) (v := ?_) (a' := ?_) #[true, true, true, true, true, true, true, true, true, true, true, true, true, true, false, false, false] rfl rfl (by kernel_rfl) (fun _ _ _ h => h) (Or.inl ⟨by rfl, ?_⟩) hHeld ?_ ?_
              rotate_left
              · rintro w' ⟨s0, s1, s2⟩
                go_simp
                with_reducible rfl
              rotate_left
              · simp only [Act.put, List.setIfInBounds_toArray, List.set_cons_zero, List.set_cons_succ, i64_w, i32_w]
                rfl
              refine pure_ (i := 14) (N := some 77) (v := ?_) (a' := ?_) #[true, true, true, true, true, true, true, true, true, true, true, true, true, true, true, false, false] rfl rfl (by kernel_rfl) (fun _ _ _ h => h) (Or.inl ⟨by rfl, ?_⟩) ?_ ?_
              rotate_left
              · intro w'
                go_simp
                with_reducible rfl
              rotate_left
              · simp only [Act.put, List.setIfInBounds_toArray, List.set_cons_zero, List.set_cons_succ, i64_w, i32_w]
                rfl
              refine take_ (i := 15) (N := some 78) (v := ?_) (a' := ?_) #[true, true, true, true, true, true, true, true, true, true, true, true, true, true, true, true, false] rfl rfl (by kernel_rfl) (fun _ _ _ h => h) (Or.inl ⟨by rfl, ?_⟩) hHeld ?_ ?_
              rotate_left
              · rintro w' ⟨s0, s1, s2⟩
                go_simp
                with_reducible rfl
              rotate_left
              · simp only [Act.put, List.setIfInBounds_toArray, List.set_cons_zero, List.set_cons_succ, i64_w, i32_w]
                rfl
              refine pure_ (i := 16) (N := some 4) (v := ?_) (a' := ?_) #[true, true, true, true, true, true, true, true, true, true, true, true, true, true, true, true, true] rfl rfl (by kernel_rfl) (fun _ _ _ h => h) (Or.inl ⟨by rfl, ?_⟩) ?_ ?_
              rotate_left
              · intro w'
                go_simp
                with_reducible rfl
              rotate_left
              · simp only [Act.put, List.setIfInBounds_toArray, List.set_cons_zero, List.set_cons_succ, i64_w, i32_w]
                rfl
              refine done_ (by kernel_rfl) ?_

              go_wp2
              go_ret
              rw [← HR1.out]
              exact ⟨rfl, by repeat (first | (with_reducible first | exact HI1.out | apply IsS206.alloc | apply IsS206.drewN | apply IsS206.drew | apply IsS206.set_1 | apply IsS206.set_2) | exact HI1.out), by repeat (first | (with_reducible first | exact HB.out | apply below_alloc | apply pw_below_drewN | apply below_drew1 | refine below_set ?_ (IsS206.ge HI1.out)) | exact HB.out), by repeat (first | (with_reducible first | exact HK.out | apply KeepBut.set_ | apply keep_drewN | apply keep_drew | apply keep_alloc) | exact HK.out)⟩
        · rw [if_neg hb] at h
          cases h
    · rw [if_neg he] at h
      simp only [Option.some.injEq, Prod.mk.injEq] at h
      obtain ⟨rfl, rfl, rfl⟩ := h
      have HT : Aside0 (pack_Reader_take.f b at_ e 1 = some (0, at_, e)) := ⟨by
        unfold pack_Reader_take.f
        rw [if_pos (by omega), if_neg he]⟩
      have hd : (e != 0) = true := bne_iff_ne.mpr he
      clear he
      go_enter Try.func145, Try.ntmps145
      go_wp2_with (first | (go_at_call 193; (with_reducible refine (pack_Reader_take.calls g b at_ _ 1 0 at_ e w0 _ ?s1 ?s2 HT.out).mono ?_); (case s1 => exact HI.out); (case s2 => exact HB.out); rintro x w1 ⟨rfl, hI1, hB1, hK1⟩; have HI1 := Aside0.mk hI1; have HK := Aside0.mk hK1; clear HB; have HB := Aside0.mk hB1; obtain ⟨A, c, HG, hg, HS⟩ := hI1; have hcz0 := cellS206_0 HG; have hcz1 := cellS206_1 HG; have hcz2 := cellS206_2 HG; have hfz1 := blk_frozen HG 1; have hfz2 := blk_frozen HG 2; have HSA := Aside0.mk HS; have HGA := Aside0.mk HG; clear HG hg HS hB1 hK1 HI))
      go_ret
      exact ⟨rfl, by repeat (first | (with_reducible first | exact HI1.out | apply IsS206.alloc | apply IsS206.drewN | apply IsS206.drew | apply IsS206.set_1 | apply IsS206.set_2) | exact HI1.out), by repeat (first | (with_reducible first | exact HB.out | apply below_alloc | apply pw_below_drewN | apply below_drew1 | refine below_set ?_ (IsS206.ge HI1.out)) | exact HB.out), by repeat (first | (with_reducible first | exact HK.out | apply KeepBut.set_ | apply keep_drewN | apply keep_drew | apply keep_alloc) | exact HK.out)⟩
  · rw [if_neg hr] at h
    cases h
end Go.Proofs.Ytfdemnefkfkghaa.X
/- Functions of the program as Lean functions, and that their calls come to them: written by xprint.py of this session, out of the kit's print program. -/
namespace Go.Proofs.Ytfdemnefkfkghaa.X
open Go.RowKit Go.Proofs.YtfdemnefkfkghaaW.PrintWords Go.Proofs.YtfdemnefkfkghaaW.PrintLast Go.Proofs.YtfdemnefkfkghaaW.PrintMore
attribute [local go_sem] max2_int min2_int max_two min_two max_three min_three max_four min_four   -- for this text's walks alone
attribute [local go_sem high] Go.Proofs.Ytfdemnefkfkghaa.XW.leq Go.Proofs.Ytfdemnefkfkghaa.XW.gtr Go.Proofs.Ytfdemnefkfkghaa.XW.geq
set_option linter.unusedVariables false
set_option linter.unusedSimpArgs false

/-! ### dump_pair: function 148 -/
def dump_pair.f (s0_0 : List Int) (s0_1 : Int) (s0_2 : Int) (a1 : ByteArray) : Option (ByteArray × ByteArray × Int × Int) := (pack_Reader_Get8.f s0_0 s0_1 s0_2).bind fun bt102 => (if (wrap64 (bt102.1)) > (a1.size : Int) then ((pack_Reader_Fail.f s0_0 bt102.2.1 bt102.2.2 3).bind fun bt105 => (if 0 ≤ 0 then (if 0 ≤ (a1.size : Int) then ((pack_Reader_GetText.f s0_0 bt105.1 bt105.2 (wrap64 16)).bind fun bt107 => (if bt107.1.size ≤ 9223372036854775807 then ((pack_Reader_GetText.f s0_0 bt107.2.1 bt107.2.2 32).bind fun bt110 => (some (bt107.1, bt110.1, bt110.2.1, bt110.2.2))) else (none))) else (none)) else (none))) else (if 0 ≤ (wrap64 (bt102.1)) then (if (wrap64 (bt102.1)) ≤ (a1.size : Int) then ((pack_Reader_GetText.f s0_0 bt102.2.1 bt102.2.2 (wrap64 (16 - (wrap64 (bt102.1))))).bind fun bt113 => (if (a1.extract 0 ((wrap64 (bt102.1)) : Int).toNat).size + bt113.1.size ≤ 9223372036854775807 then ((pack_Reader_GetText.f s0_0 bt113.2.1 bt113.2.2 32).bind fun bt116 => (some ((a1.extract 0 ((wrap64 (bt102.1)) : Int).toNat) ++ bt113.1, bt116.1, bt116.2.1, bt116.2.2))) else (none))) else (none)) else (none)))
def dump_pair.T5 : Bool × List (List Nat × List Nat) := (true, [([], []), ([], []), ([0, 1], [0, 1]), ([], []), ([], []), ([4], [4]), ([3, 5], [3, 5]), ([2, 6], [2, 6]), ([7, 6, 0, 1, 2, 3, 4, 5, 6, 7], [7])])
def dump_pair.B5 : List Nat := [0, 0, 3, 0, 0, 16, 56, 127, 255]
theorem dump_pair.tab5 : rtab .any (opsOf Try.f148 5) = dump_pair.T5 := by kernel_rfl
theorem dump_pair.bits5 : waitsOk dump_pair.T5.2 dump_pair.B5 = true := by kernel_rfl
set_option maxHeartbeats 8000000 in
set_option maxRecDepth 100000 in
theorem dump_pair.calls (g : Nat) (s0_0 : List Int) (s0_1 : Int) (s0_2 : Int) (a1 : ByteArray) (r1 : ByteArray) (r2 : ByteArray) (r3 : Int) (r4 : Int) (w0 w : World) (hI : IsS206 w0 w g s0_0 s0_1 s0_2) (hB : Below w0.heap.size w0 w) (h : dump_pair.f s0_0 s0_1 s0_2 a1 = some (r1, r2, r3, r4)) :
    Calls Try.prog 148 #[.pointer (some ⟨g, 0, none⟩), .string a1] w fun e w' => e = .returned (.agg #[.string r1, .string r2]) ∧ IsS206 w0 w' g s0_0 r3 r4 ∧ Below w0.heap.size w0 w' ∧ KeepBut w w' g none := by
  have hu145 := Try.underlying145
  have HI0 := Aside0.mk hI
  have HK := Aside0.mk (KeepBut.refl w g none)
  have HL := Aside0.mk hB.size
  clear hI
  have HW0 := Aside0.mk hB.size
  have HB := Aside0.mk hB
  clear hB
  have H : ((pack_Reader_Get8.f s0_0 s0_1 s0_2).bind fun bt102 => (if (wrap64 (bt102.1)) > (a1.size : Int) then ((pack_Reader_Fail.f s0_0 bt102.2.1 bt102.2.2 3).bind fun bt105 => (if 0 ≤ 0 then (if 0 ≤ (a1.size : Int) then ((pack_Reader_GetText.f s0_0 bt105.1 bt105.2 (wrap64 16)).bind fun bt107 => (if bt107.1.size ≤ 9223372036854775807 then ((pack_Reader_GetText.f s0_0 bt107.2.1 bt107.2.2 32).bind fun bt110 => (some (bt107.1, bt110.1, bt110.2.1, bt110.2.2))) else (none))) else (none)) else (none))) else (if 0 ≤ (wrap64 (bt102.1)) then (if (wrap64 (bt102.1)) ≤ (a1.size : Int) then ((pack_Reader_GetText.f s0_0 bt102.2.1 bt102.2.2 (wrap64 (16 - (wrap64 (bt102.1))))).bind fun bt113 => (if (a1.extract 0 ((wrap64 (bt102.1)) : Int).toNat).size + bt113.1.size ≤ 9223372036854775807 then ((pack_Reader_GetText.f s0_0 bt113.2.1 bt113.2.2 32).bind fun bt116 => (some ((a1.extract 0 ((wrap64 (bt102.1)) : Int).toNat) ++ bt113.1, bt116.1, bt116.2.1, bt116.2.2))) else (none))) else (none)) else (none)))) = some (r1, r2, r3, r4) := h
  clear h
  replace H := Option.bind_eq_some_iff.mp H
  obtain ⟨⟨t102, t103, t104⟩, A30, H⟩ := H
  replace H : (if (wrap64 (t102)) > (a1.size : Int) then ((pack_Reader_Fail.f s0_0 t103 t104 3).bind fun bt105 => (if 0 ≤ 0 then (if 0 ≤ (a1.size : Int) then ((pack_Reader_GetText.f s0_0 bt105.1 bt105.2 (wrap64 16)).bind fun bt107 => (if bt107.1.size ≤ 9223372036854775807 then ((pack_Reader_GetText.f s0_0 bt107.2.1 bt107.2.2 32).bind fun bt110 => (some (bt107.1, bt110.1, bt110.2.1, bt110.2.2))) else (none))) else (none)) else (none))) else (if 0 ≤ (wrap64 (t102)) then (if (wrap64 (t102)) ≤ (a1.size : Int) then ((pack_Reader_GetText.f s0_0 t103 t104 (wrap64 (16 - (wrap64 (t102))))).bind fun bt113 => (if (a1.extract 0 ((wrap64 (t102)) : Int).toNat).size + bt113.1.size ≤ 9223372036854775807 then ((pack_Reader_GetText.f s0_0 bt113.2.1 bt113.2.2 32).bind fun bt116 => (some ((a1.extract 0 ((wrap64 (t102)) : Int).toNat) ++ bt113.1, bt116.1, bt116.2.1, bt116.2.2))) else (none))) else (none)) else (none))) = some (r1, r2, r3, r4) := H
  have A3 := Aside0.mk A30
  clear A30
  by_cases c4 : (wrap64 (t102)) > (a1.size : Int)
  · rw [if_pos c4] at H
    have c4b0 : decide ((a1.size : Int) < (wrap64 (t102))) = true := decide_eq_true c4
    clear c4
    replace H := Option.bind_eq_some_iff.mp H
    obtain ⟨⟨t105, t106⟩, A50, H⟩ := H
    replace H : (if 0 ≤ 0 then (if 0 ≤ (a1.size : Int) then ((pack_Reader_GetText.f s0_0 t105 t106 (wrap64 16)).bind fun bt107 => (if bt107.1.size ≤ 9223372036854775807 then ((pack_Reader_GetText.f s0_0 bt107.2.1 bt107.2.2 32).bind fun bt110 => (some (bt107.1, bt110.1, bt110.2.1, bt110.2.2))) else (none))) else (none)) else (none)) = some (r1, r2, r3, r4) := H
    have A5 := Aside0.mk A50
    clear A50
    by_cases c6 : 0 ≤ 0
    · rw [if_pos c6] at H
      have c6b0 := eq_true c6
      have c6b1 : decide (0 ≤ 0) = true := decide_eq_true c6
      clear c6
      by_cases c7 : 0 ≤ (a1.size : Int)
      · rw [if_pos c7] at H
        have c7b0 := eq_true c7
        have c7b1 : decide (0 ≤ (a1.size : Int)) = true := decide_eq_true c7
        clear c7
        replace H := Option.bind_eq_some_iff.mp H
        obtain ⟨⟨t107, t108, t109⟩, A80, H⟩ := H
        replace H : (if t107.size ≤ 9223372036854775807 then ((pack_Reader_GetText.f s0_0 t108 t109 32).bind fun bt110 => (some (t107, bt110.1, bt110.2.1, bt110.2.2))) else (none)) = some (r1, r2, r3, r4) := H
        have A8 := Aside0.mk A80
        clear A80
        by_cases c9 : t107.size ≤ 9223372036854775807
        · rw [if_pos c9] at H
          have c9b0 := eq_true c9
          have c9b1 : decide (t107.size ≤ 9223372036854775807) = true := decide_eq_true c9
          try have c9b2 : (9223372036854775807 < t107.size) = False := eq_false (Nat.not_lt.2 c9)
          replace H := Option.bind_eq_some_iff.mp H
          obtain ⟨⟨t110, t111, t112⟩, A100, H⟩ := H
          replace H : (some (t107, t110, t111, t112)) = some (r1, r2, r3, r4) := H
          have A10 := Aside0.mk A100
          clear A100
          simp only [Option.some.injEq, Prod.mk.injEq] at H
          obtain ⟨rfl, rfl, rfl, rfl⟩ := H
          go_enter Try.func148, Try.ntmps148
          try go_wp2_with (first | ((with_reducible refine gate_dst (N := 4) rfl ?_); refine box_event ?hg (N := 4) ?hd (cs := #[.string (⟨#[]⟩ : ByteArray), .string (⟨#[]⟩ : ByteArray)]) (t := 145) ?hr ?_; (case hd => rfl); (case hg => rfl); (case hr => first | (go_simp; done) | (go_simp; rfl)); intro gb101 hg w11 hbox hb; have n0_ := Aside0.mk (IsS206.below (by repeat (first | (with_reducible first | exact HI0.out | apply IsS206.alloc | apply IsS206.drewN | apply IsS206.drew | apply IsS206.set_1 | apply IsS206.set_2) | exact HI0.out)) hb); have n1_ := Aside0.mk (KeepBut.trans (by repeat (first | (with_reducible first | exact HK.out | apply KeepBut.set_ | apply keep_drewN | apply keep_drew | apply keep_alloc) | exact HK.out)) (KeepBut.of_below hb g none) (.inl rfl)); have n2_ := Aside0.mk (below_step (by repeat (first | (with_reducible first | exact HB.out | apply below_alloc | apply pw_below_drewN | apply below_drew1 | refine below_set ?_ (IsS206.ge HI0.out)) | exact HB.out)) hb); have n3_ := Aside0.mk (hbox); have n4_ := Aside0.mk ((by rw [hg]; exact (keep_size (w := w) (g := g) (row := none) (by repeat (first | (with_reducible first | exact HK.out | apply KeepBut.set_ | apply keep_drewN | apply keep_drew | apply keep_alloc) | exact HK.out))) : w.heap.size ≤ gb101)); have n5_ := Aside0.mk ((Nat.le_trans HW0.out (by rw [hg]; exact (keep_size (w := w) (g := g) (row := none) (by repeat (first | (with_reducible first | exact HK.out | apply KeepBut.set_ | apply keep_drewN | apply keep_drew | apply keep_alloc) | exact HK.out))) : w.heap.size ≤ gb101) : w0.heap.size ≤ gb101)); have n6_ := Aside0.mk ((by rw [hg]; exact Nat.ne_of_lt (IsS206.lt (show IsS206 w0 _ g s0_0 s0_1 s0_2 from by repeat (first | (with_reducible first | exact HI0.out | apply IsS206.alloc | apply IsS206.drewN | apply IsS206.drew | apply IsS206.set_1 | apply IsS206.set_2) | exact HI0.out))) : g ≠ gb101)); have n7_ := Aside0.mk ((by rw [hg]; exact Nat.ne_of_gt (IsS206.lt (show IsS206 w0 _ g s0_0 s0_1 s0_2 from by repeat (first | (with_reducible first | exact HI0.out | apply IsS206.alloc | apply IsS206.drewN | apply IsS206.drew | apply IsS206.set_1 | apply IsS206.set_2) | exact HI0.out))) : gb101 ≠ g)); clear HI0; clear HK; clear HB; have HI0 := n0_; have HK := n1_; have HB := n2_; have BK101 := n3_; have GW101 := n4_; have GE101 := n5_; have NB0_101 := n6_; have NB101_0 := n7_; clear n0_ n1_ n2_ n3_ n4_ n5_ n6_ n7_; clear hb hbox hg) | ((with_reducible refine gate_callee (f := 143) rfl ?_); refine goesL_ (some 8) rfl rfl Try.func143 (by kernel_rfl) rfl #[.pointer (some ⟨g, 0, none⟩)] rfl (by (try simp only [List.map_toArray, List.map_cons, List.map_nil]); first | done | rfl | (simp only [List.length_drop, List.length_take]; rfl)) ?_; (with_reducible refine (pack_Reader_Get8.calls g s0_0 s0_1 s0_2 t102 t103 t104 w0 _ ?side1 ?side2 A3.out).mono ?_); (case side1 => repeat (first | (with_reducible first | exact HI0.out | apply IsS206.alloc | apply IsS206.drewN | apply IsS206.drew | apply IsS206.set_1 | apply IsS206.set_2 | refine IsS206.far ?_ NB0_101.out _) | exact HI0.out)); (case side2 => repeat (first | (with_reducible first | exact HB.out | apply below_alloc | apply pw_below_drewN | apply below_drew1 | refine below_set ?_ (IsS206.ge HI0.out) | refine below_set ?_ GE101.out) | exact HB.out)); rintro e w12 ⟨rfl, hi, hb, hk⟩; refine ⟨_, rfl, ?_⟩; have n0_ := Aside0.mk (KeepBut.blk hk (g' := gb101) (o := .cells #[.string (⟨#[]⟩ : ByteArray), .string (⟨#[]⟩ : ByteArray)] 145 (0, 0)) (by (with_reducible repeat (first | refine blk_drewN ?_ _ | refine blk_drew ?_ | refine blk_alloc ?_ _)); exact BK101.out) NB101_0.out (by simp)); have n1_ := Aside0.mk (KeepBut.trans (by repeat (first | (with_reducible first | exact HK.out | apply KeepBut.set_ | apply keep_drewN | apply keep_drew | apply keep_alloc | refine keep_far ?_ GW101.out _) | exact HK.out)) hk (.inl rfl)); have n2_ := Aside0.mk (hb); have n3_ := Aside0.mk (hi); clear BK101; clear HK; clear HB; clear HI0; have BK101 := n0_; have HK := n1_; have HB := n2_; have HI0 := n3_; clear n0_ n1_ n2_ n3_; (try clear hb); (try clear hb2); (try clear hk); (try clear hi)) | ((with_reducible refine gate_callee (f := 144) rfl ?_); refine goesL_ (some 15) rfl rfl Try.func144 (by kernel_rfl) rfl #[.pointer (some ⟨g, 0, none⟩), .int .i64 3] rfl (by (try simp only [List.map_toArray, List.map_cons, List.map_nil]); first | done | rfl | (simp only [List.length_drop, List.length_take]; rfl)) ?_; (with_reducible refine (pack_Reader_Fail.calls g s0_0 t103 t104 3 t105 t106 w0 _ ?side1 ?side2 A5.out).mono ?_); (case side1 => repeat (first | (with_reducible first | exact HI0.out | apply IsS206.alloc | apply IsS206.drewN | apply IsS206.drew | apply IsS206.set_1 | apply IsS206.set_2 | refine IsS206.far ?_ NB0_101.out _) | exact HI0.out)); (case side2 => repeat (first | (with_reducible first | exact HB.out | apply below_alloc | apply pw_below_drewN | apply below_drew1 | refine below_set ?_ (IsS206.ge HI0.out) | refine below_set ?_ GE101.out) | exact HB.out)); rintro e w13 ⟨rfl, hi, hb, hk⟩; refine ⟨_, rfl, ?_⟩; have n0_ := Aside0.mk (KeepBut.blk hk (g' := gb101) (o := .cells #[.string (⟨#[]⟩ : ByteArray), .string (⟨#[]⟩ : ByteArray)] 145 (0, 0)) (by (with_reducible repeat (first | refine blk_drewN ?_ _ | refine blk_drew ?_ | refine blk_alloc ?_ _)); exact BK101.out) NB101_0.out (by simp)); have n1_ := Aside0.mk (KeepBut.trans (by repeat (first | (with_reducible first | exact HK.out | apply KeepBut.set_ | apply keep_drewN | apply keep_drew | apply keep_alloc | refine keep_far ?_ GW101.out _) | exact HK.out)) hk (.inl rfl)); have n2_ := Aside0.mk (hb); have n3_ := Aside0.mk (hi); clear BK101; clear HK; clear HB; clear HI0; have BK101 := n0_; have HK := n1_; have HB := n2_; have HI0 := n3_; clear n0_ n1_ n2_ n3_; (try clear hb); (try clear hb2); (try clear hk); (try clear hi)))
          have n0_ := Aside0.mk (blk_drew BK101.out)
          have n1_ := Aside0.mk (IsS206.drew HI0.out)
          have n2_ := Aside0.mk (keep_drew HK.out)
          have n3_ := Aside0.mk (below_drew1 HB.out)
          clear BK101
          clear HI0
          clear HK
          clear HB
          have BK101 := n0_
          have HI0 := n1_
          have HK := n2_
          have HB := n3_
          clear n0_ n1_ n2_ n3_
          refine start_ (n := 9) (S := fun w' => True) (ds := []) #[false, false, false, false, false, false, false, false, false] (by kernel_rfl) rfl rfl trivial (fun hHeld => ?_); refine with_tabW dump_pair.tab5 dump_pair.bits5 (fun HT_ HW_ => ?_)
          generalize w13.drew = w14 at BK101 HI0 HK HB hHeld ⊢
          refine pure_ (i := 0) (N := some 16) (v := ?_) (a' := ?_) #[true, false, false, false, false, false, false, false, false] rfl rfl (any_of HT_.out (by kernel_rfl)) (fun _ _ _ h => h) (Or.inl ⟨by rfl, ?_⟩) ?_ ?_
          rotate_left
          · intro w'
            go_simp
            with_reducible rfl
          rotate_left
          · simp only [Act.put, List.setIfInBounds_toArray, List.set_cons_zero, List.set_cons_succ, i64_w, i32_w]
            rfl
          refine pure_ (i := 1) (N := some 17) (v := ?_) (a' := ?_) #[true, true, false, false, false, false, false, false, false] rfl rfl (any_of HT_.out (by kernel_rfl)) (fun _ _ _ h => h) (Or.inl ⟨by rfl, ?_⟩) ?_ ?_
          rotate_left
          · intro w'
            go_simp
            with_reducible rfl
          rotate_left
          · simp only [Act.put, List.setIfInBounds_toArray, List.set_cons_zero, List.set_cons_succ, i64_w, i32_w]
            rfl
          refine pure_ (i := 2) (N := some 18) (v := ?_) (a' := ?_) #[true, true, true, false, false, false, false, false, false] rfl rfl (any_of HT_.out (by kernel_rfl)) (fun _ _ _ h => h) (Or.inl ⟨by rfl, ?_⟩) ?_ ?_
          rotate_left
          · intro w'
            go_simp
            with_reducible rfl
          rotate_left
          · simp only [Act.put, List.setIfInBounds_toArray, List.set_cons_zero, List.set_cons_succ, i64_w, i32_w]
            rfl
          refine pure_ (i := 3) (N := some 19) (v := ?_) (a' := ?_) #[true, true, true, true, false, false, false, false, false] rfl rfl (any_of HT_.out (by kernel_rfl)) (fun _ _ _ h => h) (Or.inl ⟨by rfl, ?_⟩) ?_ ?_
          rotate_left
          · intro w'
            go_simp
            with_reducible rfl
          rotate_left
          · simp only [Act.put, List.setIfInBounds_toArray, List.set_cons_zero, List.set_cons_succ, i64_w, i32_w]
            rfl
          refine pure_ (i := 4) (N := some 20) (v := ?_) (a' := ?_) #[true, true, true, true, true, false, false, false, false] rfl rfl (any_of HT_.out (by kernel_rfl)) (fun _ _ _ h => h) (Or.inl ⟨by rfl, ?_⟩) ?_ ?_
          rotate_left
          · intro w'
            go_simp
            with_reducible rfl
          rotate_left
          · simp only [Act.put, List.setIfInBounds_toArray, List.set_cons_zero, List.set_cons_succ, i64_w, i32_w]
            rfl
          refine pure_ (i := 5) (N := some 21) (v := ?_) (a' := ?_) #[true, true, true, true, true, true, false, false, false] rfl rfl (any_of HT_.out (by kernel_rfl)) (fun _ _ _ h => h) (Or.inl ⟨by rfl, ?_⟩) ?_ ?_
          rotate_left
          · intro w'
            go_simp
            with_reducible rfl
          rotate_left
          · simp only [Act.put, List.setIfInBounds_toArray, List.set_cons_zero, List.set_cons_succ, i64_w, i32_w]
            rfl
          refine one_ (i := 6) (N := some 22) #[true, true, true, true, true, true, true, false, false] rfl rfl (one_of HT_.out (by kernel_rfl)) (by decide) (fun K hK => ?_)
          refine goes_ Try.func145 (by kernel_rfl) rfl #[.pointer (some ⟨g, 0, none⟩), .int .i64 (wrap64 16)] (by rfl) rfl rfl (by (try simp only [List.map_toArray, List.map_cons, List.map_nil]); first | done | rfl | (simp only [List.length_drop, List.length_take]; rfl)) ?_
          with_reducible refine (pack_Reader_GetText.calls g s0_0 t105 t106 (wrap64 16) t107 t108 t109 w0 _ ?side1 ?side2 A8.out).mono ?_
          (case side1 => repeat (first | (with_reducible first | exact HI0.out | apply IsS206.alloc | apply IsS206.drewN | apply IsS206.drew | apply IsS206.set_1 | apply IsS206.set_2 | refine IsS206.far ?_ NB0_101.out _) | exact HI0.out))
          (case side2 => repeat (first | (with_reducible first | exact HB.out | apply below_alloc | apply pw_below_drewN | apply below_drew1 | refine below_set ?_ (IsS206.ge HI0.out) | refine below_set ?_ GE101.out) | exact HB.out))
          rintro e w15 ⟨rfl, hi, hb, hk⟩
          refine ⟨_, rfl, ?_⟩
          have n0_ := Aside0.mk (KeepBut.blk hk (g' := gb101) (o := .cells #[.string (⟨#[]⟩ : ByteArray), .string (⟨#[]⟩ : ByteArray)] 145 (0, 0)) (by (with_reducible repeat (first | refine blk_drewN ?_ _ | refine blk_drew ?_ | refine blk_alloc ?_ _)); exact BK101.out) NB101_0.out (by simp))
          have n1_ := Aside0.mk (KeepBut.trans (by repeat (first | (with_reducible first | exact HK.out | apply KeepBut.set_ | apply keep_drewN | apply keep_drew | apply keep_alloc | refine keep_far ?_ GW101.out _) | exact HK.out)) hk (.inl rfl))
          have n2_ := Aside0.mk (hb)
          have n3_ := Aside0.mk (hi)
          clear BK101
          clear HK
          clear HB
          clear HI0
          have BK101 := n0_
          have HK := n1_
          have HB := n2_
          have HI0 := n3_
          clear n0_ n1_ n2_ n3_
          (try clear hb)
          (try clear hb2)
          (try clear hk)
          (try clear hi)
          refine hK.out _ _ trivial (fun hHeld => ?_)
          clear hK K
          refine norm_ (a' := ?_) ?_ ?_
          rotate_left
          · show Act.put _ (some 22) _ = _
            simp only [Act.put, List.setIfInBounds_toArray, List.set_cons_zero, List.set_cons_succ, i64_w, i32_w]
            rfl
          refine pure_ (i := 7) (N := some 23) (v := ?_) (a' := ?_) #[true, true, true, true, true, true, true, true, false] rfl rfl (any_of HT_.out (by kernel_rfl)) (fun _ _ _ h => h) (Or.inl ⟨by rfl, ?_⟩) ?_ ?_
          rotate_left
          · intro w'
            go_simp
            with_reducible rfl
          rotate_left
          · simp only [Act.put, List.setIfInBounds_toArray, List.set_cons_zero, List.set_cons_succ, i64_w, i32_w]
            rfl
          refine pure_ (i := 8) (N := some 6) (v := ?_) (a' := ?_) #[true, true, true, true, true, true, true, true, true] rfl rfl (any_of HT_.out (by kernel_rfl)) (fun _ _ _ h => h) (Or.inl ⟨by rfl, ?_⟩) ?_ ?_
          rotate_left
          · intro w'
            go_simp
            with_reducible rfl
          rotate_left
          · simp only [Act.put, List.setIfInBounds_toArray, List.set_cons_zero, List.set_cons_succ, i64_w, i32_w]
            rfl
          refine done_ (done_of HT_.out (by kernel_rfl)) ?_
          try go_wp2_with (first | ((with_reducible refine gate_callee (f := 145) rfl ?_); refine goesL_ (some 26) rfl rfl Try.func145 (by kernel_rfl) rfl #[.pointer (some ⟨g, 0, none⟩), .int .i64 32] rfl (by (try simp only [List.map_toArray, List.map_cons, List.map_nil]); first | done | rfl | (simp only [List.length_drop, List.length_take]; rfl)) ?_; (with_reducible refine (pack_Reader_GetText.calls g s0_0 t108 t109 32 t110 t111 t112 w0 _ ?side1 ?side2 A10.out).mono ?_); (case side1 => repeat (first | (with_reducible first | exact HI0.out | apply IsS206.alloc | apply IsS206.drewN | apply IsS206.drew | apply IsS206.set_1 | apply IsS206.set_2 | refine IsS206.far ?_ NB0_101.out _) | exact HI0.out)); (case side2 => repeat (first | (with_reducible first | exact HB.out | apply below_alloc | apply pw_below_drewN | apply below_drew1 | refine below_set ?_ (IsS206.ge HI0.out) | refine below_set ?_ GE101.out) | exact HB.out)); rintro e w16 ⟨rfl, hi, hb, hk⟩; refine ⟨_, rfl, ?_⟩; have n0_ := Aside0.mk (KeepBut.blk hk (g' := gb101) (o := .cells #[.string (⟨#[]⟩ : ByteArray), .string (⟨#[]⟩ : ByteArray)] 145 (0, 0)) (by (with_reducible repeat (first | refine blk_drewN ?_ _ | refine blk_drew ?_ | refine blk_alloc ?_ _)); exact BK101.out) NB101_0.out (by simp)); have n1_ := Aside0.mk (KeepBut.trans (by repeat (first | (with_reducible first | exact HK.out | apply KeepBut.set_ | apply keep_drewN | apply keep_drew | apply keep_alloc | refine keep_far ?_ GW101.out _) | exact HK.out)) hk (.inl rfl)); have n2_ := Aside0.mk (hb); have n3_ := Aside0.mk (hi); clear BK101; clear HK; clear HB; clear HI0; have BK101 := n0_; have HK := n1_; have HB := n2_; have HI0 := n3_; clear n0_ n1_ n2_ n3_; (try clear hb); (try clear hb2); (try clear hk); (try clear hi); have hnb17 := NB101_0.out; have hnc17 := NB0_101.out; have hcz18_0 : w16.cell? ⟨gb101, 0, none⟩ = some (.string (⟨#[]⟩ : ByteArray)) := (blk_cell BK101.out 0).trans rfl; have hcz18_1 : w16.cell? ⟨gb101, 1, none⟩ = some (.string (⟨#[]⟩ : ByteArray)) := (blk_cell BK101.out 1).trans rfl; have hfz18_0 := blk_frozen BK101.out 0; have hfz18_1 := blk_frozen BK101.out 1))
          refine bodyPost_ret (results_cell_row rfl _ _ gb101 145 #[.string t107, .string t110] (0, 0) _ rfl (by (with_reducible repeat (first | refine blk_drewN ?_ _ | refine blk_drew ?_ | refine blk_alloc ?_ _)); refine blk_put (cs := #[.string t107, .string (⟨#[]⟩ : ByteArray)]) ?_ 1 _ rfl; (with_reducible repeat (first | refine blk_drewN ?_ _ | refine blk_drew ?_ | refine blk_alloc ?_ _)); refine blk_put (cs := #[.string (⟨#[]⟩ : ByteArray), .string (⟨#[]⟩ : ByteArray)]) ?_ 0 _ rfl; (with_reducible repeat (first | refine blk_drewN ?_ _ | refine blk_drew ?_ | refine blk_alloc ?_ _)); exact BK101.out) Try.underlying145 rfl (by kernel_rfl)) rfl ?_
          exact ⟨by first | rfl | (simp [errW_none, errW_some] <;> rfl) | (simp [*, errW_none, errW_some] <;> rfl), by repeat (first | (with_reducible first | exact HI0.out | apply IsS206.alloc | apply IsS206.drewN | apply IsS206.drew | apply IsS206.set_1 | apply IsS206.set_2 | refine IsS206.far ?_ NB0_101.out _) | exact HI0.out), by repeat (first | (with_reducible first | exact HB.out | apply below_alloc | apply pw_below_drewN | apply below_drew1 | refine below_set ?_ (IsS206.ge HI0.out) | refine below_set ?_ GE101.out) | exact HB.out), by repeat (first | (with_reducible first | exact HK.out | apply KeepBut.set_ | apply keep_drewN | apply keep_drew | apply keep_alloc | refine keep_far ?_ GW101.out _) | exact HK.out)⟩
        · rw [if_neg c9] at H
          exact absurd H (by simp)
      · rw [if_neg c7] at H
        exact absurd H (by simp)
    · rw [if_neg c6] at H
      exact absurd H (by simp)
  · rw [if_neg c4] at H
    have c4b0 : decide ((a1.size : Int) < (wrap64 (t102))) = false := decide_eq_false c4
    clear c4
    obtain ⟨ji19, hji19⟩ : ∃ j_ : Int, (wrap64 (t102)) = j_ := ⟨_, rfl⟩
    replace H : (if 0 ≤ (ji19) then (if (ji19) ≤ (a1.size : Int) then ((pack_Reader_GetText.f s0_0 t103 t104 (wrap64 (16 - (ji19)))).bind fun bt113 => (if (a1.extract 0 ((ji19) : Int).toNat).size + bt113.1.size ≤ 9223372036854775807 then ((pack_Reader_GetText.f s0_0 bt113.2.1 bt113.2.2 32).bind fun bt116 => (some ((a1.extract 0 ((ji19) : Int).toNat) ++ bt113.1, bt116.1, bt116.2.1, bt116.2.2))) else (none))) else (none)) else (none)) = some (r1, r2, r3, r4) := by first | (rw [hji19] at H; exact H) | (simp only [hji19] at H ⊢; exact H)
    (try rw [hji19] at c4b0)
    (try rw [hji19] at A3)
    have hji19w : (IntKind.i64.wrap (t102)) = ji19 := (i64_w _).trans hji19
    by_cases c20 : 0 ≤ (ji19)
    · rw [if_pos c20] at H
      have c20b0 := eq_true c20
      have c20b1 : decide (0 ≤ (ji19)) = true := decide_eq_true c20
      clear c20
      by_cases c21 : (ji19) ≤ (a1.size : Int)
      · rw [if_pos c21] at H
        have c21b0 := eq_true c21
        have c21b1 : decide ((ji19) ≤ (a1.size : Int)) = true := decide_eq_true c21
        clear c21
        replace H := Option.bind_eq_some_iff.mp H
        obtain ⟨⟨t113, t114, t115⟩, A220, H⟩ := H
        replace H : (if (a1.extract 0 ((ji19) : Int).toNat).size + t113.size ≤ 9223372036854775807 then ((pack_Reader_GetText.f s0_0 t114 t115 32).bind fun bt116 => (some ((a1.extract 0 ((ji19) : Int).toNat) ++ t113, bt116.1, bt116.2.1, bt116.2.2))) else (none)) = some (r1, r2, r3, r4) := H
        have A22 := Aside0.mk A220
        clear A220
        by_cases c23 : (a1.extract 0 ((ji19) : Int).toNat).size + t113.size ≤ 9223372036854775807
        · rw [if_pos c23] at H
          have c23b0 := eq_true c23
          have c23b1 : decide ((a1.extract 0 ((ji19) : Int).toNat).size + t113.size ≤ 9223372036854775807) = true := decide_eq_true c23
          try have c23b2 : (9223372036854775807 < (a1.extract 0 ((ji19) : Int).toNat).size + t113.size) = False := eq_false (Nat.not_lt.2 c23)
          have hx148 : (9223372036854775807 < ji19.toNat + t113.size) = False := by
            refine eq_false ?_
            have h9 := of_eq_false c23b2
            have h7 := of_eq_true c21b0
            have h8 : ji19.toNat ≤ a1.size := by omega
            rw [ByteArray.size_extract, Nat.min_eq_left h8, Nat.sub_zero] at h9
            exact h9
          replace H := Option.bind_eq_some_iff.mp H
          obtain ⟨⟨t116, t117, t118⟩, A240, H⟩ := H
          replace H : (some ((a1.extract 0 ((ji19) : Int).toNat) ++ t113, t116, t117, t118)) = some (r1, r2, r3, r4) := H
          have A24 := Aside0.mk A240
          clear A240
          simp only [Option.some.injEq, Prod.mk.injEq] at H
          obtain ⟨rfl, rfl, rfl, rfl⟩ := H
          go_enter Try.func148, Try.ntmps148
          try go_wp2_with (first | ((with_reducible refine gate_dst (N := 4) rfl ?_); refine box_event ?hg (N := 4) ?hd (cs := #[.string (⟨#[]⟩ : ByteArray), .string (⟨#[]⟩ : ByteArray)]) (t := 145) ?hr ?_; (case hd => rfl); (case hg => rfl); (case hr => first | (go_simp; done) | (go_simp; rfl)); intro gb101 hg w25 hbox hb; have n0_ := Aside0.mk (IsS206.below (by repeat (first | (with_reducible first | exact HI0.out | apply IsS206.alloc | apply IsS206.drewN | apply IsS206.drew | apply IsS206.set_1 | apply IsS206.set_2) | exact HI0.out)) hb); have n1_ := Aside0.mk (KeepBut.trans (by repeat (first | (with_reducible first | exact HK.out | apply KeepBut.set_ | apply keep_drewN | apply keep_drew | apply keep_alloc) | exact HK.out)) (KeepBut.of_below hb g none) (.inl rfl)); have n2_ := Aside0.mk (below_step (by repeat (first | (with_reducible first | exact HB.out | apply below_alloc | apply pw_below_drewN | apply below_drew1 | refine below_set ?_ (IsS206.ge HI0.out)) | exact HB.out)) hb); have n3_ := Aside0.mk (hbox); have n4_ := Aside0.mk ((by rw [hg]; exact (keep_size (w := w) (g := g) (row := none) (by repeat (first | (with_reducible first | exact HK.out | apply KeepBut.set_ | apply keep_drewN | apply keep_drew | apply keep_alloc) | exact HK.out))) : w.heap.size ≤ gb101)); have n5_ := Aside0.mk ((Nat.le_trans HW0.out (by rw [hg]; exact (keep_size (w := w) (g := g) (row := none) (by repeat (first | (with_reducible first | exact HK.out | apply KeepBut.set_ | apply keep_drewN | apply keep_drew | apply keep_alloc) | exact HK.out))) : w.heap.size ≤ gb101) : w0.heap.size ≤ gb101)); have n6_ := Aside0.mk ((by rw [hg]; exact Nat.ne_of_lt (IsS206.lt (show IsS206 w0 _ g s0_0 s0_1 s0_2 from by repeat (first | (with_reducible first | exact HI0.out | apply IsS206.alloc | apply IsS206.drewN | apply IsS206.drew | apply IsS206.set_1 | apply IsS206.set_2) | exact HI0.out))) : g ≠ gb101)); have n7_ := Aside0.mk ((by rw [hg]; exact Nat.ne_of_gt (IsS206.lt (show IsS206 w0 _ g s0_0 s0_1 s0_2 from by repeat (first | (with_reducible first | exact HI0.out | apply IsS206.alloc | apply IsS206.drewN | apply IsS206.drew | apply IsS206.set_1 | apply IsS206.set_2) | exact HI0.out))) : gb101 ≠ g)); clear HI0; clear HK; clear HB; have HI0 := n0_; have HK := n1_; have HB := n2_; have BK101 := n3_; have GW101 := n4_; have GE101 := n5_; have NB0_101 := n6_; have NB101_0 := n7_; clear n0_ n1_ n2_ n3_ n4_ n5_ n6_ n7_; clear hb hbox hg) | ((with_reducible refine gate_callee (f := 143) rfl ?_); refine goesL_ (some 8) rfl rfl Try.func143 (by kernel_rfl) rfl #[.pointer (some ⟨g, 0, none⟩)] rfl (by (try simp only [List.map_toArray, List.map_cons, List.map_nil]); first | done | rfl | (simp only [List.length_drop, List.length_take]; rfl)) ?_; (with_reducible refine (pack_Reader_Get8.calls g s0_0 s0_1 s0_2 t102 t103 t104 w0 _ ?side1 ?side2 A3.out).mono ?_); (case side1 => repeat (first | (with_reducible first | exact HI0.out | apply IsS206.alloc | apply IsS206.drewN | apply IsS206.drew | apply IsS206.set_1 | apply IsS206.set_2 | refine IsS206.far ?_ NB0_101.out _) | exact HI0.out)); (case side2 => repeat (first | (with_reducible first | exact HB.out | apply below_alloc | apply pw_below_drewN | apply below_drew1 | refine below_set ?_ (IsS206.ge HI0.out) | refine below_set ?_ GE101.out) | exact HB.out)); rintro e w26 ⟨rfl, hi, hb, hk⟩; refine ⟨_, rfl, ?_⟩; have n0_ := Aside0.mk (KeepBut.blk hk (g' := gb101) (o := .cells #[.string (⟨#[]⟩ : ByteArray), .string (⟨#[]⟩ : ByteArray)] 145 (0, 0)) (by (with_reducible repeat (first | refine blk_drewN ?_ _ | refine blk_drew ?_ | refine blk_alloc ?_ _)); exact BK101.out) NB101_0.out (by simp)); have n1_ := Aside0.mk (KeepBut.trans (by repeat (first | (with_reducible first | exact HK.out | apply KeepBut.set_ | apply keep_drewN | apply keep_drew | apply keep_alloc | refine keep_far ?_ GW101.out _) | exact HK.out)) hk (.inl rfl)); have n2_ := Aside0.mk (hb); have n3_ := Aside0.mk (hi); clear BK101; clear HK; clear HB; clear HI0; have BK101 := n0_; have HK := n1_; have HB := n2_; have HI0 := n3_; clear n0_ n1_ n2_ n3_; (try clear hb); (try clear hb2); (try clear hk); (try clear hi)))
          have n0_ := Aside0.mk (blk_drew BK101.out)
          have n1_ := Aside0.mk (IsS206.drew HI0.out)
          have n2_ := Aside0.mk (keep_drew HK.out)
          have n3_ := Aside0.mk (below_drew1 HB.out)
          clear BK101
          clear HI0
          clear HK
          clear HB
          have BK101 := n0_
          have HI0 := n1_
          have HK := n2_
          have HB := n3_
          clear n0_ n1_ n2_ n3_
          refine start_ (n := 9) (S := fun w' => True) (ds := []) #[false, false, false, false, false, false, false, false, false] (by kernel_rfl) rfl rfl trivial (fun hHeld => ?_); refine with_tabW dump_pair.tab5 dump_pair.bits5 (fun HT_ HW_ => ?_)
          generalize w26.drew = w27 at BK101 HI0 HK HB hHeld ⊢
          refine pure_ (i := 0) (N := some 16) (v := ?_) (a' := ?_) #[true, false, false, false, false, false, false, false, false] rfl rfl (any_of HT_.out (by kernel_rfl)) (fun _ _ _ h => h) (Or.inl ⟨by rfl, ?_⟩) ?_ ?_
          rotate_left
          · intro w'
            go_simp
            with_reducible rfl
          rotate_left
          · simp only [Act.put, List.setIfInBounds_toArray, List.set_cons_zero, List.set_cons_succ, i64_w, i32_w]
            rfl
          refine pure_ (i := 1) (N := some 17) (v := ?_) (a' := ?_) #[true, true, false, false, false, false, false, false, false] rfl rfl (any_of HT_.out (by kernel_rfl)) (fun _ _ _ h => h) (Or.inl ⟨by rfl, ?_⟩) ?_ ?_
          rotate_left
          · intro w'
            go_simp
            with_reducible rfl
          rotate_left
          · simp only [Act.put, List.setIfInBounds_toArray, List.set_cons_zero, List.set_cons_succ, i64_w, i32_w]
            rfl
          refine pure_ (i := 2) (N := some 18) (v := ?_) (a' := ?_) #[true, true, true, false, false, false, false, false, false] rfl rfl (any_of HT_.out (by kernel_rfl)) (fun _ _ _ h => h) (Or.inl ⟨by rfl, ?_⟩) ?_ ?_
          rotate_left
          · intro w'
            go_simp
            with_reducible rfl
          rotate_left
          · simp only [Act.put, List.setIfInBounds_toArray, List.set_cons_zero, List.set_cons_succ, i64_w, i32_w]
            rfl
          refine pure_ (i := 3) (N := some 19) (v := ?_) (a' := ?_) #[true, true, true, true, false, false, false, false, false] rfl rfl (any_of HT_.out (by kernel_rfl)) (fun _ _ _ h => h) (Or.inl ⟨by rfl, ?_⟩) ?_ ?_
          rotate_left
          · intro w'
            go_simp
            with_reducible rfl
          rotate_left
          · simp only [Act.put, List.setIfInBounds_toArray, List.set_cons_zero, List.set_cons_succ, i64_w, i32_w]
            rfl
          refine pure_ (i := 4) (N := some 20) (v := ?_) (a' := ?_) #[true, true, true, true, true, false, false, false, false] rfl rfl (any_of HT_.out (by kernel_rfl)) (fun _ _ _ h => h) (Or.inl ⟨by rfl, ?_⟩) ?_ ?_
          rotate_left
          · intro w'
            go_simp
            with_reducible rfl
          rotate_left
          · simp only [Act.put, List.setIfInBounds_toArray, List.set_cons_zero, List.set_cons_succ, i64_w, i32_w]
            rfl
          refine pure_ (i := 5) (N := some 21) (v := ?_) (a' := ?_) #[true, true, true, true, true, true, false, false, false] rfl rfl (any_of HT_.out (by kernel_rfl)) (fun _ _ _ h => h) (Or.inl ⟨by rfl, ?_⟩) ?_ ?_
          rotate_left
          · intro w'
            go_simp
            with_reducible rfl
          rotate_left
          · simp only [Act.put, List.setIfInBounds_toArray, List.set_cons_zero, List.set_cons_succ, i64_w, i32_w]
            rfl
          refine one_ (i := 6) (N := some 22) #[true, true, true, true, true, true, true, false, false] rfl rfl (one_of HT_.out (by kernel_rfl)) (by decide) (fun K hK => ?_)
          refine goes_ Try.func145 (by kernel_rfl) rfl #[.pointer (some ⟨g, 0, none⟩), .int .i64 (wrap64 (16 - (ji19)))] (by rfl) rfl rfl (by (try simp only [List.map_toArray, List.map_cons, List.map_nil]); first | done | (simp only [hji19]; rfl) | rfl | (simp only [List.length_drop, List.length_take]; rfl)) ?_
          with_reducible refine (pack_Reader_GetText.calls g s0_0 t103 t104 (wrap64 (16 - (ji19))) t113 t114 t115 w0 _ ?side1 ?side2 A22.out).mono ?_
          (case side1 => repeat (first | (with_reducible first | exact HI0.out | apply IsS206.alloc | apply IsS206.drewN | apply IsS206.drew | apply IsS206.set_1 | apply IsS206.set_2 | refine IsS206.far ?_ NB0_101.out _) | exact HI0.out))
          (case side2 => repeat (first | (with_reducible first | exact HB.out | apply below_alloc | apply pw_below_drewN | apply below_drew1 | refine below_set ?_ (IsS206.ge HI0.out) | refine below_set ?_ GE101.out) | exact HB.out))
          rintro e w28 ⟨rfl, hi, hb, hk⟩
          refine ⟨_, rfl, ?_⟩
          have n0_ := Aside0.mk (KeepBut.blk hk (g' := gb101) (o := .cells #[.string (⟨#[]⟩ : ByteArray), .string (⟨#[]⟩ : ByteArray)] 145 (0, 0)) (by (with_reducible repeat (first | refine blk_drewN ?_ _ | refine blk_drew ?_ | refine blk_alloc ?_ _)); exact BK101.out) NB101_0.out (by simp))
          have n1_ := Aside0.mk (KeepBut.trans (by repeat (first | (with_reducible first | exact HK.out | apply KeepBut.set_ | apply keep_drewN | apply keep_drew | apply keep_alloc | refine keep_far ?_ GW101.out _) | exact HK.out)) hk (.inl rfl))
          have n2_ := Aside0.mk (hb)
          have n3_ := Aside0.mk (hi)
          clear BK101
          clear HK
          clear HB
          clear HI0
          have BK101 := n0_
          have HK := n1_
          have HB := n2_
          have HI0 := n3_
          clear n0_ n1_ n2_ n3_
          (try clear hb)
          (try clear hb2)
          (try clear hk)
          (try clear hi)
          refine hK.out _ _ trivial (fun hHeld => ?_)
          clear hK K
          refine norm_ (a' := ?_) ?_ ?_
          rotate_left
          · show Act.put _ (some 22) _ = _
            simp only [Act.put, List.setIfInBounds_toArray, List.set_cons_zero, List.set_cons_succ, i64_w, i32_w]
            rfl
          refine pure_ (i := 7) (N := some 23) (v := ?_) (a' := ?_) #[true, true, true, true, true, true, true, true, false] rfl rfl (any_of HT_.out (by kernel_rfl)) (fun _ _ _ h => h) (Or.inl ⟨by rfl, ?_⟩) ?_ ?_
          rotate_left
          · intro w'
            go_simp
            with_reducible rfl
          rotate_left
          · simp only [Act.put, List.setIfInBounds_toArray, List.set_cons_zero, List.set_cons_succ, i64_w, i32_w]
            rfl
          refine pure_ (i := 8) (N := some 6) (v := ?_) (a' := ?_) #[true, true, true, true, true, true, true, true, true] rfl rfl (any_of HT_.out (by kernel_rfl)) (fun _ _ _ h => h) (Or.inl ⟨by rfl, ?_⟩) ?_ ?_
          rotate_left
          · intro w'
            go_simp
            with_reducible rfl
          rotate_left
          · simp only [Act.put, List.setIfInBounds_toArray, List.set_cons_zero, List.set_cons_succ, i64_w, i32_w]
            rfl
          refine done_ (done_of HT_.out (by kernel_rfl)) ?_
          try go_wp2_with (first | ((with_reducible refine gate_callee (f := 145) rfl ?_); refine goesL_ (some 26) rfl rfl Try.func145 (by kernel_rfl) rfl #[.pointer (some ⟨g, 0, none⟩), .int .i64 32] rfl (by (try simp only [List.map_toArray, List.map_cons, List.map_nil]); first | done | rfl | (simp only [List.length_drop, List.length_take]; rfl)) ?_; (with_reducible refine (pack_Reader_GetText.calls g s0_0 t114 t115 32 t116 t117 t118 w0 _ ?side1 ?side2 A24.out).mono ?_); (case side1 => repeat (first | (with_reducible first | exact HI0.out | apply IsS206.alloc | apply IsS206.drewN | apply IsS206.drew | apply IsS206.set_1 | apply IsS206.set_2 | refine IsS206.far ?_ NB0_101.out _) | exact HI0.out)); (case side2 => repeat (first | (with_reducible first | exact HB.out | apply below_alloc | apply pw_below_drewN | apply below_drew1 | refine below_set ?_ (IsS206.ge HI0.out) | refine below_set ?_ GE101.out) | exact HB.out)); rintro e w29 ⟨rfl, hi, hb, hk⟩; refine ⟨_, rfl, ?_⟩; have n0_ := Aside0.mk (KeepBut.blk hk (g' := gb101) (o := .cells #[.string (⟨#[]⟩ : ByteArray), .string (⟨#[]⟩ : ByteArray)] 145 (0, 0)) (by (with_reducible repeat (first | refine blk_drewN ?_ _ | refine blk_drew ?_ | refine blk_alloc ?_ _)); exact BK101.out) NB101_0.out (by simp)); have n1_ := Aside0.mk (KeepBut.trans (by repeat (first | (with_reducible first | exact HK.out | apply KeepBut.set_ | apply keep_drewN | apply keep_drew | apply keep_alloc | refine keep_far ?_ GW101.out _) | exact HK.out)) hk (.inl rfl)); have n2_ := Aside0.mk (hb); have n3_ := Aside0.mk (hi); clear BK101; clear HK; clear HB; clear HI0; have BK101 := n0_; have HK := n1_; have HB := n2_; have HI0 := n3_; clear n0_ n1_ n2_ n3_; (try clear hb); (try clear hb2); (try clear hk); (try clear hi); have hnb30 := NB101_0.out; have hnc30 := NB0_101.out; have hcz31_0 : w29.cell? ⟨gb101, 0, none⟩ = some (.string (⟨#[]⟩ : ByteArray)) := (blk_cell BK101.out 0).trans rfl; have hcz31_1 : w29.cell? ⟨gb101, 1, none⟩ = some (.string (⟨#[]⟩ : ByteArray)) := (blk_cell BK101.out 1).trans rfl; have hfz31_0 := blk_frozen BK101.out 0; have hfz31_1 := blk_frozen BK101.out 1))
          refine bodyPost_ret (results_cell_row rfl _ _ gb101 145 #[.string ((a1.extract 0 ((ji19) : Int).toNat) ++ t113), .string t116] (0, 0) _ rfl (by (with_reducible repeat (first | refine blk_drewN ?_ _ | refine blk_drew ?_ | refine blk_alloc ?_ _)); refine blk_put (cs := #[.string ((a1.extract 0 ((ji19) : Int).toNat) ++ t113), .string (⟨#[]⟩ : ByteArray)]) ?_ 1 _ rfl; (with_reducible repeat (first | refine blk_drewN ?_ _ | refine blk_drew ?_ | refine blk_alloc ?_ _)); refine blk_put (cs := #[.string (⟨#[]⟩ : ByteArray), .string (⟨#[]⟩ : ByteArray)]) ?_ 0 _ rfl; (with_reducible repeat (first | refine blk_drewN ?_ _ | refine blk_drew ?_ | refine blk_alloc ?_ _)); exact BK101.out) Try.underlying145 rfl (by kernel_rfl)) rfl ?_
          exact ⟨by first | rfl | (simp [errW_none, errW_some] <;> rfl) | (simp only [← hji19]; first | rfl | (simp [errW_none, errW_some] <;> rfl)) | (simp [*, errW_none, errW_some] <;> rfl), by repeat (first | (with_reducible first | exact HI0.out | apply IsS206.alloc | apply IsS206.drewN | apply IsS206.drew | apply IsS206.set_1 | apply IsS206.set_2 | refine IsS206.far ?_ NB0_101.out _) | exact HI0.out), by repeat (first | (with_reducible first | exact HB.out | apply below_alloc | apply pw_below_drewN | apply below_drew1 | refine below_set ?_ (IsS206.ge HI0.out) | refine below_set ?_ GE101.out) | exact HB.out), by repeat (first | (with_reducible first | exact HK.out | apply KeepBut.set_ | apply keep_drewN | apply keep_drew | apply keep_alloc | refine keep_far ?_ GW101.out _) | exact HK.out)⟩
        · rw [if_neg c23] at H
          exact absurd H (by simp)
      · rw [if_neg c21] at H
        exact absurd H (by simp)
    · rw [if_neg c20] at H
      exact absurd H (by simp)

end Go.Proofs.Ytfdemnefkfkghaa.X
