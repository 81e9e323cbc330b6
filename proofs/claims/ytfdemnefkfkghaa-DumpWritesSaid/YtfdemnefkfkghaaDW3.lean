/- Parts of the proof of YtfdemnefkfkghaaRowDumpWrites, one behind the other: XF27, QRef, XE145, XF44, XF24, XE149, XF30, XF31, HRefOps, QOps, XS206. -/
import Derived.Test.YtfdemnefkfkghaaDW0
import Derived.Test.YtfdemnefkfkghaaDW1
import Derived.Test.YtfdemnefkfkghaaDW2
import Derived.Lib.Strings
namespace Go.Proofs.Ytfdemnefkfkghaa.X
open Go.RowKit Go.Proofs.YtfdemnefkfkghaaW.PrintWords Go.Proofs.YtfdemnefkfkghaaW.PrintLast Go.Proofs.YtfdemnefkfkghaaW.PrintMore
attribute [local go_sem] max2_int min2_int max_two min_two max_three min_three max_four min_four   -- for this text's walks alone
attribute [local go_sem high] Go.Proofs.Ytfdemnefkfkghaa.XW.leq Go.Proofs.Ytfdemnefkfkghaa.XW.gtr Go.Proofs.Ytfdemnefkfkghaa.XW.geq
set_option linter.unusedVariables false
set_option linter.unusedSimpArgs false

mutual
def marcotref32_Put.l0 : Nat → List (S136) → List Int → Int → Int → Option (List Int × Int)
  | 0, _, _, _, _ => none
  | k + 1, x0, x4, x19, x20 => if x20 < x19 then (if 0 ≤ x20 then (if x20 < (x0.length : Int) then ((marcotref02_PutText.f k x4 ((rd_T136 x0 x20).f0)).bind fun t112 => ((marcotref02_Put.f k t112 (IntKind.u64.wrap ((((rd_T136 x0 x20).f1).length : Int))) 4).bind fun t116 => (marcotref32_Put.l1 k x0 t116 x20 (⟨#[]⟩ : ByteArray) x19 x20 (((rd_T136 x0 x20).f1).length : Int) 0))) else (none)) else (none)) else ((marcotref01_Mark.f k x4).bind fun t108 => (some (t108, 0)))
def marcotref32_Put.l1 : Nat → List (S136) → List Int → Int → ByteArray → Int → Int → Int → Int → Option (List Int × Int)
  | 0, _, _, _, _, _, _, _, _ => none
  | k + 1, x0, x4, x5, x6, x19, x20, x44, x45 => if x45 < x44 then (if 0 ≤ x5 then (if x5 < (x0.length : Int) then (if 0 ≤ x45 then (if x45 < (((rd_T136 x0 x5).f1).length : Int) then ((marcotref03_Common.f k x6 ((rd_T145 ((rd_T136 x0 x5).f1) x45).f0)).bind fun t123 => (if x4.length < 140737488355328 then (if 0 ≤ (t123.size : Int) then (if (t123.size : Int) ≤ (((rd_T145 ((rd_T136 x0 x5).f1) x45).f0).size : Int) then ((marcotref02_PutText.f k (x4 ++ [((t123.size : Int)) % 256]) (((rd_T145 ((rd_T136 x0 x5).f1) x45).f0).extract ((t123.size : Int) : Int).toNat ((rd_T145 ((rd_T136 x0 x5).f1) x45).f0).size)).bind fun t127 => ((marcotref02_PutText.f k t127 ((rd_T145 ((rd_T136 x0 x5).f1) x45).f1)).bind fun t130 => (marcotref32_Put.l1 k x0 t130 x5 ((rd_T145 ((rd_T136 x0 x5).f1) x45).f0) x19 x20 x44 (wrap64 (x45 + 1))))) else (none)) else (none)) else (none))) else (none)) else (none)) else (none)) else (none)) else (marcotref32_Put.l0 k x0 x4 x19 (wrap64 (x20 + 1)))
end
def marcotref32_Put.f (k : Nat) (l0 : List (S136)) : Option (List Int × Int) := (marcotref32_May.f k l0).bind fun t101 => (if t101 = true then (marcotref32_Put.l0 k l0 (([109, 114, 99, 116, ((l0.length : Int)) % 256] : List Int)) (l0.length : Int) 0) else (some ((([] : List Int)), 1)))
theorem marcotref32_Put.mono_l : ∀ k, (∀ y0 y1 y2 y3, LeO (marcotref32_Put.l0 k y0 y1 y2 y3) (marcotref32_Put.l0 (k + 1) y0 y1 y2 y3)) ∧ (∀ y0 y1 y2 y3 y4 y5 y6 y7, LeO (marcotref32_Put.l1 k y0 y1 y2 y3 y4 y5 y6 y7) (marcotref32_Put.l1 (k + 1) y0 y1 y2 y3 y4 y5 y6 y7))
  | 0 => ⟨fun _ _ _ _ r h => by simp [marcotref32_Put.l0] at h, fun _ _ _ _ _ _ _ _ r h => by simp [marcotref32_Put.l1] at h⟩
  | k + 1 => by
    obtain ⟨ih0, ih1⟩ := marcotref32_Put.mono_l k
    refine ⟨?_, ?_⟩
    · intro y0 y1 y2 y3
      unfold marcotref32_Put.l0
      repeat' first
      | (with_reducible exact ih0 _ _ _ _)
      | (with_reducible exact ih1 _ _ _ _ _ _ _ _)
      | (with_reducible exact marcotref01_Mark.mono _ _)
      | (with_reducible exact marcotref02_Put.mono _ _ _ _)
      | (with_reducible exact marcotref02_PutText.mono _ _ _)
      | (with_reducible exact marcotref03_Common.mono _ _ _)
      | (with_reducible exact marcotref32_May.mono _ _)
      | (with_reducible exact LeO.refl _)
      | (with_reducible exact LeO.none _)
      | (with_reducible refine LeO.ite ?_ ?_)
      | (with_reducible refine LeO.bind ?_ (fun _ => ?_))
      | exact ih0 _ _ _ _
      | exact ih1 _ _ _ _ _ _ _ _
      | exact marcotref01_Mark.mono _ _
      | exact marcotref02_Put.mono _ _ _ _
      | exact marcotref02_PutText.mono _ _ _
      | exact marcotref03_Common.mono _ _ _
      | exact marcotref32_May.mono _ _
      | exact LeO.none _
      | refine LeO.ite ?_ ?_
      | refine LeO.bind ?_ (fun _ => ?_)
    · intro y0 y1 y2 y3 y4 y5 y6 y7
      unfold marcotref32_Put.l1
      repeat' first
      | (with_reducible exact ih0 _ _ _ _)
      | (with_reducible exact ih1 _ _ _ _ _ _ _ _)
      | (with_reducible exact marcotref01_Mark.mono _ _)
      | (with_reducible exact marcotref02_Put.mono _ _ _ _)
      | (with_reducible exact marcotref02_PutText.mono _ _ _)
      | (with_reducible exact marcotref03_Common.mono _ _ _)
      | (with_reducible exact marcotref32_May.mono _ _)
      | (with_reducible exact LeO.refl _)
      | (with_reducible exact LeO.none _)
      | (with_reducible refine LeO.ite ?_ ?_)
      | (with_reducible refine LeO.bind ?_ (fun _ => ?_))
      | exact ih0 _ _ _ _
      | exact ih1 _ _ _ _ _ _ _ _
      | exact marcotref01_Mark.mono _ _
      | exact marcotref02_Put.mono _ _ _ _
      | exact marcotref02_PutText.mono _ _ _
      | exact marcotref03_Common.mono _ _ _
      | exact marcotref32_May.mono _ _
      | exact LeO.none _
      | refine LeO.ite ?_ ?_
      | refine LeO.bind ?_ (fun _ => ?_)
theorem marcotref32_Put.mono : ∀ a0 k, LeO (marcotref32_Put.f k a0) (marcotref32_Put.f (k + 1) a0) := by
  intro a0 k
  obtain ⟨ih0, ih1⟩ := marcotref32_Put.mono_l k
  unfold marcotref32_Put.f
  repeat' first
      | (with_reducible exact ih0 _ _ _ _)
      | (with_reducible exact ih1 _ _ _ _ _ _ _ _)
      | (with_reducible exact marcotref01_Mark.mono _ _)
      | (with_reducible exact marcotref02_Put.mono _ _ _ _)
      | (with_reducible exact marcotref02_PutText.mono _ _ _)
      | (with_reducible exact marcotref03_Common.mono _ _ _)
      | (with_reducible exact marcotref32_May.mono _ _)
      | (with_reducible exact LeO.refl _)
      | (with_reducible exact LeO.none _)
      | (with_reducible refine LeO.ite ?_ ?_)
      | (with_reducible refine LeO.bind ?_ (fun _ => ?_))
      | exact ih0 _ _ _ _
      | exact ih1 _ _ _ _ _ _ _ _
      | exact marcotref01_Mark.mono _ _
      | exact marcotref02_Put.mono _ _ _ _
      | exact marcotref02_PutText.mono _ _ _
      | exact marcotref03_Common.mono _ _ _
      | exact marcotref32_May.mono _ _
      | exact LeO.none _
      | refine LeO.ite ?_ ?_
      | refine LeO.bind ?_ (fun _ => ?_)
set_option maxHeartbeats 8000000 in
set_option maxRecDepth 100000 in
theorem marcotref32_Put.calls (k : Nat) (A0 : Option Addr) (c0 : Nat) (l0 : List (S136)) (r1 : List Int) (r2 : Int) (w : World) (hr0 : Kd.C k136 w A0 l0.length l0) (hc0 : l0.length ≤ c0) (h : marcotref32_Put.f k l0 = some (r1, r2)) :
    Calls Try.prog 27 #[.slice A0 l0.length c0] w fun e w' => ∃ v0_ : Value, e = .returned (.tuple #[v0_, .int .i64 r2]) ∧ Kd.R (Kd.int .u8) 5 w' w.heap.size (fun _ => True) v0_ r1 ∧ Below w.heap.size w w' := by
  have hu145 := Try.underlying145
  have HR0 := Aside0.mk hr0
  have HC0 := Aside0.mk hc0
  clear hr0 hc0
  have HB := Aside0.mk (Below.refl w.heap.size w)
  have H : ((marcotref32_May.f k l0).bind fun t101 => (if t101 = true then (marcotref32_Put.l0 k l0 (([109, 114, 99, 116, ((l0.length : Int)) % 256] : List Int)) (l0.length : Int) 0) else (some ((([] : List Int)), 1)))) = some (r1, r2) := h
  clear h
  replace H := Option.bind_eq_some_iff.mp H
  obtain ⟨t101, A20, H⟩ := H
  replace H : (if t101 = true then (marcotref32_Put.l0 k l0 (([109, 114, 99, 116, ((l0.length : Int)) % 256] : List Int)) (l0.length : Int) 0) else (some ((([] : List Int)), 1))) = some (r1, r2) := H
  have A2 := Aside0.mk A20
  clear A20
  by_cases c3 : t101 = true
  · subst c3
    have H1 : (marcotref32_Put.l0 k l0 (([109, 114, 99, 116, ((l0.length : Int)) % 256] : List Int)) (l0.length : Int) 0) = some (r1, r2) := by rw [if_pos rfl] at H; exact H
    clear H
    have H := H1
    clear H1
    obtain ⟨y105, hy105⟩ : ∃ y_ : List Int, y_ = (([109, 114, 99, 116, ((l0.length : Int)) % 256] : List Int)) := ⟨_, rfl⟩
    replace H : (marcotref32_Put.l0 k l0 y105 (l0.length : Int) 0) = some (r1, r2) := by first | (rw [hy105]; with_reducible exact H) | (have H2_ := (Option.bind_some _ _).symm.trans H; rw [hy105]; with_reducible exact H2_) | (have H2_ := (Option.bind_some _ _).symm.trans H; with_reducible exact H2_) | with_reducible exact H | (rw [hy105]; exact H) | exact H
    have Ny105 := Aside0.mk hy105
    clear hy105
    have H' := Aside0.mk H
    clear H
    go_enter Try.func27, Try.ntmps27
    go_wp2_with (first | ((with_reducible refine gate_callee (f := 29) rfl ?_); refine goesL_ (some 11) rfl rfl Try.func29 (by kernel_rfl) rfl #[.slice A0 l0.length c0] rfl (by (try simp only [List.map_toArray, List.map_cons, List.map_nil]); first | done | rfl | (simp only [List.length_drop, List.length_take]; rfl)) ?_; (with_reducible refine (marcotref32_May.calls k _ _ l0 true _ ?side1 ?side2 A2.out).mono ?_); (case side1 => repeat (first | exact HR0.out | (with_reducible refine Kd.C_alloc ?_ _) | (with_reducible refine Kd.C_drewN ?_ _) | (with_reducible refine Kd.C_drew ?_))); (case side2 => exact HC0.out); rintro e w4 ⟨rfl, hb⟩; refine ⟨_, rfl, ?_⟩; have n0_ := Aside0.mk (below_step (by repeat (first | (with_reducible first | exact HB.out | apply below_alloc | apply pw_below_drewN | apply below_drew1) | exact HB.out)) hb); clear HB; have HB := n0_; clear n0_; (try clear hb); (try clear hb2); (try clear hk); (try clear hi)) | ((with_reducible refine gate_dst (N := 17) rfl ?_); refine Kd.R_lit (Kd.int .u8) _ 5 ?hg (N := 17) ?hd (xs := ([109, 114, 99, 116, ((l0.length : Int)) % 256] : List Int)) (inner := [.int .u8 109, .int .u8 114, .int .u8 99, .int .u8 116, .int .u8 (((l0.length : Int)) % 256)]) (ok := fun _ => True) (okp := fun _ => True) ?hr ?hp (fun _ hk => hk) trivial (Below.refl _ _) (Nat.le_refl _) (by simp) ?_; (case hd => rfl); (case hg => rfl); (case hr => first | (go_simp; done) | (go_simp; rfl)); (case hp => exact (Reps.one (show Kd.M (Kd.int .u8) _ _ _ 109 [.int .u8 109] from rfl) (Reps.one (show Kd.M (Kd.int .u8) _ _ _ 114 [.int .u8 114] from rfl) (Reps.one (show Kd.M (Kd.int .u8) _ _ _ 99 [.int .u8 99] from rfl) (Reps.one (show Kd.M (Kd.int .u8) _ _ _ 116 [.int .u8 116] from rfl) (Reps.one (show Kd.M (Kd.int .u8) _ _ _ (((l0.length : Int)) % 256) [.int .u8 (((l0.length : Int)) % 256)] from rfl) (Reps.none _ _))))))); intro v106 w5 ho6 hb hg_ hnew_; clear hg_ hnew_; (first | rw [← Ny105.out] at ho6 | (simp only [Int.reduceToNat] at ho6; rw [← Ny105.out] at ho6)); have n0_ := Aside0.mk (Kd.R_lower ho6 (below_size (by repeat (first | (with_reducible first | exact HB.out | apply below_alloc | apply pw_below_drewN | apply below_drew1) | exact HB.out)))); have n1_ := Aside0.mk (below_step (by repeat (first | (with_reducible first | exact HB.out | apply below_alloc | apply pw_below_drewN | apply below_drew1) | exact HB.out)) hb); clear HB; have HO107 := n0_; have HB := n1_; clear n0_ n1_; clear hb ho6))
    go_loopg [4, 20] k (fun kq v4 v20 w' => ∃ (x4_1 : List Int) (x20_1 : Int), v20 = .int .i64 x20_1 ∧ Aside0 (marcotref32_Put.l0 kq l0 x4_1 (l0.length : Int) x20_1 = some (r1, r2)) ∧ Aside0 (kq ≤ k) ∧ Aside0 (Kd.R (Kd.int .u8) 5 w' w.heap.size (fun _ => True) v4 x4_1) ∧ Aside0 (Below w.heap.size w w'))
    case atStart => exact ⟨(y105), (0), (by first | rfl | (simp; done) | (simp [*]; done)), H', ⟨Nat.le_refl _⟩, ⟨by (with_reducible repeat (first | apply Kd.R_alloc | apply Kd.R_drewN | apply Kd.R_drew)); exact HO107.out⟩, ⟨by repeat (first | (with_reducible first | exact HB.out | apply below_alloc | apply pw_below_drewN | apply below_drew1) | exact HB.out)⟩⟩
    case round =>
      clear H'
      try clear c2
      try clear p2
      try clear c3
      obtain ⟨x4_1, x20_1, rfl, HA, HK1, HO_4, HB⟩ := hrel
      cases gk with
      | zero => exact absurd HA.out (by simp [marcotref32_Put.l0])
      | succ k1 =>
        have H := HA.out
        clear HA
        simp only [marcotref32_Put.l0] at H
        by_cases c7 : x20_1 < (l0.length : Int)
        · rw [if_pos c7] at H
          have c7b0 : decide (x20_1 < (l0.length : Int)) = true := decide_eq_true c7
          clear c7
          by_cases c8 : 0 ≤ x20_1
          · rw [if_pos c8] at H
            have c8b0 : decide (0 ≤ x20_1) = true := decide_eq_true c8
            clear c8
            by_cases c9 : x20_1 < (l0.length : Int)
            · rw [if_pos c9] at H
              have c9b0 : decide (x20_1 < (l0.length : Int)) = true := decide_eq_true c9
              clear c9
              replace H := Option.bind_eq_some_iff.mp H
              obtain ⟨t112, A100, H⟩ := H
              replace H : ((marcotref02_Put.f k1 t112 (IntKind.u64.wrap ((((rd_T136 l0 x20_1).f1).length : Int))) 4).bind fun t116 => (marcotref32_Put.l1 k1 l0 t116 x20_1 (⟨#[]⟩ : ByteArray) (l0.length : Int) x20_1 (((rd_T136 l0 x20_1).f1).length : Int) 0)) = some (r1, r2) := H
              have A10 := Aside0.mk A100
              clear A100
              replace H := Option.bind_eq_some_iff.mp H
              obtain ⟨t116, A110, H⟩ := H
              replace H : (marcotref32_Put.l1 k1 l0 t116 x20_1 (⟨#[]⟩ : ByteArray) (l0.length : Int) x20_1 (((rd_T136 l0 x20_1).f1).length : Int) 0) = some (r1, r2) := H
              have A11 := Aside0.mk A110
              clear A110
              have H' := Aside0.mk H
              clear H
              have p111 : 0 ≤ (x20_1 : Int) := of_decide_eq_true (by first | (with_reducible assumption) | assumption)
              have q111 : x20_1 < (l0.length : Int) := of_decide_eq_true (by first | (with_reducible assumption) | assumption)
              obtain ⟨ad111, A111_1, c111_1, e111, hx111_0, hx111_1, hl111_1, hi111_1⟩ := at_T136 HR0.out x20_1 p111 q111
              cases e111
              replace hx111_0 := (HB.out.cell (World.block_lt_of_cell? w _ hx111_0)).trans hx111_0
              replace hx111_1 := (HB.out.cell (World.block_lt_of_cell? w _ hx111_1)).trans hx111_1
              have HR111_1 := Aside0.mk hi111_1
              have HC111_1 := Aside0.mk hl111_1
              clear hi111_1 hl111_1
              replace p111 := eq_true p111
              replace q111 := eq_true q111
              obtain ⟨Ao12, co12, eo12⟩ := Kd.R_slice HO_4.out
              subst eo12
              go_wp2_with (first | ((with_reducible refine gate_callee (f := 86) rfl ?_); refine goesL_ (some 29) rfl rfl Try.func86 (by kernel_rfl) rfl #[.slice Ao12 x4_1.length co12, .string ((rd_T136 l0 x20_1).f0)] rfl (by (try simp only [List.map_toArray, List.map_cons, List.map_nil]); first | done | rfl | (simp only [List.length_drop, List.length_take]; rfl)) ?_; (with_reducible refine (marcotref02_PutText.calls k1 _ _ x4_1 ((rd_T136 l0 x20_1).f0) t112 _ ?side1 ?side2 A10.out).mono ?_); (case side1 => repeat (first | exact (Kd.R_reads' HO_4.out).2.2 | (with_reducible refine Kd.C_alloc ?_ _) | (with_reducible refine Kd.C_drewN ?_ _) | (with_reducible refine Kd.C_drew ?_))); (case side2 => exact (Kd.R_reads' HO_4.out).2.1); rintro e w13 ⟨v113, rfl, ho0, hb⟩; refine ⟨_, rfl, ?_⟩; have n0_ := Aside0.mk (Kd.R_elder' (by (with_reducible repeat (first | apply Kd.R_alloc | apply Kd.R_drewN | apply Kd.R_drew)); exact HO_4.out) (Kd.R_base ho0) hb); have n1_ := Aside0.mk (Kd.R_lower (Kd.R_new' ho0 (Kd.R_lt (by (with_reducible repeat (first | apply Kd.R_alloc | apply Kd.R_drewN | apply Kd.R_drew)); exact HO_4.out))) (below_size (by repeat (first | (with_reducible first | exact HB.out | apply below_alloc | apply pw_below_drewN | apply below_drew1) | exact HB.out)))); have n2_ := Aside0.mk (below_step (by repeat (first | (with_reducible first | exact HB.out | apply below_alloc | apply pw_below_drewN | apply below_drew1) | exact HB.out)) hb); clear HO_4; clear HB; have HO_4 := n0_; have HO114 := n1_; have HB := n2_; clear n0_ n1_ n2_; (try clear hb); (try clear hb2); (try clear hk); (try clear hi); (try clear ho0); have p115 : 0 ≤ (x20_1 : Int) := of_decide_eq_true (by first | (with_reducible assumption) | assumption); have q115 : x20_1 < (l0.length : Int) := of_decide_eq_true (by first | (with_reducible assumption) | assumption); obtain ⟨ad115, A115_1, c115_1, e115, hx115_0, hx115_1, hl115_1, hi115_1⟩ := at_T136 HR0.out x20_1 p115 q115; obtain rfl : ad111 = ad115 := (by injection e115); replace hx115_0 := (HB.out.cell (World.block_lt_of_cell? w _ hx115_0)).trans hx115_0; replace hx115_1 := (HB.out.cell (World.block_lt_of_cell? w _ hx115_1)).trans hx115_1; have HR115_1 := Aside0.mk hi115_1; have HC115_1 := Aside0.mk hl115_1; clear hi115_1 hl115_1; replace p115 := eq_true p115; replace q115 := eq_true q115; obtain ⟨Ao14, co14, eo14⟩ := Kd.R_slice HO114.out; subst eo14) | ((with_reducible refine gate_callee (f := 87) rfl ?_); refine goesL_ (some 38) rfl rfl Try.func87 (by kernel_rfl) rfl #[.slice Ao14 t112.length co14, .int .u64 (IntKind.u64.wrap ((((rd_T136 l0 x20_1).f1).length : Int))), .int .i64 4] rfl (by (try simp only [List.map_toArray, List.map_cons, List.map_nil]); first | done | rfl | (simp only [List.length_drop, List.length_take]; rfl)) ?_; (with_reducible refine (marcotref02_Put.calls k1 _ _ t112 (IntKind.u64.wrap ((((rd_T136 l0 x20_1).f1).length : Int))) 4 t116 _ ?side1 ?side2 A11.out).mono ?_); (case side1 => repeat (first | exact (Kd.R_reads' HO114.out).2.2 | (with_reducible refine Kd.C_alloc ?_ _) | (with_reducible refine Kd.C_drewN ?_ _) | (with_reducible refine Kd.C_drew ?_))); (case side2 => exact (Kd.R_reads' HO114.out).2.1); rintro e w15 ⟨v117, rfl, ho0, hb⟩; refine ⟨_, rfl, ?_⟩; have n0_ := Aside0.mk (Kd.R_elder' (by (with_reducible repeat (first | apply Kd.R_alloc | apply Kd.R_drewN | apply Kd.R_drew)); exact HO_4.out) (Kd.R_base ho0) hb); have n1_ := Aside0.mk (Kd.R_elder' (by (with_reducible repeat (first | apply Kd.R_alloc | apply Kd.R_drewN | apply Kd.R_drew)); exact HO114.out) (Kd.R_base ho0) hb); have n2_ := Aside0.mk (Kd.R_lower (Kd.R_new' (Kd.R_new' ho0 (Kd.R_lt (by (with_reducible repeat (first | apply Kd.R_alloc | apply Kd.R_drewN | apply Kd.R_drew)); exact HO_4.out))) (Kd.R_lt (by (with_reducible repeat (first | apply Kd.R_alloc | apply Kd.R_drewN | apply Kd.R_drew)); exact HO114.out))) (below_size (by repeat (first | (with_reducible first | exact HB.out | apply below_alloc | apply pw_below_drewN | apply below_drew1) | exact HB.out)))); have n3_ := Aside0.mk (below_step (by repeat (first | (with_reducible first | exact HB.out | apply below_alloc | apply pw_below_drewN | apply below_drew1) | exact HB.out)) hb); clear HO_4; clear HO114; clear HB; have HO_4 := n0_; have HO114 := n1_; have HO118 := n2_; have HB := n3_; clear n0_ n1_ n2_ n3_; (try clear hb); (try clear hb2); (try clear hk); (try clear hi); (try clear ho0); have p119 : 0 ≤ (x20_1 : Int) := of_decide_eq_true (by first | (with_reducible assumption) | assumption); have q119 : x20_1 < (l0.length : Int) := of_decide_eq_true (by first | (with_reducible assumption) | assumption); obtain ⟨ad119, A119_1, c119_1, e119, hx119_0, hx119_1, hl119_1, hi119_1⟩ := at_T136 HR0.out x20_1 p119 q119; obtain rfl : ad111 = ad119 := (by injection e119); replace hx119_0 := (HB.out.cell (World.block_lt_of_cell? w _ hx119_0)).trans hx119_0; replace hx119_1 := (HB.out.cell (World.block_lt_of_cell? w _ hx119_1)).trans hx119_1; have HR119_1 := Aside0.mk hi119_1; have HC119_1 := Aside0.mk hl119_1; clear hi119_1 hl119_1; replace p119 := eq_true p119; replace q119 := eq_true q119))
              go_loopg [4, 6, 45] k1 (fun kq v4 v6 v45 w' => ∃ (x4_2 : List Int) (x6_2 : ByteArray) (x45_2 : Int), v6 = .string x6_2 ∧ v45 = .int .i64 x45_2 ∧ Aside0 (marcotref32_Put.l1 kq l0 x4_2 x20_1 x6_2 (l0.length : Int) x20_1 (((rd_T136 l0 x20_1).f1).length : Int) x45_2 = some (r1, r2)) ∧ Aside0 (kq ≤ k1) ∧ Aside0 (Kd.R (Kd.int .u8) 5 w' w.heap.size (fun _ => True) v4 x4_2) ∧ Aside0 (Below w.heap.size w w'))
              case atStart => exact ⟨(t116), ((⟨#[]⟩ : ByteArray)), (0), (by first | rfl | (simp; done) | (simp [*]; done)), (by first | rfl | (simp; done) | (simp [*]; done)), H', ⟨Nat.le_refl _⟩, ⟨by (with_reducible repeat (first | apply Kd.R_alloc | apply Kd.R_drewN | apply Kd.R_drew)); exact Kd.R_mono HO118.out (fun _ hk => trivial)⟩, ⟨by repeat (first | (with_reducible first | exact HB.out | apply below_alloc | apply pw_below_drewN | apply below_drew1) | exact HB.out)⟩⟩
              case round =>
                clear H'
                try clear c1
                try clear p1
                try clear q1
                try clear hx1
                try clear c2
                try clear p2
                try clear c3
                try clear c7
                try clear c7b0
                try clear c8
                try clear c8b0
                try clear c9
                try clear c9b0
                try clear c11
                try clear p11
                try clear q11
                try clear hx11
                try clear hx111_0
                try clear hx111_1
                try clear hx115_0
                try clear hx115_1
                try clear hx119_0
                try clear hx119_1
                try clear p111
                try clear p115
                try clear p119
                try clear p2
                try clear q111
                try clear q115
                try clear q119
                obtain ⟨x4_2, x6_2, x45_2, rfl, rfl, HA, HK2, HO_4, HB⟩ := hrel
                cases gk with
                | zero => exact absurd HA.out (by simp [marcotref32_Put.l1])
                | succ k2 =>
                  have H := HA.out
                  clear HA
                  simp only [marcotref32_Put.l1] at H
                  by_cases c16 : x45_2 < (((rd_T136 l0 x20_1).f1).length : Int)
                  · rw [if_pos c16] at H
                    have c16b0 : decide (x45_2 < (((rd_T136 l0 x20_1).f1).length : Int)) = true := decide_eq_true c16
                    clear c16
                    by_cases c17 : 0 ≤ x20_1
                    · rw [if_pos c17] at H
                      have c17b0 : decide (0 ≤ x20_1) = true := decide_eq_true c17
                      clear c17
                      by_cases c18 : x20_1 < (l0.length : Int)
                      · rw [if_pos c18] at H
                        have c18b0 : decide (x20_1 < (l0.length : Int)) = true := decide_eq_true c18
                        clear c18
                        by_cases c19 : 0 ≤ x45_2
                        · rw [if_pos c19] at H
                          have c19b0 : decide (0 ≤ x45_2) = true := decide_eq_true c19
                          clear c19
                          by_cases c20 : x45_2 < (((rd_T136 l0 x20_1).f1).length : Int)
                          · rw [if_pos c20] at H
                            have c20b0 : decide (x45_2 < (((rd_T136 l0 x20_1).f1).length : Int)) = true := decide_eq_true c20
                            clear c20
                            replace H := Option.bind_eq_some_iff.mp H
                            obtain ⟨t123, A210, H⟩ := H
                            replace H : (if x4_2.length < 140737488355328 then (if 0 ≤ (t123.size : Int) then (if (t123.size : Int) ≤ (((rd_T145 ((rd_T136 l0 x20_1).f1) x45_2).f0).size : Int) then ((marcotref02_PutText.f k2 (x4_2 ++ [((t123.size : Int)) % 256]) (((rd_T145 ((rd_T136 l0 x20_1).f1) x45_2).f0).extract ((t123.size : Int) : Int).toNat ((rd_T145 ((rd_T136 l0 x20_1).f1) x45_2).f0).size)).bind fun t127 => ((marcotref02_PutText.f k2 t127 ((rd_T145 ((rd_T136 l0 x20_1).f1) x45_2).f1)).bind fun t130 => (marcotref32_Put.l1 k2 l0 t130 x20_1 ((rd_T145 ((rd_T136 l0 x20_1).f1) x45_2).f0) (l0.length : Int) x20_1 (((rd_T136 l0 x20_1).f1).length : Int) (wrap64 (x45_2 + 1))))) else (none)) else (none)) else (none)) = some (r1, r2) := H
                            have A21 := Aside0.mk A210
                            clear A210
                            by_cases c22 : x4_2.length < 140737488355328
                            · rw [if_pos c22] at H
                              have LMc22 := Aside0.mk c22
                              clear c22
                              obtain ⟨y124, hy124⟩ : ∃ y_ : List Int, y_ = (x4_2 ++ [((t123.size : Int)) % 256]) := ⟨_, rfl⟩
                              replace H : (if 0 ≤ (t123.size : Int) then (if (t123.size : Int) ≤ (((rd_T145 ((rd_T136 l0 x20_1).f1) x45_2).f0).size : Int) then ((marcotref02_PutText.f k2 y124 (((rd_T145 ((rd_T136 l0 x20_1).f1) x45_2).f0).extract ((t123.size : Int) : Int).toNat ((rd_T145 ((rd_T136 l0 x20_1).f1) x45_2).f0).size)).bind fun t127 => ((marcotref02_PutText.f k2 t127 ((rd_T145 ((rd_T136 l0 x20_1).f1) x45_2).f1)).bind fun t130 => (marcotref32_Put.l1 k2 l0 t130 x20_1 ((rd_T145 ((rd_T136 l0 x20_1).f1) x45_2).f0) (l0.length : Int) x20_1 (((rd_T136 l0 x20_1).f1).length : Int) (wrap64 (x45_2 + 1))))) else (none)) else (none)) = some (r1, r2) := by first | (rw [hy124]; with_reducible exact H) | (have H2_ := (Option.bind_some _ _).symm.trans H; rw [hy124]; with_reducible exact H2_) | (have H2_ := (Option.bind_some _ _).symm.trans H; with_reducible exact H2_) | with_reducible exact H | (rw [hy124]; exact H) | exact H
                              have Ny124 := Aside0.mk hy124
                              clear hy124
                              by_cases c23 : 0 ≤ (t123.size : Int)
                              · rw [if_pos c23] at H
                                have c23b0 := eq_true c23
                                have c23b1 : decide (0 ≤ (t123.size : Int)) = true := decide_eq_true c23
                                clear c23
                                by_cases c24 : (t123.size : Int) ≤ (((rd_T145 ((rd_T136 l0 x20_1).f1) x45_2).f0).size : Int)
                                · rw [if_pos c24] at H
                                  have c24b0 := eq_true c24
                                  have c24b1 : decide ((t123.size : Int) ≤ (((rd_T145 ((rd_T136 l0 x20_1).f1) x45_2).f0).size : Int)) = true := decide_eq_true c24
                                  clear c24
                                  replace H := Option.bind_eq_some_iff.mp H
                                  obtain ⟨t127, A250, H⟩ := H
                                  replace H : ((marcotref02_PutText.f k2 t127 ((rd_T145 ((rd_T136 l0 x20_1).f1) x45_2).f1)).bind fun t130 => (marcotref32_Put.l1 k2 l0 t130 x20_1 ((rd_T145 ((rd_T136 l0 x20_1).f1) x45_2).f0) (l0.length : Int) x20_1 (((rd_T136 l0 x20_1).f1).length : Int) (wrap64 (x45_2 + 1)))) = some (r1, r2) := H
                                  have A25 := Aside0.mk A250
                                  clear A250
                                  replace H := Option.bind_eq_some_iff.mp H
                                  obtain ⟨t130, A260, H⟩ := H
                                  replace H : (marcotref32_Put.l1 k2 l0 t130 x20_1 ((rd_T145 ((rd_T136 l0 x20_1).f1) x45_2).f0) (l0.length : Int) x20_1 (((rd_T136 l0 x20_1).f1).length : Int) (wrap64 (x45_2 + 1))) = some (r1, r2) := H
                                  have A26 := Aside0.mk A260
                                  clear A260
                                  have H' := Aside0.mk H
                                  clear H
                                  have p120 : 0 ≤ (x20_1 : Int) := of_decide_eq_true (by first | (with_reducible assumption) | assumption)
                                  have q120 : x20_1 < (l0.length : Int) := of_decide_eq_true (by first | (with_reducible assumption) | assumption)
                                  obtain ⟨ad120, A120_1, c120_1, e120, hx120_0, hx120_1, hl120_1, hi120_1⟩ := at_T136 HR0.out x20_1 p120 q120
                                  obtain rfl : ad111 = ad120 := (by injection e120)
                                  replace hx120_0 := (HB.out.cell (World.block_lt_of_cell? w _ hx120_0)).trans hx120_0
                                  replace hx120_1 := (HB.out.cell (World.block_lt_of_cell? w _ hx120_1)).trans hx120_1
                                  have HR120_1 := Aside0.mk hi120_1
                                  have HC120_1 := Aside0.mk hl120_1
                                  clear hi120_1 hl120_1
                                  replace p120 := eq_true p120
                                  replace q120 := eq_true q120
                                  have p121 : 0 ≤ (x45_2 : Int) := of_decide_eq_true (by first | (with_reducible assumption) | assumption)
                                  have q121 : x45_2 < (((rd_T136 l0 x20_1).f1).length : Int) := of_decide_eq_true (by first | (with_reducible assumption) | assumption)
                                  obtain ⟨ad121, e121, hx121_0, hx121_1⟩ := at_T145 HR120_1.out x45_2 p121 q121
                                  cases e121
                                  replace hx121_0 := (HB.out.cell (World.block_lt_of_cell? w _ hx121_0)).trans hx121_0
                                  replace hx121_1 := (HB.out.cell (World.block_lt_of_cell? w _ hx121_1)).trans hx121_1
                                  replace p121 := eq_true p121
                                  replace q121 := eq_true q121
                                  go_wp2_with (first | ((with_reducible refine gate_dst (N := 8) rfl ?_); refine box_event ?hg (N := 8) ?hd (cs := #[.string (⟨#[]⟩ : ByteArray), .string (⟨#[]⟩ : ByteArray)]) (t := 145) ?hr ?_; (case hd => rfl); (case hg => rfl); (case hr => first | (go_simp; done) | (go_simp; rfl)); intro gb122 hg w27 hbox hb; have n0_ := Aside0.mk (Kd.R_below (by (with_reducible repeat (first | apply Kd.R_alloc | apply Kd.R_drewN | apply Kd.R_drew)); exact HO_4.out) hb); have n1_ := Aside0.mk (below_step (by repeat (first | (with_reducible first | exact HB.out | apply below_alloc | apply pw_below_drewN | apply below_drew1) | exact HB.out)) hb); have n2_ := Aside0.mk (hbox); have n3_ := Aside0.mk ((by rw [hg]; exact (below_size (by repeat (first | (with_reducible first | exact HB.out | apply below_alloc | apply pw_below_drewN | apply below_drew1) | exact HB.out))) : w.heap.size ≤ gb122)); have n4_ := Aside0.mk ((by rw [hg]; exact (below_size (by repeat (first | (with_reducible first | exact HB.out | apply below_alloc | apply pw_below_drewN | apply below_drew1) | exact HB.out))) : w.heap.size ≤ gb122)); clear HO_4; clear HB; have HO_4 := n0_; have HB := n1_; have BK122 := n2_; have GW122 := n3_; have GE122 := n4_; clear n0_ n1_ n2_ n3_ n4_; clear hb hbox hg; have hcz28_0 : w27.cell? ⟨gb122, 0, none⟩ = some (.string (⟨#[]⟩ : ByteArray)) := (blk_cell BK122.out 0).trans rfl; have hcz28_1 : w27.cell? ⟨gb122, 1, none⟩ = some (.string (⟨#[]⟩ : ByteArray)) := (blk_cell BK122.out 1).trans rfl; have hfz28_0 := blk_frozen BK122.out 0; have hfz28_1 := blk_frozen BK122.out 1) | ((with_reducible refine gate_callee (f := 88) rfl ?_); refine goesL_ (some 59) rfl rfl Try.func88 (by kernel_rfl) rfl #[.string x6_2, .string ((rd_T145 ((rd_T136 l0 x20_1).f1) x45_2).f0)] rfl (by (try simp only [List.map_toArray, List.map_cons, List.map_nil]); first | done | rfl | (simp only [List.length_drop, List.length_take]; rfl)) ?_; (with_reducible refine (marcotref03_Common.calls k2 x6_2 ((rd_T145 ((rd_T136 l0 x20_1).f1) x45_2).f0) t123 _ A21.out).mono ?_); rintro e w' ⟨rfl, ⟨nd, rfl⟩⟩; refine ⟨_, rfl, ?_⟩) | ((with_reducible refine gate_builtin (b := .append) (xs := #[.tmp 61, .tmp 64]) rfl ?_); at_builtin; refine Kd.R_append (Kd.int .u8) (w0 := w) w.heap.size rfl (.tmp 61) (.tmp 64) 31 5 (.int .u8 0) 1 rfl Try.underlying31 info5 rfl (by decide) (by omega) u4 x4_2 (((t123.size : Int)) % 256) [.int .u8 (((t123.size : Int)) % 256)] (fun _ => True) (fun _ => False) rfl (by first | (go_simp; done) | (go_simp; rfl)) ?aP (fun _ hk => hk.elim) ?aF ?aO ?aB ?aS ?aL ?_; (case aP => exact rfl); (case aB => exact (by repeat (first | (with_reducible first | exact HB.out | apply below_alloc | apply pw_below_drewN | apply below_drew1 | refine below_set ?_ GE122.out) | exact HB.out))); (case aF => exact (fun _ _ => trivial)); (case aO => exact (by (with_reducible repeat (first | apply Kd.R_alloc | apply Kd.R_drewN | apply Kd.R_drew)); exact Kd.R_mono (Kd.R_far (p := ⟨gb122, 1, none⟩) (Kd.R_far (p := ⟨gb122, 0, none⟩) (Kd.R_types HO_4.out BK122.out (by decide)) (fun _ hk => hk.2) (.string ((rd_T145 ((rd_T136 l0 x20_1).f1) x45_2).f0))) (fun _ hk => hk.2) (.string ((rd_T145 ((rd_T136 l0 x20_1).f1) x45_2).f1))) (fun _ hk => trivial))); (case aS => exact (below_size (by repeat (first | (with_reducible first | exact HB.out | apply below_alloc | apply pw_below_drewN | apply below_drew1 | refine below_set ?_ GE122.out) | exact HB.out)))); (case aL => have := LMc22.out; omega); intro v125 w29 ho hb hg hat; rw [← Ny124.out] at ho; have n0_ := Aside0.mk (blk_grown (g := gb122) (o := .cells #[.string ((rd_T145 ((rd_T136 l0 x20_1).f1) x45_2).f0), .string ((rd_T145 ((rd_T136 l0 x20_1).f1) x45_2).f1)] 145 (0, 0)) (by (with_reducible repeat (first | refine blk_drewN ?_ _ | refine blk_drew ?_ | refine blk_alloc ?_ _)); refine blk_put (cs := #[.string ((rd_T145 ((rd_T136 l0 x20_1).f1) x45_2).f0), .string (⟨#[]⟩ : ByteArray)]) ?_ 1 _ rfl; (with_reducible repeat (first | refine blk_drewN ?_ _ | refine blk_drew ?_ | refine blk_alloc ?_ _)); refine blk_put (cs := #[.string (⟨#[]⟩ : ByteArray), .string (⟨#[]⟩ : ByteArray)]) ?_ 0 _ rfl; (with_reducible repeat (first | refine blk_drewN ?_ _ | refine blk_drew ?_ | refine blk_alloc ?_ _)); exact BK122.out) hg (Kd.R_ne HO_4.out BK122.out (by decide))); have n1_ := Aside0.mk (hb); have n2_ := Aside0.mk (ho); clear BK122; clear HB; clear HO_4; have BK122 := n0_; have HB := n1_; have HO126 := n2_; clear n0_ n1_ n2_; clear ho hb hg hat; have hcz30_0 : w29.cell? ⟨gb122, 0, none⟩ = some (.string ((rd_T145 ((rd_T136 l0 x20_1).f1) x45_2).f0)) := (blk_cell BK122.out 0).trans rfl; have hcz30_1 : w29.cell? ⟨gb122, 1, none⟩ = some (.string ((rd_T145 ((rd_T136 l0 x20_1).f1) x45_2).f1)) := (blk_cell BK122.out 1).trans rfl; have hfz30_0 := blk_frozen BK122.out 0; have hfz30_1 := blk_frozen BK122.out 1; obtain ⟨Ao31, co31, eo31⟩ := Kd.R_slice HO126.out; subst eo31) | ((with_reducible refine gate_callee (f := 86) rfl ?_); refine goesL_ (some 71) rfl rfl Try.func86 (by kernel_rfl) rfl #[.slice Ao31 y124.length co31, .string (((rd_T145 ((rd_T136 l0 x20_1).f1) x45_2).f0).extract ((t123.size : Int) : Int).toNat ((rd_T145 ((rd_T136 l0 x20_1).f1) x45_2).f0).size)] rfl (by (try simp only [List.map_toArray, List.map_cons, List.map_nil]); first | done | rfl | (simp only [List.length_drop, List.length_take]; rfl)) ?_; (with_reducible refine (marcotref02_PutText.calls k2 _ _ y124 (((rd_T145 ((rd_T136 l0 x20_1).f1) x45_2).f0).extract ((t123.size : Int) : Int).toNat ((rd_T145 ((rd_T136 l0 x20_1).f1) x45_2).f0).size) t127 _ ?side1 ?side2 A25.out).mono ?_); (case side1 => repeat (first | exact (Kd.R_reads' HO126.out).2.2 | (with_reducible refine Kd.C_alloc ?_ _) | (with_reducible refine Kd.C_drewN ?_ _) | (with_reducible refine Kd.C_drew ?_))); (case side2 => exact (Kd.R_reads' HO126.out).2.1); rintro e w32 ⟨v128, rfl, ho0, hb⟩; refine ⟨_, rfl, ?_⟩; have n0_ := Aside0.mk (Kd.R_elder' (by (with_reducible repeat (first | apply Kd.R_alloc | apply Kd.R_drewN | apply Kd.R_drew)); exact HO126.out) (Kd.R_base ho0) hb); have n1_ := Aside0.mk (Kd.R_lower (Kd.R_new' ho0 (Kd.R_lt (by (with_reducible repeat (first | apply Kd.R_alloc | apply Kd.R_drewN | apply Kd.R_drew)); exact HO126.out))) (below_size (by repeat (first | (with_reducible first | exact HB.out | apply below_alloc | apply pw_below_drewN | apply below_drew1 | refine below_set ?_ GE122.out) | exact HB.out)))); have n2_ := Aside0.mk (blk_below (g := gb122) (o := .cells #[.string ((rd_T145 ((rd_T136 l0 x20_1).f1) x45_2).f0), .string ((rd_T145 ((rd_T136 l0 x20_1).f1) x45_2).f1)] 145 (0, 0)) (by (with_reducible repeat (first | refine blk_drewN ?_ _ | refine blk_drew ?_ | refine blk_alloc ?_ _)); exact BK122.out) hb); have n3_ := Aside0.mk (below_step (by repeat (first | (with_reducible first | exact HB.out | apply below_alloc | apply pw_below_drewN | apply below_drew1 | refine below_set ?_ GE122.out) | exact HB.out)) hb); clear HO126; clear BK122; clear HB; have HO126 := n0_; have HO129 := n1_; have BK122 := n2_; have HB := n3_; clear n0_ n1_ n2_ n3_; (try clear hb); (try clear hb2); (try clear hk); (try clear hi); (try clear ho0); have hcz33_0 : w32.cell? ⟨gb122, 0, none⟩ = some (.string ((rd_T145 ((rd_T136 l0 x20_1).f1) x45_2).f0)) := (blk_cell BK122.out 0).trans rfl; have hcz33_1 : w32.cell? ⟨gb122, 1, none⟩ = some (.string ((rd_T145 ((rd_T136 l0 x20_1).f1) x45_2).f1)) := (blk_cell BK122.out 1).trans rfl; have hfz33_0 := blk_frozen BK122.out 0; have hfz33_1 := blk_frozen BK122.out 1; obtain ⟨Ao34, co34, eo34⟩ := Kd.R_slice HO129.out; subst eo34) | ((with_reducible refine gate_callee (f := 86) rfl ?_); refine goesL_ (some 75) rfl rfl Try.func86 (by kernel_rfl) rfl #[.slice Ao34 t127.length co34, .string ((rd_T145 ((rd_T136 l0 x20_1).f1) x45_2).f1)] rfl (by (try simp only [List.map_toArray, List.map_cons, List.map_nil]); first | done | rfl | (simp only [List.length_drop, List.length_take]; rfl)) ?_; (with_reducible refine (marcotref02_PutText.calls k2 _ _ t127 ((rd_T145 ((rd_T136 l0 x20_1).f1) x45_2).f1) t130 _ ?side1 ?side2 A26.out).mono ?_); (case side1 => repeat (first | exact (Kd.R_reads' HO129.out).2.2 | (with_reducible refine Kd.C_alloc ?_ _) | (with_reducible refine Kd.C_drewN ?_ _) | (with_reducible refine Kd.C_drew ?_))); (case side2 => exact (Kd.R_reads' HO129.out).2.1); rintro e w35 ⟨v131, rfl, ho0, hb⟩; refine ⟨_, rfl, ?_⟩; have n0_ := Aside0.mk (Kd.R_elder' (by (with_reducible repeat (first | apply Kd.R_alloc | apply Kd.R_drewN | apply Kd.R_drew)); exact HO126.out) (Kd.R_base ho0) hb); have n1_ := Aside0.mk (Kd.R_elder' (by (with_reducible repeat (first | apply Kd.R_alloc | apply Kd.R_drewN | apply Kd.R_drew)); exact HO129.out) (Kd.R_base ho0) hb); have n2_ := Aside0.mk (Kd.R_lower (Kd.R_new' (Kd.R_new' ho0 (Kd.R_lt (by (with_reducible repeat (first | apply Kd.R_alloc | apply Kd.R_drewN | apply Kd.R_drew)); exact HO126.out))) (Kd.R_lt (by (with_reducible repeat (first | apply Kd.R_alloc | apply Kd.R_drewN | apply Kd.R_drew)); exact HO129.out))) (below_size (by repeat (first | (with_reducible first | exact HB.out | apply below_alloc | apply pw_below_drewN | apply below_drew1 | refine below_set ?_ GE122.out) | exact HB.out)))); have n3_ := Aside0.mk (blk_below (g := gb122) (o := .cells #[.string ((rd_T145 ((rd_T136 l0 x20_1).f1) x45_2).f0), .string ((rd_T145 ((rd_T136 l0 x20_1).f1) x45_2).f1)] 145 (0, 0)) (by (with_reducible repeat (first | refine blk_drewN ?_ _ | refine blk_drew ?_ | refine blk_alloc ?_ _)); exact BK122.out) hb); have n4_ := Aside0.mk (below_step (by repeat (first | (with_reducible first | exact HB.out | apply below_alloc | apply pw_below_drewN | apply below_drew1 | refine below_set ?_ GE122.out) | exact HB.out)) hb); clear HO126; clear HO129; clear BK122; clear HB; have HO126 := n0_; have HO129 := n1_; have HO132 := n2_; have BK122 := n3_; have HB := n4_; clear n0_ n1_ n2_ n3_ n4_; (try clear hb); (try clear hb2); (try clear hk); (try clear hi); (try clear ho0); have hcz36_0 : w35.cell? ⟨gb122, 0, none⟩ = some (.string ((rd_T145 ((rd_T136 l0 x20_1).f1) x45_2).f0)) := (blk_cell BK122.out 0).trans rfl; have hcz36_1 : w35.cell? ⟨gb122, 1, none⟩ = some (.string ((rd_T145 ((rd_T136 l0 x20_1).f1) x45_2).f1)) := (blk_cell BK122.out 1).trans rfl; have hfz36_0 := blk_frozen BK122.out 0; have hfz36_1 := blk_frozen BK122.out 1))
                                  go_roundg k2
                                  case measure => have := HK1.out; have := HK2.out; omega
                                  case rel => exact ⟨(t130), ((rd_T145 ((rd_T136 l0 x20_1).f1) x45_2).f0), (wrap64 (x45_2 + 1)), (by first | rfl | (simp; done) | (simp [*]; done)), (by first | rfl | (simp; done) | (simp [*]; done)), H', ⟨by have := HK1.out; have := HK2.out; omega⟩, ⟨by (with_reducible repeat (first | apply Kd.R_alloc | apply Kd.R_drewN | apply Kd.R_drew)); exact Kd.R_mono HO132.out (fun _ hk => trivial)⟩, ⟨by repeat (first | (with_reducible first | exact HB.out | apply below_alloc | apply pw_below_drewN | apply below_drew1 | refine below_set ?_ GE122.out) | exact HB.out)⟩⟩
                                · rw [if_neg c24] at H
                                  exact absurd H (by simp)
                              · rw [if_neg c23] at H
                                exact absurd H (by simp)
                            · rw [if_neg c22] at H
                              exact absurd H (by simp)
                          · rw [if_neg c20] at H
                            exact absurd H (by simp)
                        · rw [if_neg c19] at H
                          exact absurd H (by simp)
                      · rw [if_neg c18] at H
                        exact absurd H (by simp)
                    · rw [if_neg c17] at H
                      exact absurd H (by simp)
                  · rw [if_neg c16] at H
                    have c16b0 : decide (x45_2 < (((rd_T136 l0 x20_1).f1).length : Int)) = false := decide_eq_false c16
                    clear c16
                    have H' := Aside0.mk H
                    clear H
                    go_wp2
                    go_roundg k2
                    case measure => have := HK1.out; have := HK2.out; omega
                    case rel => exact ⟨(x4_2), (wrap64 (x20_1 + 1)), (by first | rfl | (simp; done) | (simp [*]; done)), H', ⟨by have := HK1.out; have := HK2.out; omega⟩, ⟨by (with_reducible repeat (first | apply Kd.R_alloc | apply Kd.R_drewN | apply Kd.R_drew)); exact HO_4.out⟩, ⟨by repeat (first | (with_reducible first | exact HB.out | apply below_alloc | apply pw_below_drewN | apply below_drew1) | exact HB.out)⟩⟩
            · rw [if_neg c9] at H
              exact absurd H (by simp)
          · rw [if_neg c8] at H
            exact absurd H (by simp)
        · rw [if_neg c7] at H
          have c7b0 : decide (x20_1 < (l0.length : Int)) = false := decide_eq_false c7
          clear c7
          replace H := Option.bind_eq_some_iff.mp H
          obtain ⟨t108, A370, H⟩ := H
          replace H : (some (t108, 0)) = some (r1, r2) := H
          have A37 := Aside0.mk A370
          clear A370
          simp only [Option.some.injEq, Prod.mk.injEq] at H
          obtain ⟨rfl, rfl⟩ := H
          obtain ⟨Ao38, co38, eo38⟩ := Kd.R_slice HO_4.out
          subst eo38
          go_wp2_with (first | ((with_reducible refine gate_callee (f := 21) rfl ?_); refine goesL_ (some 81) rfl rfl Try.func21 (by kernel_rfl) rfl #[.slice Ao38 x4_1.length co38] rfl (by (try simp only [List.map_toArray, List.map_cons, List.map_nil]); first | done | rfl | (simp only [List.length_drop, List.length_take]; rfl)) ?_; (with_reducible refine (marcotref01_Mark.calls k1 _ _ x4_1 t108 _ ?side1 ?side2 A37.out).mono ?_); (case side1 => repeat (first | exact (Kd.R_reads' HO_4.out).2.2 | (with_reducible refine Kd.C_alloc ?_ _) | (with_reducible refine Kd.C_drewN ?_ _) | (with_reducible refine Kd.C_drew ?_))); (case side2 => exact (Kd.R_reads' HO_4.out).2.1); rintro e w39 ⟨v109, rfl, ho0, hb⟩; refine ⟨_, rfl, ?_⟩; have n0_ := Aside0.mk (Kd.R_elder' (by (with_reducible repeat (first | apply Kd.R_alloc | apply Kd.R_drewN | apply Kd.R_drew)); exact HO_4.out) (Kd.R_base ho0) hb); have n1_ := Aside0.mk (Kd.R_lower (Kd.R_new' ho0 (Kd.R_lt (by (with_reducible repeat (first | apply Kd.R_alloc | apply Kd.R_drewN | apply Kd.R_drew)); exact HO_4.out))) (below_size (by repeat (first | (with_reducible first | exact HB.out | apply below_alloc | apply pw_below_drewN | apply below_drew1) | exact HB.out)))); have n2_ := Aside0.mk (below_step (by repeat (first | (with_reducible first | exact HB.out | apply below_alloc | apply pw_below_drewN | apply below_drew1) | exact HB.out)) hb); clear HO_4; clear HB; have HO_4 := n0_; have HO110 := n1_; have HB := n2_; clear n0_ n1_ n2_; (try clear hb); (try clear hb2); (try clear hk); (try clear hi); (try clear ho0)))
          go_ret2
          exact ⟨_, by first | rfl | (simp [errW_none, errW_some] <;> rfl) | (simp [*, errW_none, errW_some] <;> rfl), by (with_reducible repeat (first | apply Kd.R_alloc | apply Kd.R_drewN | apply Kd.R_drew)); exact Kd.R_mono HO110.out (fun _ hk => trivial), by repeat (first | (with_reducible first | exact HB.out | apply below_alloc | apply pw_below_drewN | apply below_drew1) | exact HB.out)⟩
  · replace c3 := Bool.eq_false_iff.mpr c3
    subst c3
    have H1 : (some ((([] : List Int)), 1)) = some (r1, r2) := by rw [if_neg (show ¬ (false = true) by decide)] at H; exact H
    clear H
    have H := H1
    clear H1
    obtain ⟨y102, hy102⟩ : ∃ y_ : List Int, y_ = (([] : List Int)) := ⟨_, rfl⟩
    replace H : (some (y102, 1)) = some (r1, r2) := by first | (rw [hy102]; with_reducible exact H) | (have H2_ := (Option.bind_some _ _).symm.trans H; rw [hy102]; with_reducible exact H2_) | (have H2_ := (Option.bind_some _ _).symm.trans H; with_reducible exact H2_) | with_reducible exact H | (rw [hy102]; exact H) | exact H
    have Ny102 := Aside0.mk hy102
    clear hy102
    simp only [Option.some.injEq, Prod.mk.injEq] at H
    obtain ⟨rfl, rfl⟩ := H
    go_enter Try.func27, Try.ntmps27
    go_wp2_with (first | ((with_reducible refine gate_callee (f := 29) rfl ?_); refine goesL_ (some 11) rfl rfl Try.func29 (by kernel_rfl) rfl #[.slice A0 l0.length c0] rfl (by (try simp only [List.map_toArray, List.map_cons, List.map_nil]); first | done | rfl | (simp only [List.length_drop, List.length_take]; rfl)) ?_; (with_reducible refine (marcotref32_May.calls k _ _ l0 false _ ?side1 ?side2 A2.out).mono ?_); (case side1 => repeat (first | exact HR0.out | (with_reducible refine Kd.C_alloc ?_ _) | (with_reducible refine Kd.C_drewN ?_ _) | (with_reducible refine Kd.C_drew ?_))); (case side2 => exact HC0.out); rintro e w40 ⟨rfl, hb⟩; refine ⟨_, rfl, ?_⟩; have n0_ := Aside0.mk (below_step (by repeat (first | (with_reducible first | exact HB.out | apply below_alloc | apply pw_below_drewN | apply below_drew1) | exact HB.out)) hb); clear HB; have HB := n0_; clear n0_; (try clear hb); (try clear hb2); (try clear hk); (try clear hi)) | ((with_reducible refine gate_dst (N := 13) rfl ?_); refine Kd.R_lit (Kd.int .u8) _ 5 ?hg (N := 13) ?hd (xs := ([] : List Int)) (inner := []) (ok := fun _ => True) (okp := fun _ => True) ?hr ?hp (fun _ hk => hk) trivial (Below.refl _ _) (Nat.le_refl _) (by simp) ?_; (case hd => rfl); (case hg => rfl); (case hr => first | (go_simp; done) | (go_simp; rfl)); (case hp => exact (Reps.none _ _)); intro v103 w41 ho42 hb hg_ hnew_; clear hg_ hnew_; (first | rw [← Ny102.out] at ho42 | (simp only [Int.reduceToNat] at ho42; rw [← Ny102.out] at ho42)); have n0_ := Aside0.mk (Kd.R_lower ho42 (below_size (by repeat (first | (with_reducible first | exact HB.out | apply below_alloc | apply pw_below_drewN | apply below_drew1) | exact HB.out)))); have n1_ := Aside0.mk (below_step (by repeat (first | (with_reducible first | exact HB.out | apply below_alloc | apply pw_below_drewN | apply below_drew1) | exact HB.out)) hb); clear HB; have HO104 := n0_; have HB := n1_; clear n0_ n1_; clear hb ho42))
    go_ret2
    exact ⟨_, by first | rfl | (simp [errW_none, errW_some] <;> rfl) | (simp [*, errW_none, errW_some] <;> rfl), by (with_reducible repeat (first | apply Kd.R_alloc | apply Kd.R_drewN | apply Kd.R_drew)); exact HO104.out, by repeat (first | (with_reducible first | exact HB.out | apply below_alloc | apply pw_below_drewN | apply below_drew1) | exact HB.out)⟩

end Go.Proofs.Ytfdemnefkfkghaa.X
namespace Go.Proofs.Ytfdemnefkfkghaa.Q
open Go.RowKit Go.Proofs.YtfdemnefkfkghaaW.PrintWords Go.Proofs.YtfdemnefkfkghaaW.PrintLast Go.Proofs.YtfdemnefkfkghaaW.PrintMore
open Go.Proofs.Ytfdemnefkfkghaa.X
set_option linter.unusedVariables false

theorem xor_parts (c : Nat) : c = c % 2 ^^^ 2 * (c / 2) := by
  apply Nat.eq_of_testBit_eq
  intro i
  rw [Nat.testBit_xor, show (2 : Nat) * (c / 2) = 2 ^ 1 * (c / 2) by omega, Nat.testBit_two_pow_mul]
  cases i with
  | zero => simp [Nat.testBit_zero]
  | succ j =>
    rw [Nat.testBit_lt_two_pow (x := c % 2) (Nat.lt_of_lt_of_le (by omega : c % 2 < 2 ^ 1) (Nat.pow_le_pow_right (by decide) (by omega))), Nat.testBit_succ]
    simp
theorem L_bit (s c : Nat) : L (s ^^^ c) = L (s ^^^ c % 2) ^^^ c / 2 := by
  conv => lhs; rw [xor_parts c, ← Nat.xor_assoc, L_xor, L_two]
theorem shift (s : Nat) (h : s < 2 ^ 32) : marcotref01_shift.f (s : Int) = some ((L s : Nat) : Int) := by
  unfold marcotref01_shift.f L
  rw [Int.tmod_eq_emod_of_nonneg (by omega), Int.tdiv_eq_ediv_of_nonneg (by omega)]
  rw [show ((s : Int) / 2 % 4294967296) = ((s / 2 : Nat) : Int) by omega]
  by_cases h1 : s % 2 = 1
  · rw [if_pos (by omega), if_pos h1, show (2197175160 : Int) = ((2197175160 : Nat) : Int) by rfl, x32 (by omega) (by decide)]
  · rw [if_neg (by omega), if_neg h1]
theorem ref_bit (k s c : Nat) (l : List Int) (n j i : Int) (hs : s < 2 ^ 32) (hc : c < 256) (hj : j < 8) (hj0 : 0 ≤ j) : marcotref01_More.l1 (k + 1) l (s : Int) (c : Int) j n i = marcotref01_More.l1 k l ((L (s ^^^ c % 2) : Nat) : Int) ((c / 2 : Nat) : Int) (j + 1) n i := by
  rw [marcotref01_More.l1, if_pos hj, Int.tmod_eq_emod_of_nonneg (by omega), Int.tdiv_eq_ediv_of_nonneg (by omega), show ((c : Int) % 2) = ((c % 2 : Nat) : Int) by omega, x32 hs (by omega), shift _ (Nat.xor_lt_two_pow hs (by omega)), Option.bind_some,
    show ((c : Int) / 2 % 4294967296) = ((c / 2 : Nat) : Int) by omega, wr (by omega) (by omega)]
theorem ref_byte (l : List Int) (n i : Int) (r : Int) (s c : Nat) (hs : s < 2 ^ 32) (hc : c < 256) (h : Ev (fun k => marcotref01_More.l0 k l ((cr s c : Nat) : Int) n (wrap64 (i + 1))) r) : Ev (fun k => marcotref01_More.l1 k l (s : Int) (c : Int) 0 n i) r := by
  have lt : ∀ {s c : Nat}, s < 2 ^ 32 → L (s ^^^ c % 2) < 2 ^ 32 := fun hs => L_lt (Nat.xor_lt_two_pow hs (by omega))
  have a1 := lt (c := c) hs
  have a2 := lt (c := c / 2) a1
  have a3 := lt (c := c / 2 / 2) a2
  have a4 := lt (c := c / 2 / 2 / 2) a3
  have a5 := lt (c := c / 2 / 2 / 2 / 2) a4
  have a6 := lt (c := c / 2 / 2 / 2 / 2 / 2) a5
  have a7 := lt (c := c / 2 / 2 / 2 / 2 / 2 / 2) a6
  have e : cr s c = L (L (L (L (L (L (L (L (s ^^^ c % 2) ^^^ c / 2 % 2) ^^^ c / 2 / 2 % 2) ^^^ c / 2 / 2 / 2 % 2) ^^^ c / 2 / 2 / 2 / 2 % 2) ^^^ c / 2 / 2 / 2 / 2 / 2 % 2) ^^^ c / 2 / 2 / 2 / 2 / 2 / 2 % 2) ^^^ c / 2 / 2 / 2 / 2 / 2 / 2 / 2 % 2) := by
    unfold cr L8
    rw [L_bit s c, L_bit _ (c / 2), L_bit _ (c / 2 / 2), L_bit _ (c / 2 / 2 / 2), L_bit _ (c / 2 / 2 / 2 / 2), L_bit _ (c / 2 / 2 / 2 / 2 / 2), L_bit _ (c / 2 / 2 / 2 / 2 / 2 / 2), L_bit _ (c / 2 / 2 / 2 / 2 / 2 / 2 / 2)]
    rw [show c / 2 / 2 / 2 / 2 / 2 / 2 / 2 / 2 = 0 by omega, Nat.xor_zero]
  rw [e] at h
  refine Ev.step (fun k => ref_bit k s c l n 0 i hs hc (by decide) (by decide)) ?_
  refine Ev.step (fun k => ref_bit k _ (c / 2) l n 1 i a1 (by omega) (by decide) (by decide)) ?_
  refine Ev.step (fun k => ref_bit k _ (c / 2 / 2) l n 2 i a2 (by omega) (by decide) (by decide)) ?_
  refine Ev.step (fun k => ref_bit k _ (c / 2 / 2 / 2) l n 3 i a3 (by omega) (by decide) (by decide)) ?_
  refine Ev.step (fun k => ref_bit k _ (c / 2 / 2 / 2 / 2) l n 4 i a4 (by omega) (by decide) (by decide)) ?_
  refine Ev.step (fun k => ref_bit k _ (c / 2 / 2 / 2 / 2 / 2) l n 5 i a5 (by omega) (by decide) (by decide)) ?_
  refine Ev.step (fun k => ref_bit k _ (c / 2 / 2 / 2 / 2 / 2 / 2) l n 6 i a6 (by omega) (by decide) (by decide)) ?_
  refine Ev.step (fun k => ref_bit k _ (c / 2 / 2 / 2 / 2 / 2 / 2 / 2) l n 7 i a7 (by omega) (by decide) (by decide)) ?_
  refine Ev.step (fun k => ?_) h
  rw [marcotref01_More.l1, if_neg (by decide)]
theorem refMore (l : List Int) (hl : Bytes l) (hlen : l.length < 100000000) : ∀ (m i s : Nat), l.length - i = m → i ≤ l.length → s < 2 ^ 32 → Ev (fun k => marcotref01_More.l0 k l (s : Int) (l.length : Int) (i : Int)) ((run s (l.drop i) ^^^ F : Nat) : Int) := by
  intro m
  induction m with
  | zero =>
    intro i s hm hi hs
    refine Ev.step (f := fun _ => some ((4294967295 - (s : Int)) % 4294967296)) (fun k => by rw [marcotref01_More.l0, if_neg (by omega)]) ?_
    rw [List.drop_of_length_le (by omega)]
    have : ((run s [] ^^^ F : Nat) : Int) = (4294967295 - (s : Int)) % 4294967296 := by
      show ((s ^^^ F : Nat) : Int) = _
      have : s ^^^ F = 4294967295 - s := by
        apply Nat.eq_of_testBit_eq
        intro j
        rw [Nat.testBit_xor, show (4294967295 : Nat) - s = 2 ^ 32 - (s + 1) by omega, Nat.testBit_two_pow_sub_succ hs, show F = 2 ^ 32 - 1 by rfl, Nat.testBit_two_pow_sub_one]
        by_cases hj : j < 32
        · simp [hj]
        · have : s.testBit j = false := Nat.testBit_lt_two_pow (Nat.lt_of_lt_of_le hs (Nat.pow_le_pow_right (by decide) (by omega)))
          simp [hj, this]
      rw [this]
      omega
    rw [this]
    exact Ev.now _
  | succ m ih =>
    intro i s hm hi hs
    have hi' : i < l.length := by omega
    have hc := hl l[i] (List.getElem_mem _)
    refine Ev.step (f := fun k => marcotref01_More.l1 k l (s : Int) ((l[i].toNat : Nat) : Int) 0 (l.length : Int) (i : Int)) ?_ ?_
    · intro k
      rw [marcotref01_More.l0, if_pos (by omega), if_pos (by omega), if_pos (by omega), rd_at hi', show l[i] % 4294967296 = ((l[i].toNat : Nat) : Int) by omega]
    · refine ref_byte _ _ _ _ s l[i].toNat hs (by omega) ?_
      rw [wr (by omega) (by omega), List.drop_eq_getElem_cons hi', run_cons]
      exact ih (i + 1) _ (by omega) (by omega) (cr_lt hs (by omega))
theorem refSum (l : List Int) (hl : Bytes l) (hlen : l.length < 100000000) : Ev (fun k => marcotref01_Sum.f k l) ((sum l : Nat) : Int) :=
  Ev.bind (refMore l hl hlen l.length 0 F (by omega) (by omega) (by decide)) (Ev.now _)
theorem tm256 (s : Nat) : Int.tmod (s : Int) 256 % 256 = ((s % 256 : Nat) : Int) := by
  rw [Int.tmod_eq_emod_of_nonneg (by omega)]
  omega
theorem td256 (s : Nat) (h : s < 4294967296) : Int.tdiv (s : Int) 256 % 4294967296 = ((s / 256 : Nat) : Int) := by
  rw [Int.tdiv_eq_ediv_of_nonneg (by omega)]
  omega
theorem refMark_step (k s : Nat) (acc : List Int) (i : Int) (hs : s < 4294967296) (ha : acc.length < 100000100) (hi : i < 4) (h0 : 0 ≤ i) : marcotref01_Mark.l0 (k + 1) acc (s : Int) i = marcotref01_Mark.l0 k (acc ++ [((s % 256 : Nat) : Int)]) ((s / 256 : Nat) : Int) (i + 1) := by
  rw [marcotref01_Mark.l0, if_pos hi, if_pos (by omega), tm256, td256 _ hs, wr (by omega) (by omega)]
theorem refMark (l : List Int) (hl : Bytes l) (hlen : l.length < 100000000) : Ev (fun k => marcotref01_Mark.f k l) (marked l) := by
  refine Ev.congr (f := fun k => (marcotref01_Sum.f k l).bind fun t107 => marcotref01_Mark.l0 k l t107 0) ?_ (Ev.bind (refSum l hl hlen) ?_)
  · intro k
    unfold marcotref01_Mark.f
    rw [Option.bind_some, if_pos (by simp; omega), List.nil_append]
  · have hs := sum_lt hl
    unfold marked
    generalize sum l = s at hs ⊢
    refine Ev.step (fun k => refMark_step k s l 0 hs (by omega) (by decide) (by decide)) ?_
    refine Ev.step (fun k => refMark_step k (s / 256) _ 1 (by omega) (by simp; omega) (by decide) (by decide)) ?_
    refine Ev.step (fun k => refMark_step k (s / 256 / 256) _ 2 (by omega) (by simp; omega) (by decide) (by decide)) ?_
    refine Ev.step (fun k => refMark_step k (s / 256 / 256 / 256) _ 3 (by omega) (by simp; omega) (by decide) (by decide)) ?_
    refine Ev.step (f := fun _ => some (l ++ le4 s)) (fun k => ?_) (Ev.now _)
    rw [marcotref01_Mark.l0, if_neg (by decide)]
    unfold le4
    simp only [List.append_assoc, List.cons_append, List.nil_append]
    rw [show s / 256 / 256 = s / 65536 by omega, show s / 65536 / 256 = s / 16777216 by omega]

theorem refPut_step (k a : Nat) (l acc : List Int) (n i : Int) (ha : a < 18446744073709551616) (hl : acc.length < 100) (hi : i < 8) (h0 : 0 ≤ i) : marcotref02_Put.l0 (k + 1) l (a : Int) n acc i = marcotref02_Put.l0 k l ((a / 256 : Nat) : Int) n (((a % 256 : Nat) : Int) :: acc) (i + 1) := by
  rw [marcotref02_Put.l0, if_pos hi, Option.bind_some, if_pos (by simp; omega), tm256, Int.tdiv_eq_ediv_of_nonneg (by omega), show ((a : Int) / 256) = ((a / 256 : Nat) : Int) by omega, u64_wrap (by omega) (by omega), wr (by omega) (by omega)]
  rfl
theorem refPut_all (l : List Int) (a : Nat) (n : Nat) (hn : n ≤ 8) (ha : a < 18446744073709551616) (hl : l.length < 100000000) : Ev (fun k => marcotref02_Put.f k l (a : Int) (n : Int)) (l ++ ([((a / 256 / 256 / 256 / 256 / 256 / 256 / 256 % 256 : Nat) : Int), ((a / 256 / 256 / 256 / 256 / 256 / 256 % 256 : Nat) : Int), ((a / 256 / 256 / 256 / 256 / 256 % 256 : Nat) : Int), ((a / 256 / 256 / 256 / 256 % 256 : Nat) : Int), ((a / 256 / 256 / 256 % 256 : Nat) : Int), ((a / 256 / 256 % 256 : Nat) : Int), ((a / 256 % 256 : Nat) : Int), ((a % 256 : Nat) : Int)] : List Int).drop (8 - n)) := by
  unfold marcotref02_Put.f
  refine Ev.step (fun k => refPut_step k a l _ n 0 ha (by simp) (by decide) (by decide)) ?_
  refine Ev.step (fun k => refPut_step k (a / 256) l _ n 1 (by omega) (by simp) (by decide) (by decide)) ?_
  refine Ev.step (fun k => refPut_step k (a / 256 / 256) l _ n 2 (by omega) (by simp) (by decide) (by decide)) ?_
  refine Ev.step (fun k => refPut_step k (a / 256 / 256 / 256) l _ n 3 (by omega) (by simp) (by decide) (by decide)) ?_
  refine Ev.step (fun k => refPut_step k (a / 256 / 256 / 256 / 256) l _ n 4 (by omega) (by simp) (by decide) (by decide)) ?_
  refine Ev.step (fun k => refPut_step k (a / 256 / 256 / 256 / 256 / 256) l _ n 5 (by omega) (by simp) (by decide) (by decide)) ?_
  refine Ev.step (fun k => refPut_step k (a / 256 / 256 / 256 / 256 / 256 / 256) l _ n 6 (by omega) (by simp) (by decide) (by decide)) ?_
  refine Ev.step (fun k => refPut_step k (a / 256 / 256 / 256 / 256 / 256 / 256 / 256) l _ n 7 (by omega) (by simp) (by decide) (by decide)) ?_
  refine Ev.step (f := fun _ => some (l ++ ([((a / 256 / 256 / 256 / 256 / 256 / 256 / 256 % 256 : Nat) : Int), ((a / 256 / 256 / 256 / 256 / 256 / 256 % 256 : Nat) : Int), ((a / 256 / 256 / 256 / 256 / 256 % 256 : Nat) : Int), ((a / 256 / 256 / 256 / 256 % 256 : Nat) : Int), ((a / 256 / 256 / 256 % 256 : Nat) : Int), ((a / 256 / 256 % 256 : Nat) : Int), ((a / 256 % 256 : Nat) : Int), ((a % 256 : Nat) : Int)] : List Int).drop (8 - n))) (fun k => ?_) (Ev.now _)
  rw [marcotref02_Put.l0, if_neg (by decide)]
  simp only [Option.bind_some, List.nil_append]
  rw [wr (by omega) (by omega), show ((8 : Int) - (n : Int)).toNat = 8 - n by omega, if_pos (by simp; omega), if_pos (by omega), if_pos (by simp; omega), if_pos (by simp; omega)]
theorem refPut1 (l : List Int) (a : Nat) (ha : a < 256) (hl : l.length < 100000000) : Ev (fun k => marcotref02_Put.f k l (a : Int) 1) (l ++ [(a : Int)]) := by
  have := refPut_all l a 1 (by decide) (by omega) hl
  rw [show 8 - 1 = 7 by rfl] at this
  simp only [List.drop_succ_cons, List.drop_zero] at this
  rw [show a % 256 = a by omega] at this
  exact this
theorem refPut4 (l : List Int) (a : Nat) (ha : a < 4294967296) (hl : l.length < 100000000) : Ev (fun k => marcotref02_Put.f k l (a : Int) 4) (l ++ be4 (a : Int)) := by
  have := refPut_all l a 4 (by decide) (by omega) hl
  rw [show 8 - 4 = 4 by rfl] at this
  simp only [List.drop_succ_cons, List.drop_zero] at this
  have e : be4 (a : Int) = [((a / 256 / 256 / 256 % 256 : Nat) : Int), ((a / 256 / 256 % 256 : Nat) : Int), ((a / 256 % 256 : Nat) : Int), ((a % 256 : Nat) : Int)] := by
    unfold be4
    simp only [List.cons.injEq, and_true]
    omega
  rw [e]
  exact this
theorem refText (l : List Int) (t : ByteArray) (hl : l.length < 100000000) (ht : t.size ≤ 255) : Ev (fun k => marcotref02_PutText.f k l t) (l ++ text t) := by
  refine Ev.congr (f := fun k => (marcotref02_Put.f k l ((t.size : Nat) : Int) 1).bind fun t107 => if t107.length + t.size < 140737488355328 then some (t107 ++ bytesOf t) else none) ?_ (Ev.bind (refPut1 l t.size (by omega) hl) ?_)
  · intro k
    unfold marcotref02_PutText.f
    rw [if_neg (by omega), u64_wrap (by omega) (by omega)]
  · refine Ev.congr (f := fun _ => some (l ++ text t)) ?_ (Ev.now _)
    intro k
    rw [if_pos (by simp; omega)]
    simp [text]

theorem cp_take : ∀ (x y : List Int) (n : Nat), n ≤ x.length → n ≤ y.length → (x.take n = y.take n ↔ n ≤ cp x y)
  | _, _, 0, _, _ => by simp
  | [], _, n + 1, h, _ => by simp at h
  | _ :: _, [], n + 1, _, h => by simp at h
  | a :: x, b :: y, n + 1, h, h' => by
    have ih := cp_take x y n (by simpa using h) (by simpa using h')
    rw [List.take_succ_cons, List.take_succ_cons, List.cons.injEq, cp]
    by_cases he : a = b
    · rw [if_pos he, ih]
      simp [he]
    · rw [if_neg he]
      simp [he]
theorem bytesOf_inj {a b : ByteArray} (h : bytesOf a = bytesOf b) : a = b := by
  have h1 : a.data.toList = b.data.toList := by
    unfold bytesOf at h
    have := List.map_inj_right (f := fun b : UInt8 => ((b.toNat : Nat) : Int)) (fun x y hxy => UInt8.toNat_inj.mp (by omega)) |>.mp h
    exact this
  rw [← Go.Lib.mk_data a, ← Go.Lib.mk_data b, h1]
theorem bytesOf_take (t : ByteArray) (n : Nat) : bytesOf (t.extract 0 n) = (bytesOf t).take n := by
  unfold bytesOf
  rw [Go.Lib.extract_data, List.drop_zero, Nat.sub_zero, List.map_take]
theorem bytesOf_drop (t : ByteArray) (n : Nat) : bytesOf (t.extract n t.size) = (bytesOf t).drop n := by
  unfold bytesOf
  rw [Go.Lib.extract_data, Go.Lib.size_eq, ← List.map_drop]
  refine congrArg _ (List.take_of_length_le ?_)
  rw [List.length_drop]
  exact Nat.le_refl _
theorem toList_eq_iff {a b : ByteArray} : a.toList = b.toList ↔ a = b := by
  rw [Go.Lib.toList_data, Go.Lib.toList_data]
  constructor
  · intro h
    rw [← Go.Lib.mk_data a, ← Go.Lib.mk_data b, h]
  · intro h
    rw [h]
theorem refCommonEv (a b : ByteArray) (ha : a.size < 100000000) : ∀ n : Nat, n ≤ a.size → common a b ≤ n → Ev (fun k => marcotref03_Common.l0 k a b (n : Int)) (a.extract 0 (common a b)) := by
  intro n
  have hc2 := common_le2 a b
  induction n with
  | zero =>
    intro hn hc
    have e0 : common a b = 0 := by omega
    have : (⟨#[]⟩ : ByteArray) = a.extract 0 0 := bytesOf_inj (by rw [bytesOf_take]; rfl)
    rw [e0, ← this]
    exact Ev.step (f := fun _ => some ⟨#[]⟩) (fun k => by rw [marcotref03_Common.l0, if_neg (by decide)]) (Ev.now _)
  | succ n ih =>
    intro hn hc
    have hz := take_size a (n + 1) hn
    have hh : ∀ r, marcotref03_Has.f b (a.extract 0 (n + 1)) = some r → (r = true ↔ n + 1 ≤ common a b) := by
      intro r hr
      unfold marcotref03_Has.f at hr
      rw [hz] at hr
      by_cases hb : n + 1 ≤ b.size
      · rw [if_pos (by omega), if_pos (by omega), if_pos (by omega), Int.toNat_natCast] at hr
        have hr := Option.some.inj hr
        rw [← hr, beq_iff_eq, toList_eq_iff]
        have := cp_take (bytesOf a) (bytesOf b) (n + 1) (by rw [bytesOf_length]; omega) (by rw [bytesOf_length]; omega)
        rw [← bytesOf_take, ← bytesOf_take] at this
        unfold common
        rw [← this]
        exact ⟨fun h => by rw [h], fun h => (bytesOf_inj h).symm⟩
      · rw [if_neg (by omega)] at hr
        have hr := Option.some.inj hr
        subst hr
        constructor
        · intro h; cases h
        · intro h; omega
    have hs : ∃ r, marcotref03_Has.f b (a.extract 0 (n + 1)) = some r := by
      unfold marcotref03_Has.f
      rw [hz]
      by_cases hb : n + 1 ≤ b.size
      · rw [if_pos (by omega), if_pos (by omega), if_pos (by omega)]
        exact ⟨_, rfl⟩
      · rw [if_neg (by omega)]
        exact ⟨_, rfl⟩
    obtain ⟨r, hr⟩ := hs
    have hq := hh r hr
    refine Ev.step (f := fun k => if r = true then some (a.extract 0 (n + 1)) else marcotref03_Common.l0 k a b (n : Int)) ?_ ?_
    · intro k
      rw [marcotref03_Common.l0, if_pos (by omega), if_pos (by omega), if_pos (by omega), Int.toNat_natCast, hr, Option.bind_some, wr (by omega) (by omega)]
      rw [show (((n + 1 : Nat) : Int) - 1) = (n : Int) by omega]
    · cases r with
      | true =>
        have : common a b = n + 1 := by have := hq.mp rfl; omega
        rw [this]
        exact Ev.congr (fun k => by rw [if_pos rfl]) (Ev.now _)
      | false =>
        have : ¬ n + 1 ≤ common a b := fun h => by have := hq.mpr h; cases this
        exact Ev.congr (fun k => by rw [if_neg (by decide)]) (ih (by omega) (by omega))
theorem refCommon (a b : ByteArray) (ha : a.size < 100000000) : Ev (fun k => marcotref03_Common.f k a b) (a.extract 0 (common a b)) :=
  refCommonEv a b ha a.size (by omega) (common_le1 a b)

theorem refPutEv {l : List S136} (hl : l.length ≤ 20) (h : ∀ w ∈ l, OkW w) : ∀ (m i : Nat) (acc : List Int), l.length - i = m → i ≤ l.length → acc.length ≤ 10 + 4000 * i → Bytes acc →
    Ev (fun k => marcotref32_Put.l0 k l acc (l.length : Int) (i : Int)) (marked (acc ++ (l.drop i).flatMap oneOf), 0) := by
  intro m
  induction m with
  | zero =>
    intro i acc hm hi ha hb
    refine Ev.step (f := fun k => (marcotref01_Mark.f k acc).bind fun t108 => some (t108, 0)) (fun k => by rw [marcotref32_Put.l0, if_neg (by omega)]) ?_
    rw [List.drop_of_length_le (by omega)]
    simp only [List.flatMap_nil, List.append_nil]
    exact Ev.bind (refMark acc hb (by omega)) (Ev.now _)
  | succ m ih =>
    intro i acc hm hi ha hb
    have hi' : i < l.length := by omega
    have hw := h l[i] (List.getElem_mem _)
    have hw' := hw
    have hn := oneOf_length hw
    unfold OkW at hw'
    obtain ⟨hw1, hw2, hw3⟩ := hw'
    have inner : ∀ (m' j : Nat) (acc' : List Int) (last : ByteArray), l[i].f1.length - j = m' → j ≤ l[i].f1.length → last.size ≤ 16 → acc'.length ≤ 1000000 → acc'.length + 51 * (l[i].f1.length - j) ≤ 1000000 →
        Ev (fun k => marcotref32_Put.l0 k l (acc' ++ pairsOf last (l[i].f1.drop j)) (l.length : Int) ((i + 1 : Nat) : Int)) (marked (acc ++ (l.drop i).flatMap oneOf), 0) →
        Ev (fun k => marcotref32_Put.l1 k l acc' (i : Int) last (l.length : Int) (i : Int) (l[i].f1.length : Int) (j : Int)) (marked (acc ++ (l.drop i).flatMap oneOf), 0) := by
      intro m'
      induction m' with
      | zero =>
        intro j acc' last hm' hj hlast ha1 ha2 hk
        rw [List.drop_of_length_le (by omega)] at hk
        simp only [pairsOf, List.append_nil] at hk
        refine Ev.step (fun k => ?_) hk
        rw [marcotref32_Put.l1, if_neg (by omega), wr (by omega) (by omega)]
        rfl
      | succ m' ih' =>
        intro j acc' last hm' hj hlast ha1 ha2 hk
        have hj' : j < l[i].f1.length := by omega
        have hp := hw3 l[i].f1[j] (List.getElem_mem _)
        unfold OkP at hp
        have hle := common_le2 last l[i].f1[j].f0
        have hle1 := common_le1 last l[i].f1[j].f0
        have hx := extract_size l[i].f1[j].f0 _ hle
        have hy := take_size last _ hle1
        refine Ev.step (f := fun k => (marcotref03_Common.f k last l[i].f1[j].f0).bind fun t123 => (if acc'.length < 140737488355328 then (if 0 ≤ (t123.size : Int) then (if (t123.size : Int) ≤ (l[i].f1[j].f0.size : Int) then ((marcotref02_PutText.f k (acc' ++ [((t123.size : Int)) % 256]) (l[i].f1[j].f0.extract ((t123.size : Int) : Int).toNat l[i].f1[j].f0.size)).bind fun t127 => ((marcotref02_PutText.f k t127 l[i].f1[j].f1).bind fun t130 => (marcotref32_Put.l1 k l t130 (i : Int) l[i].f1[j].f0 (l.length : Int) (i : Int) (l[i].f1.length : Int) ((j + 1 : Nat) : Int)))) else none) else none) else none)) ?_ ?_
        · intro k
          rw [marcotref32_Put.l1, if_pos (by omega), if_pos (by omega), if_pos (by omega), if_pos (by omega), rd136 hi', if_pos (by omega), rd145 hj', wr (by omega) (by omega)]
          rfl
        · refine Ev.bind (refCommon _ _ (by omega)) ?_
          rw [hy]
          refine Ev.congr (f := fun k => ((marcotref02_PutText.f k (acc' ++ [((common last l[i].f1[j].f0 : Nat) : Int)]) (l[i].f1[j].f0.extract (common last l[i].f1[j].f0) l[i].f1[j].f0.size)).bind fun t127 => ((marcotref02_PutText.f k t127 l[i].f1[j].f1).bind fun t130 => (marcotref32_Put.l1 k l t130 (i : Int) l[i].f1[j].f0 (l.length : Int) (i : Int) (l[i].f1.length : Int) ((j + 1 : Nat) : Int))))) ?_ ?_
          · intro k
            rw [if_pos (by omega), if_pos (by omega), if_pos (by omega), Int.toNat_natCast, show (((common last l[i].f1[j].f0 : Nat) : Int) % 256) = ((common last l[i].f1[j].f0 : Nat) : Int) by omega]
          · refine Ev.bind (refText _ _ (by simp; omega) (by omega)) ?_
            refine Ev.bind (refText _ _ (by simp [text_length]; omega) (by omega)) ?_
            refine ih' (j + 1) _ _ (by omega) (by omega) (by omega) (by simp only [List.length_append, List.length_cons, List.length_nil, text_length, hx]; omega) (by simp only [List.length_append, List.length_cons, List.length_nil, text_length, hx]; omega) ?_
            rw [List.drop_eq_getElem_cons hj'] at hk
            simp only [pairsOf, List.append_assoc, List.cons_append, List.nil_append] at hk ⊢
            exact hk
    refine Ev.step (f := fun k => (marcotref02_PutText.f k acc l[i].f0).bind fun t112 => ((marcotref02_Put.f k t112 ((l[i].f1.length : Nat) : Int) 4).bind fun t116 => (marcotref32_Put.l1 k l t116 (i : Int) (⟨#[]⟩ : ByteArray) (l.length : Int) (i : Int) (l[i].f1.length : Int) ((0 : Nat) : Int)))) ?_ ?_
    · intro k
      rw [marcotref32_Put.l0, if_pos (by omega), if_pos (by omega), if_pos (by omega), rd136 hi', u64_wrap (by omega) (by omega)]
      rfl
    · refine Ev.bind (refText _ _ (by omega) (by omega)) ?_
      refine Ev.bind (refPut4 _ _ (by omega) (by simp [text_length]; omega)) ?_
      refine inner l[i].f1.length 0 _ _ (by omega) (by omega) (by decide) (by simp [text_length, be4_length]; omega) (by simp [text_length, be4_length]; omega) ?_
      have := ih (i + 1) (acc ++ oneOf l[i]) (by omega) (by omega) (by rw [List.length_append]; omega) (by
          intro c hc
          rcases List.mem_append.mp hc with hc | hc
          · exact hb c hc
          · exact oneOf_bytes hw c hc)
      rw [List.drop_eq_getElem_cons hi', List.flatMap_cons, ← List.append_assoc]
      rw [List.drop_zero]
      unfold oneOf at this ⊢
      simp only [List.append_assoc] at this ⊢
      exact this
end Go.Proofs.Ytfdemnefkfkghaa.Q
namespace Go.Proofs.Ytfdemnefkfkghaa.X
open Go.RowKit Go.Proofs.YtfdemnefkfkghaaW.PrintWords Go.Proofs.YtfdemnefkfkghaaW.PrintLast Go.Proofs.YtfdemnefkfkghaaW.PrintMore
attribute [local go_sem] max2_int min2_int max_two min_two max_three min_three max_four min_four   -- for this text's walks alone
attribute [local go_sem high] Go.Proofs.Ytfdemnefkfkghaa.XW.leq Go.Proofs.Ytfdemnefkfkghaa.XW.gtr Go.Proofs.Ytfdemnefkfkghaa.XW.geq
set_option linter.unusedVariables false
set_option linter.unusedSimpArgs false

theorem eqA145 (d : Nat) (w : World) (x0 y0 : ByteArray) (x1 y1 : ByteArray) :
    (Op.equalIn (d + 2) 145 (.agg #[.string x0, .string x1]) (.agg #[.string y0, .string y1])).run Try.prog w = .ok (x0.toList == y0.toList && (x1.toList == y1.toList)) w := by
  refine eqA_of Try.underlying145 (by kernel_rfl) ?_
  refine eqf_cons (by rfl) (by go_simp; rfl) (by go_simp; rfl) (by go_simp) ?_
  exact eqf_last (by rfl) (by go_simp; rfl) (by go_simp; rfl) (by go_simp)
end Go.Proofs.Ytfdemnefkfkghaa.X
namespace Go.Proofs.Ytfdemnefkfkghaa.X
open Go.RowKit Go.Proofs.YtfdemnefkfkghaaW.PrintWords Go.Proofs.YtfdemnefkfkghaaW.PrintLast Go.Proofs.YtfdemnefkfkghaaW.PrintMore
attribute [local go_sem] max2_int min2_int max_two min_two max_three min_three max_four min_four   -- for this text's walks alone
attribute [local go_sem high] Go.Proofs.Ytfdemnefkfkghaa.XW.leq Go.Proofs.Ytfdemnefkfkghaa.XW.gtr Go.Proofs.Ytfdemnefkfkghaa.XW.geq
set_option linter.unusedVariables false
set_option linter.unusedSimpArgs false

attribute [local go_sem high] eqA145
def marcotref06_SamePairs.l0 : Nat → List (S145) → List (S145) → Int → Int → Option (Bool)
  | 0, _, _, _, _ => none
  | k + 1, x0, x1, x12, x13 => if x13 < x12 then (if 0 ≤ x13 then (if x13 < (x0.length : Int) then (if x13 < (x1.length : Int) then (if (!((((rd_T145 x0 x13).f0).toList) == (((rd_T145 x1 x13).f0).toList)) || (!((((rd_T145 x0 x13).f1).toList) == (((rd_T145 x1 x13).f1).toList)))) = true then (some false) else (marcotref06_SamePairs.l0 k x0 x1 x12 (wrap64 (x13 + 1)))) else (none)) else (none)) else (none)) else (some true)
def marcotref06_SamePairs.f (k : Nat) (l0 : List (S145)) (l1 : List (S145)) : Option (Bool) := if (l0.length : Int) = (l1.length : Int) then (marcotref06_SamePairs.l0 k l0 l1 (l0.length : Int) 0) else (some false)
theorem marcotref06_SamePairs.mono_l : ∀ k, (∀ y0 y1 y2 y3, LeO (marcotref06_SamePairs.l0 k y0 y1 y2 y3) (marcotref06_SamePairs.l0 (k + 1) y0 y1 y2 y3))
  | 0 => fun _ _ _ _ r h => by simp [marcotref06_SamePairs.l0] at h
  | k + 1 => by
    have ih0 := marcotref06_SamePairs.mono_l k
    · intro y0 y1 y2 y3
      unfold marcotref06_SamePairs.l0
      repeat' first
      | (with_reducible exact ih0 _ _ _ _)
      | (with_reducible exact LeO.refl _)
      | (with_reducible exact LeO.none _)
      | (with_reducible refine LeO.ite ?_ ?_)
      | (with_reducible refine LeO.bind ?_ (fun _ => ?_))
      | exact ih0 _ _ _ _
      | exact LeO.none _
      | refine LeO.ite ?_ ?_
      | refine LeO.bind ?_ (fun _ => ?_)
theorem marcotref06_SamePairs.mono : ∀ a0 a1 k, LeO (marcotref06_SamePairs.f k a0 a1) (marcotref06_SamePairs.f (k + 1) a0 a1) := by
  intro a0 a1 k
  have ih0 := marcotref06_SamePairs.mono_l k
  unfold marcotref06_SamePairs.f
  repeat' first
      | (with_reducible exact ih0 _ _ _ _)
      | (with_reducible exact LeO.refl _)
      | (with_reducible exact LeO.none _)
      | (with_reducible refine LeO.ite ?_ ?_)
      | (with_reducible refine LeO.bind ?_ (fun _ => ?_))
      | exact ih0 _ _ _ _
      | exact LeO.none _
      | refine LeO.ite ?_ ?_
      | refine LeO.bind ?_ (fun _ => ?_)
set_option maxHeartbeats 8000000 in
set_option maxRecDepth 100000 in
theorem marcotref06_SamePairs.calls (k : Nat) (A0 : Option Addr) (c0 : Nat) (l0 : List (S145)) (A1 : Option Addr) (c1 : Nat) (l1 : List (S145)) (r : Bool) (w : World) (hr0 : Kd.C k145 w A0 l0.length l0) (hc0 : l0.length ≤ c0) (hr1 : Kd.C k145 w A1 l1.length l1) (hc1 : l1.length ≤ c1) (h : marcotref06_SamePairs.f k l0 l1 = some r) :
    Calls Try.prog 44 #[.slice A0 l0.length c0, .slice A1 l1.length c1] w fun e w' => e = .returned (.bool r) ∧ Drawn0 w w' := by
  have hu145 := Try.underlying145
  have HR0 := Aside0.mk hr0
  have HC0 := Aside0.mk hc0
  clear hr0 hc0
  have HR1 := Aside0.mk hr1
  have HC1 := Aside0.mk hc1
  clear hr1 hc1
  have H : (if (l0.length : Int) = (l1.length : Int) then (marcotref06_SamePairs.l0 k l0 l1 (l0.length : Int) 0) else (some false)) = some r := h
  clear h
  by_cases c3 : (l0.length : Int) = (l1.length : Int)
  · rw [if_pos c3] at H
    have c3b0 : ((l0.length : Int) == (l1.length : Int)) = true := beq_iff_eq.mpr c3
    have c3b1 : ((l0.length : Int) != (l1.length : Int)) = false := bne_eq_false_iff_eq.mpr c3
    have c3b2 : (l0.length == l1.length) = true := by first | simpa using c3 | (simp at c3 ⊢; omega)
    clear c3
    have H' := Aside0.mk H
    clear H
    go_enter Try.func44, Try.ntmps44
    go_wp2
    repeat (go_quiet (fail); try go_wp2)
    go_loopg [13] k (fun kq v13 w' => ∃ (x13_1 : Int), v13 = .int .i64 x13_1 ∧ Aside0 (marcotref06_SamePairs.l0 kq l0 l1 (l0.length : Int) x13_1 = some r) ∧ Aside0 (kq ≤ k) ∧ Drawn0 w w')
    case atStart => exact ⟨(0), (by first | rfl | (simp; done) | (simp [*]; done)), H', ⟨Nat.le_refl _⟩, by repeat (first | exact Drawn0.refl _ | apply Drawn0.step)⟩
    case round =>
      clear H'
      try clear c1
      try clear p2
      try clear c3
      try clear c3b0
      try clear c3b1
      try clear c3b2
      obtain ⟨x13_1, rfl, HA, HK1, ⟨m1, rfl⟩⟩ := hrel
      cases gk with
      | zero => exact absurd HA.out (by simp [marcotref06_SamePairs.l0])
      | succ k1 =>
        have H := HA.out
        clear HA
        simp only [marcotref06_SamePairs.l0] at H
        by_cases c4 : x13_1 < (l0.length : Int)
        · rw [if_pos c4] at H
          have c4b0 : decide (x13_1 < (l0.length : Int)) = true := decide_eq_true c4
          clear c4
          by_cases c5 : 0 ≤ x13_1
          · rw [if_pos c5] at H
            have c5b0 : decide (0 ≤ x13_1) = true := decide_eq_true c5
            clear c5
            by_cases c6 : x13_1 < (l0.length : Int)
            · rw [if_pos c6] at H
              have c6b0 : decide (x13_1 < (l0.length : Int)) = true := decide_eq_true c6
              clear c6
              by_cases c7 : x13_1 < (l1.length : Int)
              · rw [if_pos c7] at H
                have c7b0 : decide (x13_1 < (l1.length : Int)) = true := decide_eq_true c7
                clear c7
                by_cases c8 : (!((((rd_T145 l0 x13_1).f0).toList) == (((rd_T145 l1 x13_1).f0).toList)) || (!((((rd_T145 l0 x13_1).f1).toList) == (((rd_T145 l1 x13_1).f1).toList)))) = true
                · rw [if_pos c8] at H
                  have c8b0 : (!((((rd_T145 l0 x13_1).f0).toList) == (((rd_T145 l1 x13_1).f0).toList)) || (!((((rd_T145 l0 x13_1).f1).toList) == (((rd_T145 l1 x13_1).f1).toList)))) = true := c8
                  clear c8
                  obtain rfl := Option.some.inj H
                  have p101 : 0 ≤ (x13_1 : Int) := of_decide_eq_true (by first | (with_reducible assumption) | assumption)
                  have q101 : x13_1 < (l0.length : Int) := of_decide_eq_true (by first | (with_reducible assumption) | assumption)
                  obtain ⟨ad101, e101, hx101_0, hx101_1⟩ := at_T145 HR0.out x13_1 p101 q101
                  cases e101
                  replace p101 := eq_true p101
                  replace q101 := eq_true q101
                  have p102 : 0 ≤ (x13_1 : Int) := of_decide_eq_true (by first | (with_reducible assumption) | assumption)
                  have q102 : x13_1 < (l1.length : Int) := of_decide_eq_true (by first | (with_reducible assumption) | assumption)
                  obtain ⟨ad102, e102, hx102_0, hx102_1⟩ := at_T145 HR1.out x13_1 p102 q102
                  cases e102
                  replace p102 := eq_true p102
                  replace q102 := eq_true q102
                  go_wp2
                  repeat (go_quiet (fail); try go_wp2)
                  go_ret
                  exact ⟨by first | rfl | (simp; done) | (simp [*]; done), by repeat (first | exact Drawn0.refl _ | apply Drawn0.step)⟩
                · rw [if_neg c8] at H
                  have c8b0 : (!((((rd_T145 l0 x13_1).f0).toList) == (((rd_T145 l1 x13_1).f0).toList)) || (!((((rd_T145 l0 x13_1).f1).toList) == (((rd_T145 l1 x13_1).f1).toList)))) = false := by simpa using c8
                  clear c8
                  have H' := Aside0.mk H
                  clear H
                  have p101 : 0 ≤ (x13_1 : Int) := of_decide_eq_true (by first | (with_reducible assumption) | assumption)
                  have q101 : x13_1 < (l0.length : Int) := of_decide_eq_true (by first | (with_reducible assumption) | assumption)
                  obtain ⟨ad101, e101, hx101_0, hx101_1⟩ := at_T145 HR0.out x13_1 p101 q101
                  cases e101
                  replace p101 := eq_true p101
                  replace q101 := eq_true q101
                  have p102 : 0 ≤ (x13_1 : Int) := of_decide_eq_true (by first | (with_reducible assumption) | assumption)
                  have q102 : x13_1 < (l1.length : Int) := of_decide_eq_true (by first | (with_reducible assumption) | assumption)
                  obtain ⟨ad102, e102, hx102_0, hx102_1⟩ := at_T145 HR1.out x13_1 p102 q102
                  cases e102
                  replace p102 := eq_true p102
                  replace q102 := eq_true q102
                  go_wp2
                  repeat (go_quiet (fail); try go_wp2)
                  go_roundg k1
                  case measure => have := HK1.out; omega
                  case rel => exact ⟨(wrap64 (x13_1 + 1)), (by first | rfl | (simp; done) | (simp [*]; done)), H', ⟨by have := HK1.out; omega⟩, by repeat (first | exact Drawn0.refl _ | apply Drawn0.step)⟩
              · rw [if_neg c7] at H
                exact absurd H (by simp)
            · rw [if_neg c6] at H
              exact absurd H (by simp)
          · rw [if_neg c5] at H
            exact absurd H (by simp)
        · rw [if_neg c4] at H
          have c4b0 : decide (x13_1 < (l0.length : Int)) = false := decide_eq_false c4
          clear c4
          obtain rfl := Option.some.inj H
          go_wp2
          repeat (go_quiet (fail); try go_wp2)
          go_ret
          exact ⟨by first | rfl | (simp; done) | (simp [*]; done), by repeat (first | exact Drawn0.refl _ | apply Drawn0.step)⟩
  · rw [if_neg c3] at H
    have c3b0 : ((l0.length : Int) == (l1.length : Int)) = false := beq_eq_false_iff_ne.mpr c3
    have c3b1 : ((l0.length : Int) != (l1.length : Int)) = true := bne_iff_ne.mpr c3
    have c3b2 : (l0.length == l1.length) = false := by first | simpa using c3 | (simp at c3 ⊢; omega)
    obtain rfl := Option.some.inj H
    go_enter Try.func44, Try.ntmps44
    go_wp2
    repeat (go_quiet (fail); try go_wp2)
    go_ret
    exact ⟨by first | rfl | (simp; done) | (simp [*]; done), by repeat (first | exact Drawn0.refl _ | apply Drawn0.step)⟩

end Go.Proofs.Ytfdemnefkfkghaa.X
namespace Go.Proofs.Ytfdemnefkfkghaa.X
open Go.RowKit Go.Proofs.YtfdemnefkfkghaaW.PrintWords Go.Proofs.YtfdemnefkfkghaaW.PrintLast Go.Proofs.YtfdemnefkfkghaaW.PrintMore
attribute [local go_sem] max2_int min2_int max_two min_two max_three min_three max_four min_four   -- for this text's walks alone
attribute [local go_sem high] Go.Proofs.Ytfdemnefkfkghaa.XW.leq Go.Proofs.Ytfdemnefkfkghaa.XW.gtr Go.Proofs.Ytfdemnefkfkghaa.XW.geq
set_option linter.unusedVariables false
set_option linter.unusedSimpArgs false

def marcotref32_Same.l0 : Nat → List (S136) → List (S136) → Int → Int → Option (Bool)
  | 0, _, _, _, _ => none
  | k + 1, x0, x1, x12, x13 => if x13 < x12 then (if 0 ≤ x13 then (if x13 < (x0.length : Int) then (if x13 < (x1.length : Int) then (if ((rd_T136 x0 x13).f0).toList = ((rd_T136 x1 x13).f0).toList then ((marcotref06_SamePairs.f k ((rd_T136 x0 x13).f1) ((rd_T136 x1 x13).f1)).bind fun t105 => (if t105 = true then (marcotref32_Same.l0 k x0 x1 x12 (wrap64 (x13 + 1))) else (some false))) else (some false)) else (none)) else (none)) else (none)) else (some true)
def marcotref32_Same.f (k : Nat) (l0 : List (S136)) (l1 : List (S136)) : Option (Bool) := if (l0.length : Int) = (l1.length : Int) then (marcotref32_Same.l0 k l0 l1 (l0.length : Int) 0) else (some false)
theorem marcotref32_Same.mono_l : ∀ k, (∀ y0 y1 y2 y3, LeO (marcotref32_Same.l0 k y0 y1 y2 y3) (marcotref32_Same.l0 (k + 1) y0 y1 y2 y3))
  | 0 => fun _ _ _ _ r h => by simp [marcotref32_Same.l0] at h
  | k + 1 => by
    have ih0 := marcotref32_Same.mono_l k
    · intro y0 y1 y2 y3
      unfold marcotref32_Same.l0
      repeat' first
      | (with_reducible exact ih0 _ _ _ _)
      | (with_reducible exact marcotref06_SamePairs.mono _ _ _)
      | (with_reducible exact LeO.refl _)
      | (with_reducible exact LeO.none _)
      | (with_reducible refine LeO.ite ?_ ?_)
      | (with_reducible refine LeO.bind ?_ (fun _ => ?_))
      | exact ih0 _ _ _ _
      | exact marcotref06_SamePairs.mono _ _ _
      | exact LeO.none _
      | refine LeO.ite ?_ ?_
      | refine LeO.bind ?_ (fun _ => ?_)
theorem marcotref32_Same.mono : ∀ a0 a1 k, LeO (marcotref32_Same.f k a0 a1) (marcotref32_Same.f (k + 1) a0 a1) := by
  intro a0 a1 k
  have ih0 := marcotref32_Same.mono_l k
  unfold marcotref32_Same.f
  repeat' first
      | (with_reducible exact ih0 _ _ _ _)
      | (with_reducible exact marcotref06_SamePairs.mono _ _ _)
      | (with_reducible exact LeO.refl _)
      | (with_reducible exact LeO.none _)
      | (with_reducible refine LeO.ite ?_ ?_)
      | (with_reducible refine LeO.bind ?_ (fun _ => ?_))
      | exact ih0 _ _ _ _
      | exact marcotref06_SamePairs.mono _ _ _
      | exact LeO.none _
      | refine LeO.ite ?_ ?_
      | refine LeO.bind ?_ (fun _ => ?_)
set_option maxHeartbeats 8000000 in
set_option maxRecDepth 100000 in
theorem marcotref32_Same.calls (k : Nat) (A0 : Option Addr) (c0 : Nat) (l0 : List (S136)) (A1 : Option Addr) (c1 : Nat) (l1 : List (S136)) (r : Bool) (w : World) (hr0 : Kd.C k136 w A0 l0.length l0) (hc0 : l0.length ≤ c0) (hr1 : Kd.C k136 w A1 l1.length l1) (hc1 : l1.length ≤ c1) (h : marcotref32_Same.f k l0 l1 = some r) :
    Calls Try.prog 24 #[.slice A0 l0.length c0, .slice A1 l1.length c1] w fun e w' => e = .returned (.bool r) ∧ Drawn0 w w' := by
  have HR0 := Aside0.mk hr0
  have HC0 := Aside0.mk hc0
  clear hr0 hc0
  have HR1 := Aside0.mk hr1
  have HC1 := Aside0.mk hc1
  clear hr1 hc1
  have H : (if (l0.length : Int) = (l1.length : Int) then (marcotref32_Same.l0 k l0 l1 (l0.length : Int) 0) else (some false)) = some r := h
  clear h
  by_cases c3 : (l0.length : Int) = (l1.length : Int)
  · rw [if_pos c3] at H
    have c3b0 : ((l0.length : Int) == (l1.length : Int)) = true := beq_iff_eq.mpr c3
    have c3b1 : ((l0.length : Int) != (l1.length : Int)) = false := bne_eq_false_iff_eq.mpr c3
    have c3b2 : (l0.length == l1.length) = true := by first | simpa using c3 | (simp at c3 ⊢; omega)
    clear c3
    have H' := Aside0.mk H
    clear H
    go_enter Try.func24, Try.ntmps24
    go_wp2
    repeat (go_quiet (fail); try go_wp2)
    go_loopg [13] k (fun kq v13 w' => ∃ (x13_1 : Int), v13 = .int .i64 x13_1 ∧ Aside0 (marcotref32_Same.l0 kq l0 l1 (l0.length : Int) x13_1 = some r) ∧ Aside0 (kq ≤ k) ∧ Drawn0 w w')
    case atStart => exact ⟨(0), (by first | rfl | (simp; done) | (simp [*]; done)), H', ⟨Nat.le_refl _⟩, by repeat (first | exact Drawn0.refl _ | apply Drawn0.step)⟩
    case round =>
      clear H'
      try clear c1
      try clear c2
      try clear p2
      try clear c3
      try clear c3b0
      try clear c3b1
      try clear c3b2
      obtain ⟨x13_1, rfl, HA, HK1, ⟨m1, rfl⟩⟩ := hrel
      cases gk with
      | zero => exact absurd HA.out (by simp [marcotref32_Same.l0])
      | succ k1 =>
        have H := HA.out
        clear HA
        simp only [marcotref32_Same.l0] at H
        by_cases c4 : x13_1 < (l0.length : Int)
        · rw [if_pos c4] at H
          have c4b0 : decide (x13_1 < (l0.length : Int)) = true := decide_eq_true c4
          clear c4
          by_cases c5 : 0 ≤ x13_1
          · rw [if_pos c5] at H
            have c5b0 : decide (0 ≤ x13_1) = true := decide_eq_true c5
            clear c5
            by_cases c6 : x13_1 < (l0.length : Int)
            · rw [if_pos c6] at H
              have c6b0 : decide (x13_1 < (l0.length : Int)) = true := decide_eq_true c6
              clear c6
              by_cases c7 : x13_1 < (l1.length : Int)
              · rw [if_pos c7] at H
                have c7b0 : decide (x13_1 < (l1.length : Int)) = true := decide_eq_true c7
                clear c7
                by_cases c8 : ((rd_T136 l0 x13_1).f0).toList = ((rd_T136 l1 x13_1).f0).toList
                · rw [if_pos c8] at H
                  have c8b0 : (((rd_T136 l0 x13_1).f0).toList == ((rd_T136 l1 x13_1).f0).toList) = true := beq_iff_eq.mpr c8
                  have c8b1 : (((rd_T136 l0 x13_1).f0).toList != ((rd_T136 l1 x13_1).f0).toList) = false := bne_eq_false_iff_eq.mpr c8
                  clear c8
                  replace H := Option.bind_eq_some_iff.mp H
                  obtain ⟨t105, A90, H⟩ := H
                  replace H : (if t105 = true then (marcotref32_Same.l0 k1 l0 l1 (l0.length : Int) (wrap64 (x13_1 + 1))) else (some false)) = some r := H
                  have A9 := Aside0.mk A90
                  clear A90
                  by_cases c10 : t105 = true
                  · subst c10
                    have H1 : (marcotref32_Same.l0 k1 l0 l1 (l0.length : Int) (wrap64 (x13_1 + 1))) = some r := by rw [if_pos rfl] at H; exact H
                    clear H
                    have H := H1
                    clear H1
                    have H' := Aside0.mk H
                    clear H
                    have p101 : 0 ≤ (x13_1 : Int) := of_decide_eq_true (by first | (with_reducible assumption) | assumption)
                    have q101 : x13_1 < (l0.length : Int) := of_decide_eq_true (by first | (with_reducible assumption) | assumption)
                    obtain ⟨ad101, A101_1, c101_1, e101, hx101_0, hx101_1, hl101_1, hi101_1⟩ := at_T136 HR0.out x13_1 p101 q101
                    cases e101
                    have HR101_1 := Aside0.mk hi101_1
                    have HC101_1 := Aside0.mk hl101_1
                    clear hi101_1 hl101_1
                    replace p101 := eq_true p101
                    replace q101 := eq_true q101
                    have p102 : 0 ≤ (x13_1 : Int) := of_decide_eq_true (by first | (with_reducible assumption) | assumption)
                    have q102 : x13_1 < (l1.length : Int) := of_decide_eq_true (by first | (with_reducible assumption) | assumption)
                    obtain ⟨ad102, A102_1, c102_1, e102, hx102_0, hx102_1, hl102_1, hi102_1⟩ := at_T136 HR1.out x13_1 p102 q102
                    cases e102
                    have HR102_1 := Aside0.mk hi102_1
                    have HC102_1 := Aside0.mk hl102_1
                    clear hi102_1 hl102_1
                    replace p102 := eq_true p102
                    replace q102 := eq_true q102
                    have p103 : 0 ≤ (x13_1 : Int) := of_decide_eq_true (by first | (with_reducible assumption) | assumption)
                    have q103 : x13_1 < (l0.length : Int) := of_decide_eq_true (by first | (with_reducible assumption) | assumption)
                    obtain ⟨ad103, A103_1, c103_1, e103, hx103_0, hx103_1, hl103_1, hi103_1⟩ := at_T136 HR0.out x13_1 p103 q103
                    obtain rfl : ad101 = ad103 := (by injection e103)
                    have HR103_1 := Aside0.mk hi103_1
                    have HC103_1 := Aside0.mk hl103_1
                    clear hi103_1 hl103_1
                    replace p103 := eq_true p103
                    replace q103 := eq_true q103
                    have ea_ := Option.some.inj (hx101_1.symm.trans hx103_1)
                    injection ea_ with ea_ en_ ec_
                    subst ea_
                    subst ec_
                    clear en_
                    have p104 : 0 ≤ (x13_1 : Int) := of_decide_eq_true (by first | (with_reducible assumption) | assumption)
                    have q104 : x13_1 < (l1.length : Int) := of_decide_eq_true (by first | (with_reducible assumption) | assumption)
                    obtain ⟨ad104, A104_1, c104_1, e104, hx104_0, hx104_1, hl104_1, hi104_1⟩ := at_T136 HR1.out x13_1 p104 q104
                    obtain rfl : ad102 = ad104 := (by injection e104)
                    have HR104_1 := Aside0.mk hi104_1
                    have HC104_1 := Aside0.mk hl104_1
                    clear hi104_1 hl104_1
                    replace p104 := eq_true p104
                    replace q104 := eq_true q104
                    have ea_ := Option.some.inj (hx102_1.symm.trans hx104_1)
                    injection ea_ with ea_ en_ ec_
                    subst ea_
                    subst ec_
                    clear en_
                    go_wp2_with (first | (go_at_call 44; (with_reducible refine (marcotref06_SamePairs.calls k1 _ _ ((rd_T136 l0 x13_1).f1) _ _ ((rd_T136 l1 x13_1).f1) true _ ?side1 ?side2 ?side3 ?side4 A9.out).mono ?_); (case side1 => repeat (first | exact HR103_1.out | (with_reducible refine Kd.C_alloc ?_ _) | (with_reducible refine Kd.C_drewN ?_ _) | (with_reducible refine Kd.C_drew ?_))); (case side2 => exact HC103_1.out); (case side3 => repeat (first | exact HR104_1.out | (with_reducible refine Kd.C_alloc ?_ _) | (with_reducible refine Kd.C_drewN ?_ _) | (with_reducible refine Kd.C_drew ?_))); (case side4 => exact HC104_1.out); rintro e w' ⟨rfl, ⟨nd, rfl⟩⟩; (try first | exact ⟨rfl, _, World.drewN_drewN _ _ _⟩ | exact ⟨rfl, _, Eq.trans (World.drewN_drewN _ _ _) (congrArg (World.drewN _) (Nat.add_assoc _ _ _))⟩)))
                    repeat (go_quiet (first | (go_at_call 44; (with_reducible refine (marcotref06_SamePairs.calls k1 _ _ ((rd_T136 l0 x13_1).f1) _ _ ((rd_T136 l1 x13_1).f1) true _ ?side1 ?side2 ?side3 ?side4 A9.out).mono ?_); (case side1 => repeat (first | exact HR103_1.out | (with_reducible refine Kd.C_alloc ?_ _) | (with_reducible refine Kd.C_drewN ?_ _) | (with_reducible refine Kd.C_drew ?_))); (case side2 => exact HC103_1.out); (case side3 => repeat (first | exact HR104_1.out | (with_reducible refine Kd.C_alloc ?_ _) | (with_reducible refine Kd.C_drewN ?_ _) | (with_reducible refine Kd.C_drew ?_))); (case side4 => exact HC104_1.out); rintro e w' ⟨rfl, ⟨nd, rfl⟩⟩; (try first | exact ⟨rfl, _, World.drewN_drewN _ _ _⟩ | exact ⟨rfl, _, Eq.trans (World.drewN_drewN _ _ _) (congrArg (World.drewN _) (Nat.add_assoc _ _ _))⟩))); try go_wp2_with (first | (go_at_call 44; (with_reducible refine (marcotref06_SamePairs.calls k1 _ _ ((rd_T136 l0 x13_1).f1) _ _ ((rd_T136 l1 x13_1).f1) true _ ?side1 ?side2 ?side3 ?side4 A9.out).mono ?_); (case side1 => repeat (first | exact HR103_1.out | (with_reducible refine Kd.C_alloc ?_ _) | (with_reducible refine Kd.C_drewN ?_ _) | (with_reducible refine Kd.C_drew ?_))); (case side2 => exact HC103_1.out); (case side3 => repeat (first | exact HR104_1.out | (with_reducible refine Kd.C_alloc ?_ _) | (with_reducible refine Kd.C_drewN ?_ _) | (with_reducible refine Kd.C_drew ?_))); (case side4 => exact HC104_1.out); rintro e w' ⟨rfl, ⟨nd, rfl⟩⟩; (try first | exact ⟨rfl, _, World.drewN_drewN _ _ _⟩ | exact ⟨rfl, _, Eq.trans (World.drewN_drewN _ _ _) (congrArg (World.drewN _) (Nat.add_assoc _ _ _))⟩))))
                    go_roundg k1
                    case measure => have := HK1.out; omega
                    case rel => exact ⟨(wrap64 (x13_1 + 1)), (by first | rfl | (simp; done) | (simp [*]; done)), H', ⟨by have := HK1.out; omega⟩, by repeat (first | exact Drawn0.refl _ | apply Drawn0.step)⟩
                  · replace c10 := Bool.eq_false_iff.mpr c10
                    subst c10
                    have H1 : (some false) = some r := by rw [if_neg (show ¬ (false = true) by decide)] at H; exact H
                    clear H
                    have H := H1
                    clear H1
                    obtain rfl := Option.some.inj H
                    have p101 : 0 ≤ (x13_1 : Int) := of_decide_eq_true (by first | (with_reducible assumption) | assumption)
                    have q101 : x13_1 < (l0.length : Int) := of_decide_eq_true (by first | (with_reducible assumption) | assumption)
                    obtain ⟨ad101, A101_1, c101_1, e101, hx101_0, hx101_1, hl101_1, hi101_1⟩ := at_T136 HR0.out x13_1 p101 q101
                    cases e101
                    have HR101_1 := Aside0.mk hi101_1
                    have HC101_1 := Aside0.mk hl101_1
                    clear hi101_1 hl101_1
                    replace p101 := eq_true p101
                    replace q101 := eq_true q101
                    have p102 : 0 ≤ (x13_1 : Int) := of_decide_eq_true (by first | (with_reducible assumption) | assumption)
                    have q102 : x13_1 < (l1.length : Int) := of_decide_eq_true (by first | (with_reducible assumption) | assumption)
                    obtain ⟨ad102, A102_1, c102_1, e102, hx102_0, hx102_1, hl102_1, hi102_1⟩ := at_T136 HR1.out x13_1 p102 q102
                    cases e102
                    have HR102_1 := Aside0.mk hi102_1
                    have HC102_1 := Aside0.mk hl102_1
                    clear hi102_1 hl102_1
                    replace p102 := eq_true p102
                    replace q102 := eq_true q102
                    have p103 : 0 ≤ (x13_1 : Int) := of_decide_eq_true (by first | (with_reducible assumption) | assumption)
                    have q103 : x13_1 < (l0.length : Int) := of_decide_eq_true (by first | (with_reducible assumption) | assumption)
                    obtain ⟨ad103, A103_1, c103_1, e103, hx103_0, hx103_1, hl103_1, hi103_1⟩ := at_T136 HR0.out x13_1 p103 q103
                    obtain rfl : ad101 = ad103 := (by injection e103)
                    have HR103_1 := Aside0.mk hi103_1
                    have HC103_1 := Aside0.mk hl103_1
                    clear hi103_1 hl103_1
                    replace p103 := eq_true p103
                    replace q103 := eq_true q103
                    have ea_ := Option.some.inj (hx101_1.symm.trans hx103_1)
                    injection ea_ with ea_ en_ ec_
                    subst ea_
                    subst ec_
                    clear en_
                    have p104 : 0 ≤ (x13_1 : Int) := of_decide_eq_true (by first | (with_reducible assumption) | assumption)
                    have q104 : x13_1 < (l1.length : Int) := of_decide_eq_true (by first | (with_reducible assumption) | assumption)
                    obtain ⟨ad104, A104_1, c104_1, e104, hx104_0, hx104_1, hl104_1, hi104_1⟩ := at_T136 HR1.out x13_1 p104 q104
                    obtain rfl : ad102 = ad104 := (by injection e104)
                    have HR104_1 := Aside0.mk hi104_1
                    have HC104_1 := Aside0.mk hl104_1
                    clear hi104_1 hl104_1
                    replace p104 := eq_true p104
                    replace q104 := eq_true q104
                    have ea_ := Option.some.inj (hx102_1.symm.trans hx104_1)
                    injection ea_ with ea_ en_ ec_
                    subst ea_
                    subst ec_
                    clear en_
                    go_wp2_with (first | (go_at_call 44; (with_reducible refine (marcotref06_SamePairs.calls k1 _ _ ((rd_T136 l0 x13_1).f1) _ _ ((rd_T136 l1 x13_1).f1) false _ ?side1 ?side2 ?side3 ?side4 A9.out).mono ?_); (case side1 => repeat (first | exact HR103_1.out | (with_reducible refine Kd.C_alloc ?_ _) | (with_reducible refine Kd.C_drewN ?_ _) | (with_reducible refine Kd.C_drew ?_))); (case side2 => exact HC103_1.out); (case side3 => repeat (first | exact HR104_1.out | (with_reducible refine Kd.C_alloc ?_ _) | (with_reducible refine Kd.C_drewN ?_ _) | (with_reducible refine Kd.C_drew ?_))); (case side4 => exact HC104_1.out); rintro e w' ⟨rfl, ⟨nd, rfl⟩⟩; (try first | exact ⟨rfl, _, World.drewN_drewN _ _ _⟩ | exact ⟨rfl, _, Eq.trans (World.drewN_drewN _ _ _) (congrArg (World.drewN _) (Nat.add_assoc _ _ _))⟩)))
                    repeat (go_quiet (first | (go_at_call 44; (with_reducible refine (marcotref06_SamePairs.calls k1 _ _ ((rd_T136 l0 x13_1).f1) _ _ ((rd_T136 l1 x13_1).f1) false _ ?side1 ?side2 ?side3 ?side4 A9.out).mono ?_); (case side1 => repeat (first | exact HR103_1.out | (with_reducible refine Kd.C_alloc ?_ _) | (with_reducible refine Kd.C_drewN ?_ _) | (with_reducible refine Kd.C_drew ?_))); (case side2 => exact HC103_1.out); (case side3 => repeat (first | exact HR104_1.out | (with_reducible refine Kd.C_alloc ?_ _) | (with_reducible refine Kd.C_drewN ?_ _) | (with_reducible refine Kd.C_drew ?_))); (case side4 => exact HC104_1.out); rintro e w' ⟨rfl, ⟨nd, rfl⟩⟩; (try first | exact ⟨rfl, _, World.drewN_drewN _ _ _⟩ | exact ⟨rfl, _, Eq.trans (World.drewN_drewN _ _ _) (congrArg (World.drewN _) (Nat.add_assoc _ _ _))⟩))); try go_wp2_with (first | (go_at_call 44; (with_reducible refine (marcotref06_SamePairs.calls k1 _ _ ((rd_T136 l0 x13_1).f1) _ _ ((rd_T136 l1 x13_1).f1) false _ ?side1 ?side2 ?side3 ?side4 A9.out).mono ?_); (case side1 => repeat (first | exact HR103_1.out | (with_reducible refine Kd.C_alloc ?_ _) | (with_reducible refine Kd.C_drewN ?_ _) | (with_reducible refine Kd.C_drew ?_))); (case side2 => exact HC103_1.out); (case side3 => repeat (first | exact HR104_1.out | (with_reducible refine Kd.C_alloc ?_ _) | (with_reducible refine Kd.C_drewN ?_ _) | (with_reducible refine Kd.C_drew ?_))); (case side4 => exact HC104_1.out); rintro e w' ⟨rfl, ⟨nd, rfl⟩⟩; (try first | exact ⟨rfl, _, World.drewN_drewN _ _ _⟩ | exact ⟨rfl, _, Eq.trans (World.drewN_drewN _ _ _) (congrArg (World.drewN _) (Nat.add_assoc _ _ _))⟩))))
                    go_ret
                    exact ⟨by first | rfl | (simp; done) | (simp [*]; done), by repeat (first | exact Drawn0.refl _ | apply Drawn0.step)⟩
                · rw [if_neg c8] at H
                  have c8b0 : (((rd_T136 l0 x13_1).f0).toList == ((rd_T136 l1 x13_1).f0).toList) = false := beq_eq_false_iff_ne.mpr c8
                  have c8b1 : (((rd_T136 l0 x13_1).f0).toList != ((rd_T136 l1 x13_1).f0).toList) = true := bne_iff_ne.mpr c8
                  obtain rfl := Option.some.inj H
                  have p101 : 0 ≤ (x13_1 : Int) := of_decide_eq_true (by first | (with_reducible assumption) | assumption)
                  have q101 : x13_1 < (l0.length : Int) := of_decide_eq_true (by first | (with_reducible assumption) | assumption)
                  obtain ⟨ad101, A101_1, c101_1, e101, hx101_0, hx101_1, hl101_1, hi101_1⟩ := at_T136 HR0.out x13_1 p101 q101
                  cases e101
                  have HR101_1 := Aside0.mk hi101_1
                  have HC101_1 := Aside0.mk hl101_1
                  clear hi101_1 hl101_1
                  replace p101 := eq_true p101
                  replace q101 := eq_true q101
                  have p102 : 0 ≤ (x13_1 : Int) := of_decide_eq_true (by first | (with_reducible assumption) | assumption)
                  have q102 : x13_1 < (l1.length : Int) := of_decide_eq_true (by first | (with_reducible assumption) | assumption)
                  obtain ⟨ad102, A102_1, c102_1, e102, hx102_0, hx102_1, hl102_1, hi102_1⟩ := at_T136 HR1.out x13_1 p102 q102
                  cases e102
                  have HR102_1 := Aside0.mk hi102_1
                  have HC102_1 := Aside0.mk hl102_1
                  clear hi102_1 hl102_1
                  replace p102 := eq_true p102
                  replace q102 := eq_true q102
                  go_wp2
                  repeat (go_quiet (fail); try go_wp2)
                  go_ret
                  exact ⟨by first | rfl | (simp; done) | (simp [*]; done), by repeat (first | exact Drawn0.refl _ | apply Drawn0.step)⟩
              · rw [if_neg c7] at H
                exact absurd H (by simp)
            · rw [if_neg c6] at H
              exact absurd H (by simp)
          · rw [if_neg c5] at H
            exact absurd H (by simp)
        · rw [if_neg c4] at H
          have c4b0 : decide (x13_1 < (l0.length : Int)) = false := decide_eq_false c4
          clear c4
          obtain rfl := Option.some.inj H
          go_wp2
          repeat (go_quiet (fail); try go_wp2)
          go_ret
          exact ⟨by first | rfl | (simp; done) | (simp [*]; done), by repeat (first | exact Drawn0.refl _ | apply Drawn0.step)⟩
  · rw [if_neg c3] at H
    have c3b0 : ((l0.length : Int) == (l1.length : Int)) = false := beq_eq_false_iff_ne.mpr c3
    have c3b1 : ((l0.length : Int) != (l1.length : Int)) = true := bne_iff_ne.mpr c3
    have c3b2 : (l0.length == l1.length) = false := by first | simpa using c3 | (simp at c3 ⊢; omega)
    obtain rfl := Option.some.inj H
    go_enter Try.func24, Try.ntmps24
    go_wp2
    repeat (go_quiet (fail); try go_wp2)
    go_ret
    exact ⟨by first | rfl | (simp; done) | (simp [*]; done), by repeat (first | exact Drawn0.refl _ | apply Drawn0.step)⟩

end Go.Proofs.Ytfdemnefkfkghaa.X
namespace Go.Proofs.Ytfdemnefkfkghaa.X
open Go.RowKit Go.Proofs.YtfdemnefkfkghaaW.PrintWords Go.Proofs.YtfdemnefkfkghaaW.PrintLast Go.Proofs.YtfdemnefkfkghaaW.PrintMore
attribute [local go_sem] max2_int min2_int max_two min_two max_three min_three max_four min_four   -- for this text's walks alone
attribute [local go_sem high] Go.Proofs.Ytfdemnefkfkghaa.XW.leq Go.Proofs.Ytfdemnefkfkghaa.XW.gtr Go.Proofs.Ytfdemnefkfkghaa.XW.geq
set_option linter.unusedVariables false
set_option linter.unusedSimpArgs false

theorem eqA149 (d : Nat) (w : World) (x0 y0 : Int) (x1 y1 : ByteArray) (x2 y2 : ByteArray) (x3 y3 : ByteArray) (x4 y4 : ByteArray) (x5 y5 : ByteArray) :
    (Op.equalIn (d + 2) 149 (.agg #[.int .u8 x0, .string x1, .string x2, .string x3, .string x4, .string x5]) (.agg #[.int .u8 y0, .string y1, .string y2, .string y3, .string y4, .string y5])).run Try.prog w = .ok (x0 == y0 && (x1.toList == y1.toList && (x2.toList == y2.toList && (x3.toList == y3.toList && (x4.toList == y4.toList && (x5.toList == y5.toList)))))) w := by
  refine eqA_of Try.underlying149 (by kernel_rfl) ?_
  refine eqf_cons (by rfl) (by go_simp; rfl) (by go_simp; rfl) (by go_simp) ?_
  refine eqf_cons (by rfl) (by go_simp; rfl) (by go_simp; rfl) (by go_simp) ?_
  refine eqf_cons (by rfl) (by go_simp; rfl) (by go_simp; rfl) (by go_simp) ?_
  refine eqf_cons (by rfl) (by go_simp; rfl) (by go_simp; rfl) (by go_simp) ?_
  refine eqf_cons (by rfl) (by go_simp; rfl) (by go_simp; rfl) (by go_simp) ?_
  exact eqf_last (by rfl) (by go_simp; rfl) (by go_simp; rfl) (by go_simp)
end Go.Proofs.Ytfdemnefkfkghaa.X
namespace Go.Proofs.Ytfdemnefkfkghaa.X
open Go.RowKit Go.Proofs.YtfdemnefkfkghaaW.PrintWords Go.Proofs.YtfdemnefkfkghaaW.PrintLast Go.Proofs.YtfdemnefkfkghaaW.PrintMore
attribute [local go_sem] max2_int min2_int max_two min_two max_three min_three max_four min_four   -- for this text's walks alone
attribute [local go_sem high] Go.Proofs.Ytfdemnefkfkghaa.XW.leq Go.Proofs.Ytfdemnefkfkghaa.XW.gtr Go.Proofs.Ytfdemnefkfkghaa.XW.geq
set_option linter.unusedVariables false
set_option linter.unusedSimpArgs false

attribute [local go_sem high] eqA149
def marcotref23_Same.l0 : Nat → List (S149) → List (S149) → Int → Int → Option (Bool)
  | 0, _, _, _, _ => none
  | k + 1, x0, x1, x12, x13 => if x13 < x12 then (if 0 ≤ x13 then (if x13 < (x0.length : Int) then (if x13 < (x1.length : Int) then (if (!(((rd_T149 x0 x13).f0) == ((rd_T149 x1 x13).f0)) || (!((((rd_T149 x0 x13).f1).toList) == (((rd_T149 x1 x13).f1).toList)) || (!((((rd_T149 x0 x13).f2).toList) == (((rd_T149 x1 x13).f2).toList)) || (!((((rd_T149 x0 x13).f3).toList) == (((rd_T149 x1 x13).f3).toList)) || (!((((rd_T149 x0 x13).f4).toList) == (((rd_T149 x1 x13).f4).toList)) || (!((((rd_T149 x0 x13).f5).toList) == (((rd_T149 x1 x13).f5).toList)))))))) = true then (some false) else (marcotref23_Same.l0 k x0 x1 x12 (wrap64 (x13 + 1)))) else (none)) else (none)) else (none)) else (some true)
def marcotref23_Same.f (k : Nat) (l0 : List (S149)) (l1 : List (S149)) : Option (Bool) := if (l0.length : Int) = (l1.length : Int) then (marcotref23_Same.l0 k l0 l1 (l0.length : Int) 0) else (some false)
theorem marcotref23_Same.mono_l : ∀ k, (∀ y0 y1 y2 y3, LeO (marcotref23_Same.l0 k y0 y1 y2 y3) (marcotref23_Same.l0 (k + 1) y0 y1 y2 y3))
  | 0 => fun _ _ _ _ r h => by simp [marcotref23_Same.l0] at h
  | k + 1 => by
    have ih0 := marcotref23_Same.mono_l k
    · intro y0 y1 y2 y3
      unfold marcotref23_Same.l0
      repeat' first
      | (with_reducible exact ih0 _ _ _ _)
      | (with_reducible exact LeO.refl _)
      | (with_reducible exact LeO.none _)
      | (with_reducible refine LeO.ite ?_ ?_)
      | (with_reducible refine LeO.bind ?_ (fun _ => ?_))
      | exact ih0 _ _ _ _
      | exact LeO.none _
      | refine LeO.ite ?_ ?_
      | refine LeO.bind ?_ (fun _ => ?_)
theorem marcotref23_Same.mono : ∀ a0 a1 k, LeO (marcotref23_Same.f k a0 a1) (marcotref23_Same.f (k + 1) a0 a1) := by
  intro a0 a1 k
  have ih0 := marcotref23_Same.mono_l k
  unfold marcotref23_Same.f
  repeat' first
      | (with_reducible exact ih0 _ _ _ _)
      | (with_reducible exact LeO.refl _)
      | (with_reducible exact LeO.none _)
      | (with_reducible refine LeO.ite ?_ ?_)
      | (with_reducible refine LeO.bind ?_ (fun _ => ?_))
      | exact ih0 _ _ _ _
      | exact LeO.none _
      | refine LeO.ite ?_ ?_
      | refine LeO.bind ?_ (fun _ => ?_)
set_option maxHeartbeats 8000000 in
set_option maxRecDepth 100000 in
theorem marcotref23_Same.calls (k : Nat) (A0 : Option Addr) (c0 : Nat) (l0 : List (S149)) (A1 : Option Addr) (c1 : Nat) (l1 : List (S149)) (r : Bool) (w : World) (hr0 : Kd.C k149 w A0 l0.length l0) (hc0 : l0.length ≤ c0) (hr1 : Kd.C k149 w A1 l1.length l1) (hc1 : l1.length ≤ c1) (h : marcotref23_Same.f k l0 l1 = some r) :
    Calls Try.prog 30 #[.slice A0 l0.length c0, .slice A1 l1.length c1] w fun e w' => e = .returned (.bool r) ∧ Drawn0 w w' := by
  have hu149 := Try.underlying149
  have HR0 := Aside0.mk hr0
  have HC0 := Aside0.mk hc0
  clear hr0 hc0
  have HR1 := Aside0.mk hr1
  have HC1 := Aside0.mk hc1
  clear hr1 hc1
  have H : (if (l0.length : Int) = (l1.length : Int) then (marcotref23_Same.l0 k l0 l1 (l0.length : Int) 0) else (some false)) = some r := h
  clear h
  by_cases c3 : (l0.length : Int) = (l1.length : Int)
  · rw [if_pos c3] at H
    have c3b0 : ((l0.length : Int) == (l1.length : Int)) = true := beq_iff_eq.mpr c3
    have c3b1 : ((l0.length : Int) != (l1.length : Int)) = false := bne_eq_false_iff_eq.mpr c3
    have c3b2 : (l0.length == l1.length) = true := by first | simpa using c3 | (simp at c3 ⊢; omega)
    clear c3
    have H' := Aside0.mk H
    clear H
    go_enter Try.func30, Try.ntmps30
    go_wp2
    repeat (go_quiet (fail); try go_wp2)
    go_loopg [13] k (fun kq v13 w' => ∃ (x13_1 : Int), v13 = .int .i64 x13_1 ∧ Aside0 (marcotref23_Same.l0 kq l0 l1 (l0.length : Int) x13_1 = some r) ∧ Aside0 (kq ≤ k) ∧ Drawn0 w w')
    case atStart => exact ⟨(0), (by first | rfl | (simp; done) | (simp [*]; done)), H', ⟨Nat.le_refl _⟩, by repeat (first | exact Drawn0.refl _ | apply Drawn0.step)⟩
    case round =>
      clear H'
      try clear c1
      try clear p2
      try clear c3
      try clear c3b0
      try clear c3b1
      try clear c3b2
      obtain ⟨x13_1, rfl, HA, HK1, ⟨m1, rfl⟩⟩ := hrel
      cases gk with
      | zero => exact absurd HA.out (by simp [marcotref23_Same.l0])
      | succ k1 =>
        have H := HA.out
        clear HA
        simp only [marcotref23_Same.l0] at H
        by_cases c4 : x13_1 < (l0.length : Int)
        · rw [if_pos c4] at H
          have c4b0 : decide (x13_1 < (l0.length : Int)) = true := decide_eq_true c4
          clear c4
          by_cases c5 : 0 ≤ x13_1
          · rw [if_pos c5] at H
            have c5b0 : decide (0 ≤ x13_1) = true := decide_eq_true c5
            clear c5
            by_cases c6 : x13_1 < (l0.length : Int)
            · rw [if_pos c6] at H
              have c6b0 : decide (x13_1 < (l0.length : Int)) = true := decide_eq_true c6
              clear c6
              by_cases c7 : x13_1 < (l1.length : Int)
              · rw [if_pos c7] at H
                have c7b0 : decide (x13_1 < (l1.length : Int)) = true := decide_eq_true c7
                clear c7
                by_cases c8 : (!(((rd_T149 l0 x13_1).f0) == ((rd_T149 l1 x13_1).f0)) || (!((((rd_T149 l0 x13_1).f1).toList) == (((rd_T149 l1 x13_1).f1).toList)) || (!((((rd_T149 l0 x13_1).f2).toList) == (((rd_T149 l1 x13_1).f2).toList)) || (!((((rd_T149 l0 x13_1).f3).toList) == (((rd_T149 l1 x13_1).f3).toList)) || (!((((rd_T149 l0 x13_1).f4).toList) == (((rd_T149 l1 x13_1).f4).toList)) || (!((((rd_T149 l0 x13_1).f5).toList) == (((rd_T149 l1 x13_1).f5).toList)))))))) = true
                · rw [if_pos c8] at H
                  have c8b0 : (!(((rd_T149 l0 x13_1).f0) == ((rd_T149 l1 x13_1).f0)) || (!((((rd_T149 l0 x13_1).f1).toList) == (((rd_T149 l1 x13_1).f1).toList)) || (!((((rd_T149 l0 x13_1).f2).toList) == (((rd_T149 l1 x13_1).f2).toList)) || (!((((rd_T149 l0 x13_1).f3).toList) == (((rd_T149 l1 x13_1).f3).toList)) || (!((((rd_T149 l0 x13_1).f4).toList) == (((rd_T149 l1 x13_1).f4).toList)) || (!((((rd_T149 l0 x13_1).f5).toList) == (((rd_T149 l1 x13_1).f5).toList)))))))) = true := c8
                  clear c8
                  obtain rfl := Option.some.inj H
                  have p101 : 0 ≤ (x13_1 : Int) := of_decide_eq_true (by first | (with_reducible assumption) | assumption)
                  have q101 : x13_1 < (l0.length : Int) := of_decide_eq_true (by first | (with_reducible assumption) | assumption)
                  obtain ⟨ad101, e101, hx101_0, hx101_1, hx101_2, hx101_3, hx101_4, hx101_5⟩ := at_T149 HR0.out x13_1 p101 q101
                  cases e101
                  replace p101 := eq_true p101
                  replace q101 := eq_true q101
                  have p102 : 0 ≤ (x13_1 : Int) := of_decide_eq_true (by first | (with_reducible assumption) | assumption)
                  have q102 : x13_1 < (l1.length : Int) := of_decide_eq_true (by first | (with_reducible assumption) | assumption)
                  obtain ⟨ad102, e102, hx102_0, hx102_1, hx102_2, hx102_3, hx102_4, hx102_5⟩ := at_T149 HR1.out x13_1 p102 q102
                  cases e102
                  replace p102 := eq_true p102
                  replace q102 := eq_true q102
                  go_wp2
                  repeat (go_quiet (fail); try go_wp2)
                  go_ret
                  exact ⟨by first | rfl | (simp; done) | (simp [*]; done), by repeat (first | exact Drawn0.refl _ | apply Drawn0.step)⟩
                · rw [if_neg c8] at H
                  have c8b0 : (!(((rd_T149 l0 x13_1).f0) == ((rd_T149 l1 x13_1).f0)) || (!((((rd_T149 l0 x13_1).f1).toList) == (((rd_T149 l1 x13_1).f1).toList)) || (!((((rd_T149 l0 x13_1).f2).toList) == (((rd_T149 l1 x13_1).f2).toList)) || (!((((rd_T149 l0 x13_1).f3).toList) == (((rd_T149 l1 x13_1).f3).toList)) || (!((((rd_T149 l0 x13_1).f4).toList) == (((rd_T149 l1 x13_1).f4).toList)) || (!((((rd_T149 l0 x13_1).f5).toList) == (((rd_T149 l1 x13_1).f5).toList)))))))) = false := by simpa using c8
                  clear c8
                  have H' := Aside0.mk H
                  clear H
                  have p101 : 0 ≤ (x13_1 : Int) := of_decide_eq_true (by first | (with_reducible assumption) | assumption)
                  have q101 : x13_1 < (l0.length : Int) := of_decide_eq_true (by first | (with_reducible assumption) | assumption)
                  obtain ⟨ad101, e101, hx101_0, hx101_1, hx101_2, hx101_3, hx101_4, hx101_5⟩ := at_T149 HR0.out x13_1 p101 q101
                  cases e101
                  replace p101 := eq_true p101
                  replace q101 := eq_true q101
                  have p102 : 0 ≤ (x13_1 : Int) := of_decide_eq_true (by first | (with_reducible assumption) | assumption)
                  have q102 : x13_1 < (l1.length : Int) := of_decide_eq_true (by first | (with_reducible assumption) | assumption)
                  obtain ⟨ad102, e102, hx102_0, hx102_1, hx102_2, hx102_3, hx102_4, hx102_5⟩ := at_T149 HR1.out x13_1 p102 q102
                  cases e102
                  replace p102 := eq_true p102
                  replace q102 := eq_true q102
                  go_wp2
                  repeat (go_quiet (fail); try go_wp2)
                  go_roundg k1
                  case measure => have := HK1.out; omega
                  case rel => exact ⟨(wrap64 (x13_1 + 1)), (by first | rfl | (simp; done) | (simp [*]; done)), H', ⟨by have := HK1.out; omega⟩, by repeat (first | exact Drawn0.refl _ | apply Drawn0.step)⟩
              · rw [if_neg c7] at H
                exact absurd H (by simp)
            · rw [if_neg c6] at H
              exact absurd H (by simp)
          · rw [if_neg c5] at H
            exact absurd H (by simp)
        · rw [if_neg c4] at H
          have c4b0 : decide (x13_1 < (l0.length : Int)) = false := decide_eq_false c4
          clear c4
          obtain rfl := Option.some.inj H
          go_wp2
          repeat (go_quiet (fail); try go_wp2)
          go_ret
          exact ⟨by first | rfl | (simp; done) | (simp [*]; done), by repeat (first | exact Drawn0.refl _ | apply Drawn0.step)⟩
  · rw [if_neg c3] at H
    have c3b0 : ((l0.length : Int) == (l1.length : Int)) = false := beq_eq_false_iff_ne.mpr c3
    have c3b1 : ((l0.length : Int) != (l1.length : Int)) = true := bne_iff_ne.mpr c3
    have c3b2 : (l0.length == l1.length) = false := by first | simpa using c3 | (simp at c3 ⊢; omega)
    obtain rfl := Option.some.inj H
    go_enter Try.func30, Try.ntmps30
    go_wp2
    repeat (go_quiet (fail); try go_wp2)
    go_ret
    exact ⟨by first | rfl | (simp; done) | (simp [*]; done), by repeat (first | exact Drawn0.refl _ | apply Drawn0.step)⟩

end Go.Proofs.Ytfdemnefkfkghaa.X
namespace Go.Proofs.Ytfdemnefkfkghaa.X
open Go.RowKit Go.Proofs.YtfdemnefkfkghaaW.PrintWords Go.Proofs.YtfdemnefkfkghaaW.PrintLast Go.Proofs.YtfdemnefkfkghaaW.PrintMore
attribute [local go_sem] max2_int min2_int max_two min_two max_three min_three max_four min_four   -- for this text's walks alone
attribute [local go_sem high] Go.Proofs.Ytfdemnefkfkghaa.XW.leq Go.Proofs.Ytfdemnefkfkghaa.XW.gtr Go.Proofs.Ytfdemnefkfkghaa.XW.geq
set_option linter.unusedVariables false
set_option linter.unusedSimpArgs false

mutual
def dump_Ops.l0 : Nat → List (S149) → List (S136) → Int → Int → Option ((List (S149)))
  | 0, _, _, _, _ => none
  | k + 1, x3, x8, x9, x10 => if x10 < x9 then (if 0 ≤ x10 then (if x10 < (x8.length : Int) then (if x3.length < 1599289640401 then (dump_Ops.l1 k (x3 ++ [(⟨1, (rd_T136 x8 x10).f0, (⟨#[]⟩ : ByteArray), (⟨#[]⟩ : ByteArray), (⟨#[]⟩ : ByteArray), (⟨#[]⟩ : ByteArray)⟩ : S149)]) x8 x9 x10 ((rd_T136 x8 x10).f1) (((rd_T136 x8 x10).f1).length : Int) 0 ((rd_T136 x8 x10).f0) ((rd_T136 x8 x10).f1)) else (none)) else (none)) else (none)) else (some x3)
def dump_Ops.l1 : Nat → List (S149) → List (S136) → Int → Int → List (S145) → Int → Int → ByteArray → List (S145) → Option ((List (S149)))
  | 0, _, _, _, _, _, _, _, _, _ => none
  | k + 1, x3, x8, x9, x10, x21, x22, x23, x103000, x103001 => if x23 < x22 then (if 0 ≤ x23 then (if x23 < (x21.length : Int) then (if x3.length < 1599289640401 then (dump_Ops.l1 k (x3 ++ [(⟨2, x103000, (⟨#[]⟩ : ByteArray), (rd_T145 x21 x23).f0, (rd_T145 x21 x23).f1, (⟨#[]⟩ : ByteArray)⟩ : S149)]) x8 x9 x10 x21 x22 (wrap64 (x23 + 1)) x103000 x103001) else (none)) else (none)) else (none)) else (dump_Ops.l0 k x3 x8 x9 (wrap64 (x10 + 1)))
end
def dump_Ops.f (k : Nat) (l0 : List (S136)) : Option ((List (S149))) := dump_Ops.l0 k ([] : List (S149)) l0 (l0.length : Int) 0
theorem dump_Ops.mono_l : ∀ k, (∀ y0 y1 y2 y3, LeO (dump_Ops.l0 k y0 y1 y2 y3) (dump_Ops.l0 (k + 1) y0 y1 y2 y3)) ∧ (∀ y0 y1 y2 y3 y4 y5 y6 y7 y8, LeO (dump_Ops.l1 k y0 y1 y2 y3 y4 y5 y6 y7 y8) (dump_Ops.l1 (k + 1) y0 y1 y2 y3 y4 y5 y6 y7 y8))
  | 0 => ⟨fun _ _ _ _ r h => by simp [dump_Ops.l0] at h, fun _ _ _ _ _ _ _ _ _ r h => by simp [dump_Ops.l1] at h⟩
  | k + 1 => by
    obtain ⟨ih0, ih1⟩ := dump_Ops.mono_l k
    refine ⟨?_, ?_⟩
    · intro y0 y1 y2 y3
      unfold dump_Ops.l0
      repeat' first
      | (with_reducible exact ih0 _ _ _ _)
      | (with_reducible exact ih1 _ _ _ _ _ _ _ _ _)
      | (with_reducible exact LeO.refl _)
      | (with_reducible exact LeO.none _)
      | (with_reducible refine LeO.ite ?_ ?_)
      | (with_reducible refine LeO.bind ?_ (fun _ => ?_))
      | exact ih0 _ _ _ _
      | exact ih1 _ _ _ _ _ _ _ _ _
      | exact LeO.none _
      | refine LeO.ite ?_ ?_
      | refine LeO.bind ?_ (fun _ => ?_)
    · intro y0 y1 y2 y3 y4 y5 y6 y7 y8
      unfold dump_Ops.l1
      repeat' first
      | (with_reducible exact ih0 _ _ _ _)
      | (with_reducible exact ih1 _ _ _ _ _ _ _ _ _)
      | (with_reducible exact LeO.refl _)
      | (with_reducible exact LeO.none _)
      | (with_reducible refine LeO.ite ?_ ?_)
      | (with_reducible refine LeO.bind ?_ (fun _ => ?_))
      | exact ih0 _ _ _ _
      | exact ih1 _ _ _ _ _ _ _ _ _
      | exact LeO.none _
      | refine LeO.ite ?_ ?_
      | refine LeO.bind ?_ (fun _ => ?_)
theorem dump_Ops.mono : ∀ a0 k, LeO (dump_Ops.f k a0) (dump_Ops.f (k + 1) a0) := by
  intro a0 k
  obtain ⟨ih0, ih1⟩ := dump_Ops.mono_l k
  unfold dump_Ops.f
  repeat' first
      | (with_reducible exact ih0 _ _ _ _)
      | (with_reducible exact ih1 _ _ _ _ _ _ _ _ _)
      | (with_reducible exact LeO.refl _)
      | (with_reducible exact LeO.none _)
      | (with_reducible refine LeO.ite ?_ ?_)
      | (with_reducible refine LeO.bind ?_ (fun _ => ?_))
      | exact ih0 _ _ _ _
      | exact ih1 _ _ _ _ _ _ _ _ _
      | exact LeO.none _
      | refine LeO.ite ?_ ?_
      | refine LeO.bind ?_ (fun _ => ?_)
set_option maxHeartbeats 8000000 in
set_option maxRecDepth 100000 in
theorem dump_Ops.calls (k : Nat) (A0 : Option Addr) (c0 : Nat) (l0 : List (S136)) (r : List (S149)) (w : World) (hr0 : Kd.C k136 w A0 l0.length l0) (hc0 : l0.length ≤ c0) (h : dump_Ops.f k l0 = some r) :
    Calls Try.prog 31 #[.slice A0 l0.length c0] w fun e w' => ∃ v0_ : Value, e = .returned (v0_) ∧ Kd.R k149 149 w' w.heap.size (fun _ => True) v0_ r ∧ Below w.heap.size w w' := by
  have hu136 := Try.underlying136
  have hu149 := Try.underlying149
  have hu145 := Try.underlying145
  have HR0 := Aside0.mk hr0
  have HC0 := Aside0.mk hc0
  clear hr0 hc0
  have HB := Aside0.mk (Below.refl w.heap.size w)
  have H : (dump_Ops.l0 k ([] : List (S149)) l0 (l0.length : Int) 0) = some r := h
  clear h
  have H' := Aside0.mk H
  clear H
  go_enter Try.func31, Try.ntmps31
  go_wp2
  go_loopg [3, 10] k (fun kq v3 v10 w' => ∃ (x3_1 : List (S149)) (x10_1 : Int), v10 = .int .i64 x10_1 ∧ Aside0 (dump_Ops.l0 kq x3_1 l0 (l0.length : Int) x10_1 = some r) ∧ Aside0 (kq ≤ k) ∧ Aside0 (Kd.R k149 149 w' w.heap.size (fun _ => True) v3 x3_1) ∧ Aside0 (Below w.heap.size w w'))
  case atStart => exact ⟨(([] : List (S149))), (0), (by first | rfl | (simp; done) | (simp [*]; done)), H', ⟨Nat.le_refl _⟩, ⟨by first | exact Kd.R_nil _ _ _ _ _ | exact Kd.N_nil _ _ _ _ _ | exact Kd.V_nil _ _ _ _ _ | exact Kd.Q_nil _ _ _ _ _ | exact Kd.S_nil _ _ _ _ _⟩, ⟨by repeat (first | (with_reducible first | exact HB.out | apply below_alloc | apply pw_below_drewN | apply below_drew1) | exact HB.out)⟩⟩
  case round =>
    clear H'
    obtain ⟨x3_1, x10_1, rfl, HA, HK1, HO_3, HB⟩ := hrel
    cases gk with
    | zero => exact absurd HA.out (by simp [dump_Ops.l0])
    | succ k1 =>
      have H := HA.out
      clear HA
      simp only [dump_Ops.l0] at H
      by_cases c2 : x10_1 < (l0.length : Int)
      · rw [if_pos c2] at H
        have c2b0 : decide (x10_1 < (l0.length : Int)) = true := decide_eq_true c2
        clear c2
        by_cases c3 : 0 ≤ x10_1
        · rw [if_pos c3] at H
          have c3b0 : decide (0 ≤ x10_1) = true := decide_eq_true c3
          clear c3
          by_cases c4 : x10_1 < (l0.length : Int)
          · rw [if_pos c4] at H
            have c4b0 : decide (x10_1 < (l0.length : Int)) = true := decide_eq_true c4
            clear c4
            by_cases c5 : x3_1.length < 1599289640401
            · rw [if_pos c5] at H
              have LMc5 := Aside0.mk c5
              clear c5
              obtain ⟨y103, hy103⟩ : ∃ y_ : List (S149), y_ = (x3_1 ++ [(⟨1, (rd_T136 l0 x10_1).f0, (⟨#[]⟩ : ByteArray), (⟨#[]⟩ : ByteArray), (⟨#[]⟩ : ByteArray), (⟨#[]⟩ : ByteArray)⟩ : S149)]) := ⟨_, rfl⟩
              replace H : (dump_Ops.l1 k1 y103 l0 (l0.length : Int) x10_1 ((rd_T136 l0 x10_1).f1) (((rd_T136 l0 x10_1).f1).length : Int) 0 ((rd_T136 l0 x10_1).f0) ((rd_T136 l0 x10_1).f1)) = some r := by first | (rw [hy103]; with_reducible exact H) | (have H2_ := (Option.bind_some _ _).symm.trans H; rw [hy103]; with_reducible exact H2_) | (have H2_ := (Option.bind_some _ _).symm.trans H; with_reducible exact H2_) | with_reducible exact H | (rw [hy103]; exact H) | exact H
              have Ny103 := Aside0.mk hy103
              clear hy103
              have H' := Aside0.mk H
              clear H
              have p101 : 0 ≤ (x10_1 : Int) := of_decide_eq_true (by first | (with_reducible assumption) | assumption)
              have q101 : x10_1 < (l0.length : Int) := of_decide_eq_true (by first | (with_reducible assumption) | assumption)
              obtain ⟨ad101, A101_1, c101_1, e101, hx101_0, hx101_1, hl101_1, hi101_1⟩ := at_T136 HR0.out x10_1 p101 q101
              cases e101
              replace hx101_0 := (HB.out.cell (World.block_lt_of_cell? w _ hx101_0)).trans hx101_0
              replace hx101_1 := (HB.out.cell (World.block_lt_of_cell? w _ hx101_1)).trans hx101_1
              have HR101_1 := Aside0.mk hi101_1
              have HC101_1 := Aside0.mk hl101_1
              clear hi101_1 hl101_1
              replace p101 := eq_true p101
              replace q101 := eq_true q101
              go_wp2_with (first | ((with_reducible refine gate_dst (N := 5) rfl ?_); refine box_event ?hg (N := 5) ?hd (cs := #[.string (⟨#[]⟩ : ByteArray), .slice none 0 0]) (t := 136) ?hr ?_; (case hd => rfl); (case hg => rfl); (case hr => first | (go_simp; done) | (go_simp; rfl)); intro gb102 hg w6 hbox hb; have n0_ := Aside0.mk (Kd.R_below (by (with_reducible repeat (first | apply Kd.R_alloc | apply Kd.R_drewN | apply Kd.R_drew)); exact HO_3.out) hb); have n1_ := Aside0.mk (below_step (by repeat (first | (with_reducible first | exact HB.out | apply below_alloc | apply pw_below_drewN | apply below_drew1) | exact HB.out)) hb); have n2_ := Aside0.mk (hbox); have n3_ := Aside0.mk ((by rw [hg]; exact (below_size (by repeat (first | (with_reducible first | exact HB.out | apply below_alloc | apply pw_below_drewN | apply below_drew1) | exact HB.out))) : w.heap.size ≤ gb102)); have n4_ := Aside0.mk ((by rw [hg]; exact (below_size (by repeat (first | (with_reducible first | exact HB.out | apply below_alloc | apply pw_below_drewN | apply below_drew1) | exact HB.out))) : w.heap.size ≤ gb102)); clear HO_3; clear HB; have HO_3 := n0_; have HB := n1_; have BK102 := n2_; have GW102 := n3_; have GE102 := n4_; clear n0_ n1_ n2_ n3_ n4_; clear hb hbox hg; have hcz7_0 : w6.cell? ⟨gb102, 0, none⟩ = some (.string (⟨#[]⟩ : ByteArray)) := (blk_cell BK102.out 0).trans rfl; have hcz7_1 : w6.cell? ⟨gb102, 1, none⟩ = some (.slice none 0 0) := (blk_cell BK102.out 1).trans rfl; have hfz7_0 := blk_frozen BK102.out 0; have hfz7_1 := blk_frozen BK102.out 1) | ((with_reducible refine gate_builtin (b := .append) (xs := #[.tmp 14, .tmp 18]) rfl ?_); at_builtin; refine Kd.R_append k149 (w0 := w) w.heap.size rfl (.tmp 14) (.tmp 18) 48 149 (.agg #[(.int .u8 0), (.string ⟨#[]⟩), (.string ⟨#[]⟩), (.string ⟨#[]⟩), (.string ⟨#[]⟩), (.string ⟨#[]⟩)]) 88 rfl Try.underlying48 info149 rfl (by decide) (by omega) u3 x3_1 (⟨1, (rd_T136 l0 x10_1).f0, (⟨#[]⟩ : ByteArray), (⟨#[]⟩ : ByteArray), (⟨#[]⟩ : ByteArray), (⟨#[]⟩ : ByteArray)⟩ : S149) [.int .u8 1, .string ((rd_T136 l0 x10_1).f0), .string (⟨#[]⟩ : ByteArray), .string (⟨#[]⟩ : ByteArray), .string (⟨#[]⟩ : ByteArray), .string (⟨#[]⟩ : ByteArray)] (fun _ => True) (fun _ => False) rfl (by first | (go_simp; done) | (go_simp; rfl)) ?aP (fun _ hk => hk.elim) ?aF ?aO ?aB ?aS ?aL ?_; (case aP => exact k149_mkM _ _ _ (⟨1, (rd_T136 l0 x10_1).f0, (⟨#[]⟩ : ByteArray), (⟨#[]⟩ : ByteArray), (⟨#[]⟩ : ByteArray), (⟨#[]⟩ : ByteArray)⟩ : S149)); (case aB => exact (by repeat (first | (with_reducible first | exact HB.out | apply below_alloc | apply pw_below_drewN | apply below_drew1 | refine below_set ?_ GE102.out) | exact HB.out))); (case aF => exact (fun _ _ => trivial)); (case aO => exact (by (with_reducible repeat (first | apply Kd.R_alloc | apply Kd.R_drewN | apply Kd.R_drew)); exact Kd.R_mono (Kd.R_far (p := ⟨gb102, 1, none⟩) (Kd.R_far (p := ⟨gb102, 0, none⟩) (Kd.R_types HO_3.out BK102.out (by decide)) (fun _ hk => hk.2) (.string ((rd_T136 l0 x10_1).f0))) (fun _ hk => hk.2) (.slice A101_1 ((rd_T136 l0 x10_1).f1).length c101_1)) (fun _ hk => trivial))); (case aS => exact (below_size (by repeat (first | (with_reducible first | exact HB.out | apply below_alloc | apply pw_below_drewN | apply below_drew1 | refine below_set ?_ GE102.out) | exact HB.out)))); (case aL => have := LMc5.out; omega); intro v104 w8 ho hb hg hat; rw [← Ny103.out] at ho; have n0_ := Aside0.mk (blk_grown (g := gb102) (o := .cells #[.string ((rd_T136 l0 x10_1).f0), .slice A101_1 ((rd_T136 l0 x10_1).f1).length c101_1] 136 (0, 0)) (by (with_reducible repeat (first | refine blk_drewN ?_ _ | refine blk_drew ?_ | refine blk_alloc ?_ _)); refine blk_put (cs := #[.string ((rd_T136 l0 x10_1).f0), .slice none 0 0]) ?_ 1 _ rfl; (with_reducible repeat (first | refine blk_drewN ?_ _ | refine blk_drew ?_ | refine blk_alloc ?_ _)); refine blk_put (cs := #[.string (⟨#[]⟩ : ByteArray), .slice none 0 0]) ?_ 0 _ rfl; (with_reducible repeat (first | refine blk_drewN ?_ _ | refine blk_drew ?_ | refine blk_alloc ?_ _)); exact BK102.out) hg (Kd.R_ne HO_3.out BK102.out (by decide))); have n1_ := Aside0.mk (hb); have n2_ := Aside0.mk (ho); clear BK102; clear HB; clear HO_3; have BK102 := n0_; have HB := n1_; have HO105 := n2_; clear n0_ n1_ n2_; clear ho hb hg hat; have hcz9_0 : w8.cell? ⟨gb102, 0, none⟩ = some (.string ((rd_T136 l0 x10_1).f0)) := (blk_cell BK102.out 0).trans rfl; have hcz9_1 : w8.cell? ⟨gb102, 1, none⟩ = some (.slice A101_1 ((rd_T136 l0 x10_1).f1).length c101_1) := (blk_cell BK102.out 1).trans rfl; have hfz9_0 := blk_frozen BK102.out 0; have hfz9_1 := blk_frozen BK102.out 1))
              go_loopg [3, 23] k1 (fun kq v3 v23 w' => ∃ (x3_2 : List (S149)) (x23_2 : Int), v23 = .int .i64 x23_2 ∧ Aside0 (dump_Ops.l1 kq x3_2 l0 (l0.length : Int) x10_1 ((rd_T136 l0 x10_1).f1) (((rd_T136 l0 x10_1).f1).length : Int) x23_2 ((rd_T136 l0 x10_1).f0) ((rd_T136 l0 x10_1).f1) = some r) ∧ Aside0 (kq ≤ k1) ∧ Aside0 (Kd.R k149 149 w' w.heap.size (fun _ => True) v3 x3_2) ∧ Aside0 (w'.heap[gb102]? = some (.cells #[.string ((rd_T136 l0 x10_1).f0), (.slice A101_1 ((rd_T136 l0 x10_1).f1).length c101_1)] 136 (0, 0))) ∧ Aside0 (Below w.heap.size w w'))
              case atStart => exact ⟨(y103), (0), (by first | rfl | (simp; done) | (simp [*]; done)), H', ⟨Nat.le_refl _⟩, ⟨by (with_reducible repeat (first | apply Kd.R_alloc | apply Kd.R_drewN | apply Kd.R_drew)); exact HO105.out⟩, ⟨by (with_reducible repeat (first | refine blk_drewN ?_ _ | refine blk_drew ?_ | refine blk_alloc ?_ _)); exact BK102.out⟩, ⟨by repeat (first | (with_reducible first | exact HB.out | apply below_alloc | apply pw_below_drewN | apply below_drew1 | refine below_set ?_ GE102.out) | exact HB.out)⟩⟩
              case round =>
                clear H'
                try clear c1
                try clear p1
                try clear q1
                try clear hx1
                try clear c2
                try clear c2b0
                try clear p2
                try clear c3
                try clear c3b0
                try clear c4
                try clear c4b0
                try clear c5
                try clear hcz7_0
                try clear hcz7_1
                try clear hcz9_0
                try clear hcz9_1
                try clear hfz7_0
                try clear hfz7_1
                try clear hfz9_0
                try clear hfz9_1
                try clear hx101_0
                try clear hx101_1
                try clear p101
                try clear q101
                obtain ⟨x3_2, x23_2, rfl, HA, HK2, HO_3, BK102, HB⟩ := hrel
                cases gk with
                | zero => exact absurd HA.out (by simp [dump_Ops.l1])
                | succ k2 =>
                  have H := HA.out
                  clear HA
                  simp only [dump_Ops.l1] at H
                  by_cases c10 : x23_2 < (((rd_T136 l0 x10_1).f1).length : Int)
                  · rw [if_pos c10] at H
                    have c10b0 : decide (x23_2 < (((rd_T136 l0 x10_1).f1).length : Int)) = true := decide_eq_true c10
                    clear c10
                    by_cases c11 : 0 ≤ x23_2
                    · rw [if_pos c11] at H
                      have c11b0 : decide (0 ≤ x23_2) = true := decide_eq_true c11
                      clear c11
                      by_cases c12 : x23_2 < (((rd_T136 l0 x10_1).f1).length : Int)
                      · rw [if_pos c12] at H
                        have c12b0 : decide (x23_2 < (((rd_T136 l0 x10_1).f1).length : Int)) = true := decide_eq_true c12
                        clear c12
                        by_cases c13 : x3_2.length < 1599289640401
                        · rw [if_pos c13] at H
                          have LMc13 := Aside0.mk c13
                          clear c13
                          obtain ⟨y108, hy108⟩ : ∃ y_ : List (S149), y_ = (x3_2 ++ [(⟨2, ((rd_T136 l0 x10_1).f0), (⟨#[]⟩ : ByteArray), (rd_T145 ((rd_T136 l0 x10_1).f1) x23_2).f0, (rd_T145 ((rd_T136 l0 x10_1).f1) x23_2).f1, (⟨#[]⟩ : ByteArray)⟩ : S149)]) := ⟨_, rfl⟩
                          replace H : (dump_Ops.l1 k2 y108 l0 (l0.length : Int) x10_1 ((rd_T136 l0 x10_1).f1) (((rd_T136 l0 x10_1).f1).length : Int) (wrap64 (x23_2 + 1)) ((rd_T136 l0 x10_1).f0) ((rd_T136 l0 x10_1).f1)) = some r := by first | (rw [hy108]; with_reducible exact H) | (have H2_ := (Option.bind_some _ _).symm.trans H; rw [hy108]; with_reducible exact H2_) | (have H2_ := (Option.bind_some _ _).symm.trans H; with_reducible exact H2_) | with_reducible exact H | (rw [hy108]; exact H) | exact H
                          have Ny108 := Aside0.mk hy108
                          clear hy108
                          have H' := Aside0.mk H
                          clear H
                          have p106 : 0 ≤ (x23_2 : Int) := of_decide_eq_true (by first | (with_reducible assumption) | assumption)
                          have q106 : x23_2 < (((rd_T136 l0 x10_1).f1).length : Int) := of_decide_eq_true (by first | (with_reducible assumption) | assumption)
                          obtain ⟨ad106, e106, hx106_0, hx106_1⟩ := at_T145 HR101_1.out x23_2 p106 q106
                          cases e106
                          replace hx106_0 := (HB.out.cell (World.block_lt_of_cell? w _ hx106_0)).trans hx106_0
                          replace hx106_1 := (HB.out.cell (World.block_lt_of_cell? w _ hx106_1)).trans hx106_1
                          replace p106 := eq_true p106
                          replace q106 := eq_true q106
                          go_wp2_with (first | ((with_reducible refine gate_dst (N := 7) rfl ?_); refine box_event ?hg (N := 7) ?hd (cs := #[.string (⟨#[]⟩ : ByteArray), .string (⟨#[]⟩ : ByteArray)]) (t := 145) ?hr ?_; (case hd => rfl); (case hg => rfl); (case hr => first | (go_simp; done) | (go_simp; rfl)); intro gb107 hg w14 hbox hb; have n0_ := Aside0.mk (Kd.R_below (by (with_reducible repeat (first | apply Kd.R_alloc | apply Kd.R_drewN | apply Kd.R_drew)); exact HO_3.out) hb); have n1_ := Aside0.mk (blk_below (g := gb102) (o := .cells #[.string ((rd_T136 l0 x10_1).f0), .slice (some ad106) ((rd_T136 l0 x10_1).f1).length c101_1] 136 (0, 0)) (by (with_reducible repeat (first | refine blk_drewN ?_ _ | refine blk_drew ?_ | refine blk_alloc ?_ _)); exact BK102.out) hb); have n2_ := Aside0.mk (below_step (by repeat (first | (with_reducible first | exact HB.out | apply below_alloc | apply pw_below_drewN | apply below_drew1 | refine below_set ?_ GE102.out) | exact HB.out)) hb); have n3_ := Aside0.mk (hbox); have n4_ := Aside0.mk ((by rw [hg]; exact (below_size (by repeat (first | (with_reducible first | exact HB.out | apply below_alloc | apply pw_below_drewN | apply below_drew1 | refine below_set ?_ GE102.out) | exact HB.out))) : w.heap.size ≤ gb107)); have n5_ := Aside0.mk ((by rw [hg]; exact (below_size (by repeat (first | (with_reducible first | exact HB.out | apply below_alloc | apply pw_below_drewN | apply below_drew1 | refine below_set ?_ GE102.out) | exact HB.out))) : w.heap.size ≤ gb107)); have n6_ := Aside0.mk ((by rw [hg]; exact Nat.ne_of_lt (blk_lt (g := gb102) (o := .cells #[.string ((rd_T136 l0 x10_1).f0), .slice (some ad106) ((rd_T136 l0 x10_1).f1).length c101_1] 136 (0, 0)) (by (with_reducible repeat (first | refine blk_drewN ?_ _ | refine blk_drew ?_ | refine blk_alloc ?_ _)); exact BK102.out)) : gb102 ≠ gb107)); have n7_ := Aside0.mk ((by rw [hg]; exact Nat.ne_of_gt (blk_lt (g := gb102) (o := .cells #[.string ((rd_T136 l0 x10_1).f0), .slice (some ad106) ((rd_T136 l0 x10_1).f1).length c101_1] 136 (0, 0)) (by (with_reducible repeat (first | refine blk_drewN ?_ _ | refine blk_drew ?_ | refine blk_alloc ?_ _)); exact BK102.out)) : gb107 ≠ gb102)); clear HO_3; clear BK102; clear HB; have HO_3 := n0_; have BK102 := n1_; have HB := n2_; have BK107 := n3_; have GW107 := n4_; have GE107 := n5_; have NB102_107 := n6_; have NB107_102 := n7_; clear n0_ n1_ n2_ n3_ n4_ n5_ n6_ n7_; clear hb hbox hg; have hnb15 := NB107_102.out; have hnc15 := NB102_107.out; have hcz16_0 : w14.cell? ⟨gb107, 0, none⟩ = some (.string (⟨#[]⟩ : ByteArray)) := (blk_cell BK107.out 0).trans rfl; have hcz16_1 : w14.cell? ⟨gb107, 1, none⟩ = some (.string (⟨#[]⟩ : ByteArray)) := (blk_cell BK107.out 1).trans rfl; have hfz16_0 := blk_frozen BK107.out 0; have hfz16_1 := blk_frozen BK107.out 1; have hcz17_0 : w14.cell? ⟨gb102, 0, none⟩ = some (.string ((rd_T136 l0 x10_1).f0)) := (blk_cell BK102.out 0).trans rfl; have hcz17_1 : w14.cell? ⟨gb102, 1, none⟩ = some (.slice (some ad106) ((rd_T136 l0 x10_1).f1).length c101_1) := (blk_cell BK102.out 1).trans rfl; have hfz17_0 := blk_frozen BK102.out 0; have hfz17_1 := blk_frozen BK102.out 1) | ((with_reducible refine gate_builtin (b := .append) (xs := #[.tmp 27, .tmp 35]) rfl ?_); at_builtin; refine Kd.R_append k149 (w0 := w) w.heap.size rfl (.tmp 27) (.tmp 35) 48 149 (.agg #[(.int .u8 0), (.string ⟨#[]⟩), (.string ⟨#[]⟩), (.string ⟨#[]⟩), (.string ⟨#[]⟩), (.string ⟨#[]⟩)]) 88 rfl Try.underlying48 info149 rfl (by decide) (by omega) u3 x3_2 (⟨2, ((rd_T136 l0 x10_1).f0), (⟨#[]⟩ : ByteArray), (rd_T145 ((rd_T136 l0 x10_1).f1) x23_2).f0, (rd_T145 ((rd_T136 l0 x10_1).f1) x23_2).f1, (⟨#[]⟩ : ByteArray)⟩ : S149) [.int .u8 2, .string ((rd_T136 l0 x10_1).f0), .string (⟨#[]⟩ : ByteArray), .string ((rd_T145 ((rd_T136 l0 x10_1).f1) x23_2).f0), .string ((rd_T145 ((rd_T136 l0 x10_1).f1) x23_2).f1), .string (⟨#[]⟩ : ByteArray)] (fun _ => True) (fun _ => False) rfl (by first | (go_simp; done) | (go_simp; rfl)) ?aP (fun _ hk => hk.elim) ?aF ?aO ?aB ?aS ?aL ?_; (case aP => exact k149_mkM _ _ _ (⟨2, ((rd_T136 l0 x10_1).f0), (⟨#[]⟩ : ByteArray), (rd_T145 ((rd_T136 l0 x10_1).f1) x23_2).f0, (rd_T145 ((rd_T136 l0 x10_1).f1) x23_2).f1, (⟨#[]⟩ : ByteArray)⟩ : S149)); (case aB => exact (by repeat (first | (with_reducible first | exact HB.out | apply below_alloc | apply pw_below_drewN | apply below_drew1 | refine below_set ?_ GE102.out | refine below_set ?_ GE107.out) | exact HB.out))); (case aF => exact (fun _ _ => trivial)); (case aO => exact (by (with_reducible repeat (first | apply Kd.R_alloc | apply Kd.R_drewN | apply Kd.R_drew)); exact Kd.R_mono (Kd.R_far (p := ⟨gb107, 1, none⟩) (Kd.R_far (p := ⟨gb107, 0, none⟩) (Kd.R_types HO_3.out BK107.out (by decide)) (fun _ hk => hk.2) (.string ((rd_T145 ((rd_T136 l0 x10_1).f1) x23_2).f0))) (fun _ hk => hk.2) (.string ((rd_T145 ((rd_T136 l0 x10_1).f1) x23_2).f1))) (fun _ hk => trivial))); (case aS => exact (below_size (by repeat (first | (with_reducible first | exact HB.out | apply below_alloc | apply pw_below_drewN | apply below_drew1 | refine below_set ?_ GE102.out | refine below_set ?_ GE107.out) | exact HB.out)))); (case aL => have := LMc13.out; omega); intro v109 w18 ho hb hg hat; rw [← Ny108.out] at ho; have n0_ := Aside0.mk (blk_grown (g := gb102) (o := .cells #[.string ((rd_T136 l0 x10_1).f0), .slice (some ad106) ((rd_T136 l0 x10_1).f1).length c101_1] 136 (0, 0)) (by (with_reducible repeat (first | refine blk_drewN ?_ _ | refine blk_drew ?_ | refine blk_alloc ?_ _)); refine blk_far ?_ NB102_107.out _; (with_reducible repeat (first | refine blk_drewN ?_ _ | refine blk_drew ?_ | refine blk_alloc ?_ _)); refine blk_far ?_ NB102_107.out _; (with_reducible repeat (first | refine blk_drewN ?_ _ | refine blk_drew ?_ | refine blk_alloc ?_ _)); exact BK102.out) hg (Kd.R_ne HO_3.out BK102.out (by decide))); have n1_ := Aside0.mk (blk_grown (g := gb107) (o := .cells #[.string ((rd_T145 ((rd_T136 l0 x10_1).f1) x23_2).f0), .string ((rd_T145 ((rd_T136 l0 x10_1).f1) x23_2).f1)] 145 (0, 0)) (by (with_reducible repeat (first | refine blk_drewN ?_ _ | refine blk_drew ?_ | refine blk_alloc ?_ _)); refine blk_put (cs := #[.string ((rd_T145 ((rd_T136 l0 x10_1).f1) x23_2).f0), .string (⟨#[]⟩ : ByteArray)]) ?_ 1 _ rfl; (with_reducible repeat (first | refine blk_drewN ?_ _ | refine blk_drew ?_ | refine blk_alloc ?_ _)); refine blk_put (cs := #[.string (⟨#[]⟩ : ByteArray), .string (⟨#[]⟩ : ByteArray)]) ?_ 0 _ rfl; (with_reducible repeat (first | refine blk_drewN ?_ _ | refine blk_drew ?_ | refine blk_alloc ?_ _)); exact BK107.out) hg (Kd.R_ne HO_3.out BK107.out (by decide))); have n2_ := Aside0.mk (hb); have n3_ := Aside0.mk (ho); clear BK102; clear BK107; clear HB; clear HO_3; have BK102 := n0_; have BK107 := n1_; have HB := n2_; have HO110 := n3_; clear n0_ n1_ n2_ n3_; clear ho hb hg hat))
                          go_roundg k2
                          case measure => have := HK1.out; have := HK2.out; omega
                          case rel => exact ⟨(y108), (wrap64 (x23_2 + 1)), (by first | rfl | (simp; done) | (simp [*]; done)), H', ⟨by have := HK1.out; have := HK2.out; omega⟩, ⟨by (with_reducible repeat (first | apply Kd.R_alloc | apply Kd.R_drewN | apply Kd.R_drew)); exact HO110.out⟩, ⟨by (with_reducible repeat (first | refine blk_drewN ?_ _ | refine blk_drew ?_ | refine blk_alloc ?_ _)); exact BK102.out⟩, ⟨by repeat (first | (with_reducible first | exact HB.out | apply below_alloc | apply pw_below_drewN | apply below_drew1 | refine below_set ?_ GE102.out | refine below_set ?_ GE107.out) | exact HB.out)⟩⟩
                        · rw [if_neg c13] at H
                          exact absurd H (by simp)
                      · rw [if_neg c12] at H
                        exact absurd H (by simp)
                    · rw [if_neg c11] at H
                      exact absurd H (by simp)
                  · rw [if_neg c10] at H
                    have c10b0 : decide (x23_2 < (((rd_T136 l0 x10_1).f1).length : Int)) = false := decide_eq_false c10
                    clear c10
                    have H' := Aside0.mk H
                    clear H
                    go_wp2
                    go_roundg k2
                    case measure => have := HK1.out; have := HK2.out; omega
                    case rel => exact ⟨(x3_2), (wrap64 (x10_1 + 1)), (by first | rfl | (simp; done) | (simp [*]; done)), H', ⟨by have := HK1.out; have := HK2.out; omega⟩, ⟨by (with_reducible repeat (first | apply Kd.R_alloc | apply Kd.R_drewN | apply Kd.R_drew)); exact HO_3.out⟩, ⟨by repeat (first | (with_reducible first | exact HB.out | apply below_alloc | apply pw_below_drewN | apply below_drew1 | refine below_set ?_ GE102.out) | exact HB.out)⟩⟩
            · rw [if_neg c5] at H
              exact absurd H (by simp)
          · rw [if_neg c4] at H
            exact absurd H (by simp)
        · rw [if_neg c3] at H
          exact absurd H (by simp)
      · rw [if_neg c2] at H
        have c2b0 : decide (x10_1 < (l0.length : Int)) = false := decide_eq_false c2
        clear c2
        obtain rfl := Option.some.inj H
        go_wp2
        go_ret
        exact ⟨_, by first | rfl | (simp [errW_none, errW_some] <;> rfl) | (simp [*, errW_none, errW_some] <;> rfl), by (with_reducible repeat (first | apply Kd.R_alloc | apply Kd.R_drewN | apply Kd.R_drew)); exact HO_3.out, by repeat (first | (with_reducible first | exact HB.out | apply below_alloc | apply pw_below_drewN | apply below_drew1) | exact HB.out)⟩

end Go.Proofs.Ytfdemnefkfkghaa.X
namespace Go.Proofs.Ytfdemnefkfkghaa.X
open Go.RowKit Go.Proofs.YtfdemnefkfkghaaW.PrintWords Go.Proofs.YtfdemnefkfkghaaW.PrintLast Go.Proofs.YtfdemnefkfkghaaW.PrintMore
attribute [local go_sem] max2_int min2_int max_two min_two max_three min_three max_four min_four   -- for this text's walks alone
attribute [local go_sem high] Go.Proofs.Ytfdemnefkfkghaa.XW.leq Go.Proofs.Ytfdemnefkfkghaa.XW.gtr Go.Proofs.Ytfdemnefkfkghaa.XW.geq
set_option linter.unusedVariables false
set_option linter.unusedSimpArgs false

mutual
def marcotref32_Ops.l0 : Nat → List (S136) → List (S149) → Int → Int → Option ((List (S149)))
  | 0, _, _, _, _ => none
  | k + 1, x0, x3, x8, x9 => if x9 < x8 then (if 0 ≤ x9 then (if x9 < (x0.length : Int) then (if x3.length < 1599289640401 then (marcotref32_Ops.l1 k x0 (x3 ++ [(⟨1, (rd_T136 x0 x9).f0, (⟨#[]⟩ : ByteArray), (⟨#[]⟩ : ByteArray), (⟨#[]⟩ : ByteArray), (⟨#[]⟩ : ByteArray)⟩ : S149)]) x9 x8 x9 (((rd_T136 x0 x9).f1).length : Int) 0) else (none)) else (none)) else (none)) else (some x3)
def marcotref32_Ops.l1 : Nat → List (S136) → List (S149) → Int → Int → Int → Int → Int → Option ((List (S149)))
  | 0, _, _, _, _, _, _, _ => none
  | k + 1, x0, x3, x4, x8, x9, x26, x27 => if x27 < x26 then (if 0 ≤ x4 then (if x4 < (x0.length : Int) then (if 0 ≤ x27 then (if x27 < (((rd_T136 x0 x4).f1).length : Int) then (if x3.length < 1599289640401 then (marcotref32_Ops.l1 k x0 (x3 ++ [(⟨2, (rd_T136 x0 x4).f0, (⟨#[]⟩ : ByteArray), (rd_T145 ((rd_T136 x0 x4).f1) x27).f0, (rd_T145 ((rd_T136 x0 x4).f1) x27).f1, (⟨#[]⟩ : ByteArray)⟩ : S149)]) x4 x8 x9 x26 (wrap64 (x27 + 1))) else (none)) else (none)) else (none)) else (none)) else (none)) else (marcotref32_Ops.l0 k x0 x3 x8 (wrap64 (x9 + 1)))
end
def marcotref32_Ops.f (k : Nat) (l0 : List (S136)) : Option ((List (S149))) := marcotref32_Ops.l0 k l0 (([] : List (S149))) (l0.length : Int) 0
theorem marcotref32_Ops.mono_l : ∀ k, (∀ y0 y1 y2 y3, LeO (marcotref32_Ops.l0 k y0 y1 y2 y3) (marcotref32_Ops.l0 (k + 1) y0 y1 y2 y3)) ∧ (∀ y0 y1 y2 y3 y4 y5 y6, LeO (marcotref32_Ops.l1 k y0 y1 y2 y3 y4 y5 y6) (marcotref32_Ops.l1 (k + 1) y0 y1 y2 y3 y4 y5 y6))
  | 0 => ⟨fun _ _ _ _ r h => by simp [marcotref32_Ops.l0] at h, fun _ _ _ _ _ _ _ r h => by simp [marcotref32_Ops.l1] at h⟩
  | k + 1 => by
    obtain ⟨ih0, ih1⟩ := marcotref32_Ops.mono_l k
    refine ⟨?_, ?_⟩
    · intro y0 y1 y2 y3
      unfold marcotref32_Ops.l0
      repeat' first
      | (with_reducible exact ih0 _ _ _ _)
      | (with_reducible exact ih1 _ _ _ _ _ _ _)
      | (with_reducible exact LeO.refl _)
      | (with_reducible exact LeO.none _)
      | (with_reducible refine LeO.ite ?_ ?_)
      | (with_reducible refine LeO.bind ?_ (fun _ => ?_))
      | exact ih0 _ _ _ _
      | exact ih1 _ _ _ _ _ _ _
      | exact LeO.none _
      | refine LeO.ite ?_ ?_
      | refine LeO.bind ?_ (fun _ => ?_)
    · intro y0 y1 y2 y3 y4 y5 y6
      unfold marcotref32_Ops.l1
      repeat' first
      | (with_reducible exact ih0 _ _ _ _)
      | (with_reducible exact ih1 _ _ _ _ _ _ _)
      | (with_reducible exact LeO.refl _)
      | (with_reducible exact LeO.none _)
      | (with_reducible refine LeO.ite ?_ ?_)
      | (with_reducible refine LeO.bind ?_ (fun _ => ?_))
      | exact ih0 _ _ _ _
      | exact ih1 _ _ _ _ _ _ _
      | exact LeO.none _
      | refine LeO.ite ?_ ?_
      | refine LeO.bind ?_ (fun _ => ?_)
theorem marcotref32_Ops.mono : ∀ a0 k, LeO (marcotref32_Ops.f k a0) (marcotref32_Ops.f (k + 1) a0) := by
  intro a0 k
  obtain ⟨ih0, ih1⟩ := marcotref32_Ops.mono_l k
  unfold marcotref32_Ops.f
  repeat' first
      | (with_reducible exact ih0 _ _ _ _)
      | (with_reducible exact ih1 _ _ _ _ _ _ _)
      | (with_reducible exact LeO.refl _)
      | (with_reducible exact LeO.none _)
      | (with_reducible refine LeO.ite ?_ ?_)
      | (with_reducible refine LeO.bind ?_ (fun _ => ?_))
      | exact ih0 _ _ _ _
      | exact ih1 _ _ _ _ _ _ _
      | exact LeO.none _
      | refine LeO.ite ?_ ?_
      | refine LeO.bind ?_ (fun _ => ?_)
def marcotref32_Ops.T9 : Bool × List (List Nat × List Nat) := (true, [([], []), ([], []), ([], []), ([1, 2], [1, 2]), ([3], [3]), ([4], [4]), ([], []), ([], []), ([6, 7], [6, 7]), ([8], [8]), ([9], [9]), ([], []), ([10, 11], [10, 11]), ([12], [12]), ([13], [13]), ([], []), ([], []), ([15, 16], [15, 16]), ([17], [17]), ([18], [18]), ([], []), ([19, 20], [19, 20]), ([21], [21]), ([22], [22]), ([5, 14, 23], [5, 14, 23]), ([24], [24]), ([0, 25], [0, 25]), ([26, 26, 0, 1, 2, 3, 4, 5, 6, 7, 8, 9, 10, 11, 12, 13, 14, 15, 16, 17, 18, 19, 20, 21, 22, 23, 24, 25, 26], [0, 26])])
def marcotref32_Ops.B9 : List Nat := [0, 0, 0, 6, 14, 30, 0, 0, 192, 448, 960, 0, 4032, 8128, 16320, 0, 0, 98304, 229376, 491520, 0, 2064384, 4161536, 8355840, 16777214, 33554430, 67108863, 134217727]
theorem marcotref32_Ops.tab9 : rtab .any (opsOf Try.f32 9) = marcotref32_Ops.T9 := by kernel_rfl
theorem marcotref32_Ops.bits9 : waitsOk marcotref32_Ops.T9.2 marcotref32_Ops.B9 = true := by kernel_rfl
set_option maxHeartbeats 8000000 in
set_option maxRecDepth 100000 in
theorem marcotref32_Ops.calls (k : Nat) (A0 : Option Addr) (c0 : Nat) (l0 : List (S136)) (r : List (S149)) (w : World) (hr0 : Kd.C k136 w A0 l0.length l0) (hc0 : l0.length ≤ c0) (h : marcotref32_Ops.f k l0 = some r) :
    Calls Try.prog 32 #[.slice A0 l0.length c0] w fun e w' => ∃ v0_ : Value, e = .returned (v0_) ∧ Kd.R k149 149 w' w.heap.size (fun _ => True) v0_ r ∧ Below w.heap.size w w' := by
  have hu149 := Try.underlying149
  have HR0 := Aside0.mk hr0
  have HC0 := Aside0.mk hc0
  clear hr0 hc0
  have HB := Aside0.mk (Below.refl w.heap.size w)
  have H : (marcotref32_Ops.l0 k l0 (([] : List (S149))) (l0.length : Int) 0) = some r := h
  clear h
  obtain ⟨y101, hy101⟩ : ∃ y_ : List (S149), y_ = (([] : List (S149))) := ⟨_, rfl⟩
  replace H : (marcotref32_Ops.l0 k l0 y101 (l0.length : Int) 0) = some r := by first | (rw [hy101]; with_reducible exact H) | (have H2_ := (Option.bind_some _ _).symm.trans H; rw [hy101]; with_reducible exact H2_) | (have H2_ := (Option.bind_some _ _).symm.trans H; with_reducible exact H2_) | with_reducible exact H | (rw [hy101]; exact H) | exact H
  have Ny101 := Aside0.mk hy101
  clear hy101
  have H' := Aside0.mk H
  clear H
  go_enter Try.func32, Try.ntmps32
  go_wp2_with (first | ((with_reducible refine gate_dst (N := 6) rfl ?_); refine Kd.R_lit k149 _ 149 ?hg (N := 6) ?hd (xs := ([] : List (S149))) (inner := []) (ok := fun _ => True) (okp := fun _ => True) ?hr ?hp (fun _ hk => hk) trivial (Below.refl _ _) (Nat.le_refl _) (by simp) ?_; (case hd => rfl); (case hg => rfl); (case hr => first | (go_simp; done) | (go_simp; rfl)); (case hp => exact (Reps.none _ _)); intro v102 w2 ho3 hb hg_ hnew_; clear hg_ hnew_; (first | rw [← Ny101.out] at ho3 | (simp only [Int.reduceToNat] at ho3; rw [← Ny101.out] at ho3)); have n0_ := Aside0.mk (Kd.R_lower ho3 (below_size (by repeat (first | (with_reducible first | exact HB.out | apply below_alloc | apply pw_below_drewN | apply below_drew1) | exact HB.out)))); have n1_ := Aside0.mk (below_step (by repeat (first | (with_reducible first | exact HB.out | apply below_alloc | apply pw_below_drewN | apply below_drew1) | exact HB.out)) hb); clear HB; have HO103 := n0_; have HB := n1_; clear n0_ n1_; clear hb ho3))
  go_loopg [3, 9] k (fun kq v3 v9 w' => ∃ (x3_1 : List (S149)) (x9_1 : Int), v9 = .int .i64 x9_1 ∧ Aside0 (marcotref32_Ops.l0 kq l0 x3_1 (l0.length : Int) x9_1 = some r) ∧ Aside0 (kq ≤ k) ∧ Aside0 (Kd.R k149 149 w' w.heap.size (fun _ => True) v3 x3_1) ∧ Aside0 (Below w.heap.size w w'))
  case atStart => exact ⟨(y101), (0), (by first | rfl | (simp; done) | (simp [*]; done)), H', ⟨Nat.le_refl _⟩, ⟨by (with_reducible repeat (first | apply Kd.R_alloc | apply Kd.R_drewN | apply Kd.R_drew)); exact HO103.out⟩, ⟨by repeat (first | (with_reducible first | exact HB.out | apply below_alloc | apply pw_below_drewN | apply below_drew1) | exact HB.out)⟩⟩
  case round =>
    clear H'
    try clear p2
    try clear c3
    obtain ⟨x3_1, x9_1, rfl, HA, HK1, HO_3, HB⟩ := hrel
    cases gk with
    | zero => exact absurd HA.out (by simp [marcotref32_Ops.l0])
    | succ k1 =>
      have H := HA.out
      clear HA
      simp only [marcotref32_Ops.l0] at H
      by_cases c4 : x9_1 < (l0.length : Int)
      · rw [if_pos c4] at H
        have c4b0 : decide (x9_1 < (l0.length : Int)) = true := decide_eq_true c4
        clear c4
        by_cases c5 : 0 ≤ x9_1
        · rw [if_pos c5] at H
          have c5b0 : decide (0 ≤ x9_1) = true := decide_eq_true c5
          clear c5
          by_cases c6 : x9_1 < (l0.length : Int)
          · rw [if_pos c6] at H
            have c6b0 : decide (x9_1 < (l0.length : Int)) = true := decide_eq_true c6
            clear c6
            by_cases c7 : x3_1.length < 1599289640401
            · rw [if_pos c7] at H
              have LMc7 := Aside0.mk c7
              clear c7
              obtain ⟨y105, hy105⟩ : ∃ y_ : List (S149), y_ = (x3_1 ++ [(⟨1, (rd_T136 l0 x9_1).f0, (⟨#[]⟩ : ByteArray), (⟨#[]⟩ : ByteArray), (⟨#[]⟩ : ByteArray), (⟨#[]⟩ : ByteArray)⟩ : S149)]) := ⟨_, rfl⟩
              replace H : (marcotref32_Ops.l1 k1 l0 y105 x9_1 (l0.length : Int) x9_1 (((rd_T136 l0 x9_1).f1).length : Int) 0) = some r := by first | (rw [hy105]; with_reducible exact H) | (have H2_ := (Option.bind_some _ _).symm.trans H; rw [hy105]; with_reducible exact H2_) | (have H2_ := (Option.bind_some _ _).symm.trans H; with_reducible exact H2_) | with_reducible exact H | (rw [hy105]; exact H) | exact H
              have Ny105 := Aside0.mk hy105
              clear hy105
              have H' := Aside0.mk H
              clear H
              have p104 : 0 ≤ (x9_1 : Int) := of_decide_eq_true (by first | (with_reducible assumption) | assumption)
              have q104 : x9_1 < (l0.length : Int) := of_decide_eq_true (by first | (with_reducible assumption) | assumption)
              obtain ⟨ad104, A104_1, c104_1, e104, hx104_0, hx104_1, hl104_1, hi104_1⟩ := at_T136 HR0.out x9_1 p104 q104
              cases e104
              replace hx104_0 := (HB.out.cell (World.block_lt_of_cell? w _ hx104_0)).trans hx104_0
              replace hx104_1 := (HB.out.cell (World.block_lt_of_cell? w _ hx104_1)).trans hx104_1
              have HR104_1 := Aside0.mk hi104_1
              have HC104_1 := Aside0.mk hl104_1
              clear hi104_1 hl104_1
              replace p104 := eq_true p104
              replace q104 := eq_true q104
              go_wp2_with (first | ((with_reducible refine gate_builtin (b := .append) (xs := #[.tmp 12, .tmp 19]) rfl ?_); at_builtin; refine Kd.R_append k149 (w0 := w) w.heap.size rfl (.tmp 12) (.tmp 19) 48 149 (.agg #[(.int .u8 0), (.string ⟨#[]⟩), (.string ⟨#[]⟩), (.string ⟨#[]⟩), (.string ⟨#[]⟩), (.string ⟨#[]⟩)]) 88 rfl Try.underlying48 info149 rfl (by decide) (by omega) u3 x3_1 (⟨1, (rd_T136 l0 x9_1).f0, (⟨#[]⟩ : ByteArray), (⟨#[]⟩ : ByteArray), (⟨#[]⟩ : ByteArray), (⟨#[]⟩ : ByteArray)⟩ : S149) [.int .u8 1, .string ((rd_T136 l0 x9_1).f0), .string (⟨#[]⟩ : ByteArray), .string (⟨#[]⟩ : ByteArray), .string (⟨#[]⟩ : ByteArray), .string (⟨#[]⟩ : ByteArray)] (fun _ => True) (fun _ => False) rfl rfl ?aP (fun _ hk => hk.elim) ?aF ?aO ?aB ?aS ?aL ?_; (case aP => exact k149_mkM _ _ _ (⟨1, (rd_T136 l0 x9_1).f0, (⟨#[]⟩ : ByteArray), (⟨#[]⟩ : ByteArray), (⟨#[]⟩ : ByteArray), (⟨#[]⟩ : ByteArray)⟩ : S149)); (case aB => exact (by repeat (first | (with_reducible first | exact HB.out | apply below_alloc | apply pw_below_drewN | apply below_drew1) | exact HB.out))); (case aF => exact (fun _ _ => trivial)); (case aO => exact (by (with_reducible repeat (first | apply Kd.R_alloc | apply Kd.R_drewN | apply Kd.R_drew)); exact HO_3.out)); (case aS => exact (below_size (by repeat (first | (with_reducible first | exact HB.out | apply below_alloc | apply pw_below_drewN | apply below_drew1) | exact HB.out)))); (case aL => have := LMc7.out; omega); intro v106 w8 ho hb hg hat; rw [← Ny105.out] at ho; have n0_ := Aside0.mk (hb); have n1_ := Aside0.mk (ho); clear HB; clear HO_3; have HB := n0_; have HO107 := n1_; clear n0_ n1_; clear ho hb hg hat; have p108 : 0 ≤ (x9_1 : Int) := of_decide_eq_true (by first | (with_reducible assumption) | assumption); have q108 : x9_1 < (l0.length : Int) := of_decide_eq_true (by first | (with_reducible assumption) | assumption); obtain ⟨ad108, A108_1, c108_1, e108, hx108_0, hx108_1, hl108_1, hi108_1⟩ := at_T136 HR0.out x9_1 p108 q108; obtain rfl : ad104 = ad108 := (by injection e108); replace hx108_0 := (HB.out.cell (World.block_lt_of_cell? w _ hx108_0)).trans hx108_0; replace hx108_1 := (HB.out.cell (World.block_lt_of_cell? w _ hx108_1)).trans hx108_1; have HR108_1 := Aside0.mk hi108_1; have HC108_1 := Aside0.mk hl108_1; clear hi108_1 hl108_1; replace p108 := eq_true p108; replace q108 := eq_true q108))
              go_loopg [3, 27] k1 (fun kq v3 v27 w' => ∃ (x3_2 : List (S149)) (x27_2 : Int), v27 = .int .i64 x27_2 ∧ Aside0 (marcotref32_Ops.l1 kq l0 x3_2 x9_1 (l0.length : Int) x9_1 (((rd_T136 l0 x9_1).f1).length : Int) x27_2 = some r) ∧ Aside0 (kq ≤ k1) ∧ Aside0 (Kd.R k149 149 w' w.heap.size (fun _ => True) v3 x3_2) ∧ Aside0 (Below w.heap.size w w'))
              case atStart => exact ⟨(y105), (0), (by first | rfl | (simp; done) | (simp [*]; done)), H', ⟨Nat.le_refl _⟩, ⟨by (with_reducible repeat (first | apply Kd.R_alloc | apply Kd.R_drewN | apply Kd.R_drew)); exact HO107.out⟩, ⟨by repeat (first | (with_reducible first | exact HB.out | apply below_alloc | apply pw_below_drewN | apply below_drew1) | exact HB.out)⟩⟩
              case round =>
                clear H'
                try clear c1
                try clear p1
                try clear q1
                try clear hx1
                try clear p2
                try clear c3
                try clear c4
                try clear c4b0
                try clear c5
                try clear c5b0
                try clear c6
                try clear c6b0
                try clear c7
                try clear hx104_0
                try clear hx104_1
                try clear hx108_0
                try clear hx108_1
                try clear p104
                try clear p108
                try clear p2
                try clear q104
                try clear q108
                obtain ⟨x3_2, x27_2, rfl, HA, HK2, HO_3, HB⟩ := hrel
                cases gk with
                | zero => exact absurd HA.out (by simp [marcotref32_Ops.l1])
                | succ k2 =>
                  have H := HA.out
                  clear HA
                  simp only [marcotref32_Ops.l1] at H
                  by_cases c9 : x27_2 < (((rd_T136 l0 x9_1).f1).length : Int)
                  · rw [if_pos c9] at H
                    have c9b0 : decide (x27_2 < (((rd_T136 l0 x9_1).f1).length : Int)) = true := decide_eq_true c9
                    clear c9
                    by_cases c10 : 0 ≤ x9_1
                    · rw [if_pos c10] at H
                      have c10b0 : decide (0 ≤ x9_1) = true := decide_eq_true c10
                      clear c10
                      by_cases c11 : x9_1 < (l0.length : Int)
                      · rw [if_pos c11] at H
                        have c11b0 : decide (x9_1 < (l0.length : Int)) = true := decide_eq_true c11
                        clear c11
                        by_cases c12 : 0 ≤ x27_2
                        · rw [if_pos c12] at H
                          have c12b0 : decide (0 ≤ x27_2) = true := decide_eq_true c12
                          clear c12
                          by_cases c13 : x27_2 < (((rd_T136 l0 x9_1).f1).length : Int)
                          · rw [if_pos c13] at H
                            have c13b0 : decide (x27_2 < (((rd_T136 l0 x9_1).f1).length : Int)) = true := decide_eq_true c13
                            clear c13
                            by_cases c14 : x3_2.length < 1599289640401
                            · rw [if_pos c14] at H
                              have LMc14 := Aside0.mk c14
                              clear c14
                              obtain ⟨y114, hy114⟩ : ∃ y_ : List (S149), y_ = (x3_2 ++ [(⟨2, (rd_T136 l0 x9_1).f0, (⟨#[]⟩ : ByteArray), (rd_T145 ((rd_T136 l0 x9_1).f1) x27_2).f0, (rd_T145 ((rd_T136 l0 x9_1).f1) x27_2).f1, (⟨#[]⟩ : ByteArray)⟩ : S149)]) := ⟨_, rfl⟩
                              replace H : (marcotref32_Ops.l1 k2 l0 y114 x9_1 (l0.length : Int) x9_1 (((rd_T136 l0 x9_1).f1).length : Int) (wrap64 (x27_2 + 1))) = some r := by first | (rw [hy114]; with_reducible exact H) | (have H2_ := (Option.bind_some _ _).symm.trans H; rw [hy114]; with_reducible exact H2_) | (have H2_ := (Option.bind_some _ _).symm.trans H; with_reducible exact H2_) | with_reducible exact H | (rw [hy114]; exact H) | exact H
                              have Ny114 := Aside0.mk hy114
                              clear hy114
                              have H' := Aside0.mk H
                              clear H
                              try go_wp2
                              have n0_ := Aside0.mk (Kd.R_drew HO_3.out)
                              have n1_ := Aside0.mk (below_drew1 HB.out)
                              clear HO_3
                              clear HB
                              have HO_3 := n0_
                              have HB := n1_
                              clear n0_ n1_
                              have p109 : 0 ≤ (x9_1 : Int) := of_decide_eq_true (by first | (with_reducible assumption) | assumption)
                              have q109 : x9_1 < (l0.length : Int) := of_decide_eq_true (by first | (with_reducible assumption) | assumption)
                              obtain ⟨ad109, A109_1, c109_1, e109, hx109_0, hx109_1, hl109_1, hi109_1⟩ := at_T136 HR0.out x9_1 p109 q109
                              have hw109_1 := hx109_1
                              have hw109_0 := hx109_0
                              obtain rfl : ad104 = ad109 := (by injection e109)
                              replace hx109_0 := (HB.out.cell (World.block_lt_of_cell? w _ hx109_0)).trans hx109_0
                              replace hx109_1 := (HB.out.cell (World.block_lt_of_cell? w _ hx109_1)).trans hx109_1
                              have HR109_1 := Aside0.mk hi109_1
                              have HC109_1 := Aside0.mk hl109_1
                              clear hi109_1 hl109_1
                              replace p109 := eq_true p109
                              replace q109 := eq_true q109
                              have p110 : 0 ≤ (x9_1 : Int) := of_decide_eq_true (by first | (with_reducible assumption) | assumption)
                              have q110 : x9_1 < (l0.length : Int) := of_decide_eq_true (by first | (with_reducible assumption) | assumption)
                              obtain ⟨ad110, A110_1, c110_1, e110, hx110_0, hx110_1, hl110_1, hi110_1⟩ := at_T136 HR0.out x9_1 p110 q110
                              have hw110_1 := hx110_1
                              have hw110_0 := hx110_0
                              obtain rfl : ad104 = ad110 := (by injection e110)
                              replace hx110_0 := (HB.out.cell (World.block_lt_of_cell? w _ hx110_0)).trans hx110_0
                              replace hx110_1 := (HB.out.cell (World.block_lt_of_cell? w _ hx110_1)).trans hx110_1
                              have HR110_1 := Aside0.mk hi110_1
                              have HC110_1 := Aside0.mk hl110_1
                              clear hi110_1 hl110_1
                              replace p110 := eq_true p110
                              replace q110 := eq_true q110
                              have ea_ := Option.some.inj (hx109_1.symm.trans hx110_1)
                              injection ea_ with ea_ en_ ec_
                              subst ea_
                              subst ec_
                              clear en_
                              have p111 : 0 ≤ (x27_2 : Int) := of_decide_eq_true (by first | (with_reducible assumption) | assumption)
                              have q111 : x27_2 < (((rd_T136 l0 x9_1).f1).length : Int) := of_decide_eq_true (by first | (with_reducible assumption) | assumption)
                              obtain ⟨ad111, e111, hx111_0, hx111_1⟩ := at_T145 HR110_1.out x27_2 p111 q111
                              have hw111_1 := hx111_1
                              have hw111_0 := hx111_0
                              cases e111
                              replace hx111_0 := (HB.out.cell (World.block_lt_of_cell? w _ hx111_0)).trans hx111_0
                              replace hx111_1 := (HB.out.cell (World.block_lt_of_cell? w _ hx111_1)).trans hx111_1
                              replace p111 := eq_true p111
                              replace q111 := eq_true q111
                              have p112 : 0 ≤ (x9_1 : Int) := of_decide_eq_true (by first | (with_reducible assumption) | assumption)
                              have q112 : x9_1 < (l0.length : Int) := of_decide_eq_true (by first | (with_reducible assumption) | assumption)
                              obtain ⟨ad112, A112_1, c112_1, e112, hx112_0, hx112_1, hl112_1, hi112_1⟩ := at_T136 HR0.out x9_1 p112 q112
                              have hw112_1 := hx112_1
                              have hw112_0 := hx112_0
                              obtain rfl : ad104 = ad112 := (by injection e112)
                              replace hx112_0 := (HB.out.cell (World.block_lt_of_cell? w _ hx112_0)).trans hx112_0
                              replace hx112_1 := (HB.out.cell (World.block_lt_of_cell? w _ hx112_1)).trans hx112_1
                              have HR112_1 := Aside0.mk hi112_1
                              have HC112_1 := Aside0.mk hl112_1
                              clear hi112_1 hl112_1
                              replace p112 := eq_true p112
                              replace q112 := eq_true q112
                              have ea_ := Option.some.inj (hx109_1.symm.trans hx112_1)
                              injection ea_ with ea_ en_ ec_
                              subst ea_
                              subst ec_
                              clear en_
                              have p113 : 0 ≤ (x27_2 : Int) := of_decide_eq_true (by first | (with_reducible assumption) | assumption)
                              have q113 : x27_2 < (((rd_T136 l0 x9_1).f1).length : Int) := of_decide_eq_true (by first | (with_reducible assumption) | assumption)
                              obtain ⟨ad113, e113, hx113_0, hx113_1⟩ := at_T145 HR112_1.out x27_2 p113 q113
                              have hw113_1 := hx113_1
                              have hw113_0 := hx113_0
                              cases e113
                              replace hx113_0 := (HB.out.cell (World.block_lt_of_cell? w _ hx113_0)).trans hx113_0
                              replace hx113_1 := (HB.out.cell (World.block_lt_of_cell? w _ hx113_1)).trans hx113_1
                              replace p113 := eq_true p113
                              replace q113 := eq_true q113
                              refine start_ (n := 28) (S := fun w' => w'.cell? (ad104.add ((x9_1).toNat * 2)) = some (.string ((rd_T136 l0 x9_1).f0)) ∧ w'.cell? ⟨(ad104.add ((x9_1).toNat * 2)).block, (ad104.add ((x9_1).toNat * 2)).off + 1, none⟩ = some (.slice (some ad111) ((rd_T136 l0 x9_1).f1).length c109_1) ∧ w'.cell? (ad104.add ((x9_1).toNat * 2)) = some (.string ((rd_T136 l0 x9_1).f0)) ∧ w'.cell? ⟨(ad104.add ((x9_1).toNat * 2)).block, (ad104.add ((x9_1).toNat * 2)).off + 1, none⟩ = some (.slice (some ad111) ((rd_T136 l0 x9_1).f1).length c109_1) ∧ w'.cell? (ad111.add ((x27_2).toNat * 2)) = some (.string ((rd_T145 ((rd_T136 l0 x9_1).f1) x27_2).f0)) ∧ w'.cell? ⟨(ad111.add ((x27_2).toNat * 2)).block, (ad111.add ((x27_2).toNat * 2)).off + 1, none⟩ = some (.string ((rd_T145 ((rd_T136 l0 x9_1).f1) x27_2).f1)) ∧ w'.cell? (ad104.add ((x9_1).toNat * 2)) = some (.string ((rd_T136 l0 x9_1).f0)) ∧ w'.cell? ⟨(ad104.add ((x9_1).toNat * 2)).block, (ad104.add ((x9_1).toNat * 2)).off + 1, none⟩ = some (.slice (some ad111) ((rd_T136 l0 x9_1).f1).length c109_1) ∧ w'.cell? (ad111.add ((x27_2).toNat * 2)) = some (.string ((rd_T145 ((rd_T136 l0 x9_1).f1) x27_2).f0)) ∧ w'.cell? ⟨(ad111.add ((x27_2).toNat * 2)).block, (ad111.add ((x27_2).toNat * 2)).off + 1, none⟩ = some (.string ((rd_T145 ((rd_T136 l0 x9_1).f1) x27_2).f1))) (ds := []) #[false, false, false, false, false, false, false, false, false, false, false, false, false, false, false, false, false, false, false, false, false, false, false, false, false, false, false, false] (by kernel_rfl) rfl rfl ⟨((HB.out.cell (World.block_lt_of_cell? w _ hw109_0)).trans hw109_0), ((HB.out.cell (World.block_lt_of_cell? w _ hw109_1)).trans hw109_1), ((HB.out.cell (World.block_lt_of_cell? w _ hw110_0)).trans hw110_0), ((HB.out.cell (World.block_lt_of_cell? w _ hw110_1)).trans hw110_1), ((HB.out.cell (World.block_lt_of_cell? w _ hw111_0)).trans hw111_0), ((HB.out.cell (World.block_lt_of_cell? w _ hw111_1)).trans hw111_1), ((HB.out.cell (World.block_lt_of_cell? w _ hw112_0)).trans hw112_0), ((HB.out.cell (World.block_lt_of_cell? w _ hw112_1)).trans hw112_1), ((HB.out.cell (World.block_lt_of_cell? w _ hw113_0)).trans hw113_0), ((HB.out.cell (World.block_lt_of_cell? w _ hw113_1)).trans hw113_1)⟩ (fun hHeld => ?_); refine with_tabW marcotref32_Ops.tab9 marcotref32_Ops.bits9 (fun HT_ HW_ => ?_)
                              generalize wr.drew = w15 at HO_3 HB HR109_1 HR110_1 HR112_1 hx109_0 hx109_1 hx110_0 hx110_1 hx111_0 hx111_1 hx112_0 hx112_1 hx113_0 hx113_1 hHeld ⊢
                              refine pure_ (i := 0) (N := some 30) (v := ?_) (a' := ?_) #[true, false, false, false, false, false, false, false, false, false, false, false, false, false, false, false, false, false, false, false, false, false, false, false, false, false, false, false] rfl rfl (any_of HT_.out (by kernel_rfl)) (fun _ _ _ h => h) (Or.inl ⟨by rfl, ?_⟩) ?_ ?_
                              rotate_left
                              · intro w'
                                go_simp
                                with_reducible rfl
                              rotate_left
                              · simp only [Act.put, List.setIfInBounds_toArray, List.set_cons_zero, List.set_cons_succ, i64_w, i32_w]
                                rfl
                              refine pure_ (i := 1) (N := some 31) (v := ?_) (a' := ?_) #[true, true, false, false, false, false, false, false, false, false, false, false, false, false, false, false, false, false, false, false, false, false, false, false, false, false, false, false] rfl rfl (any_of HT_.out (by kernel_rfl)) (fun _ _ _ h => h) (Or.inl ⟨by rfl, ?_⟩) ?_ ?_
                              rotate_left
                              · intro w'
                                go_simp
                                with_reducible rfl
                              rotate_left
                              · simp only [Act.put, List.setIfInBounds_toArray, List.set_cons_zero, List.set_cons_succ, i64_w, i32_w]
                                rfl
                              refine pure_ (i := 2) (N := some 32) (v := ?_) (a' := ?_) #[true, true, true, false, false, false, false, false, false, false, false, false, false, false, false, false, false, false, false, false, false, false, false, false, false, false, false, false] rfl rfl (any_of HT_.out (by kernel_rfl)) (fun _ _ _ h => h) (Or.inl ⟨by rfl, ?_⟩) ?_ ?_
                              rotate_left
                              · intro w'
                                go_simp
                                with_reducible rfl
                              rotate_left
                              · simp only [Act.put, List.setIfInBounds_toArray, List.set_cons_zero, List.set_cons_succ, i64_w, i32_w]
                                rfl
                              refine pure_ (i := 3) (N := some 33) (v := ?_) (a' := ?_) #[true, true, true, true, false, false, false, false, false, false, false, false, false, false, false, false, false, false, false, false, false, false, false, false, false, false, false, false] rfl rfl (any_of HT_.out (by kernel_rfl)) (fun _ _ _ h => h) (Or.inl ⟨by rfl, ?_⟩) ?_ ?_
                              rotate_left
                              · intro w'
                                go_simp
                                with_reducible rfl
                              rotate_left
                              · simp only [Act.put, List.setIfInBounds_toArray, List.set_cons_zero, List.set_cons_succ, i64_w, i32_w]
                                rfl
                              refine pure_ (i := 4) (N := some 34) (v := ?_) (a' := ?_) #[true, true, true, true, true, false, false, false, false, false, false, false, false, false, false, false, false, false, false, false, false, false, false, false, false, false, false, false] rfl rfl (any_of HT_.out (by kernel_rfl)) (fun _ _ _ h => h) (Or.inl ⟨by rfl, ?_⟩) ?_ ?_
                              rotate_left
                              · intro w'
                                go_simp
                                with_reducible rfl
                              rotate_left
                              · simp only [Act.put, List.setIfInBounds_toArray, List.set_cons_zero, List.set_cons_succ, i64_w, i32_w]
                                rfl
                              refine pure_ (i := 6) (N := some 36) (v := ?_) (a' := ?_) #[true, true, true, true, true, false, true, false, false, false, false, false, false, false, false, false, false, false, false, false, false, false, false, false, false, false, false, false] rfl rfl (any_of HT_.out (by kernel_rfl)) (fun _ _ _ h => h) (Or.inl ⟨by rfl, ?_⟩) ?_ ?_
                              rotate_left
                              · intro w'
                                go_simp
                                with_reducible rfl
                              rotate_left
                              · simp only [Act.put, List.setIfInBounds_toArray, List.set_cons_zero, List.set_cons_succ, i64_w, i32_w]
                                rfl
                              refine pure_ (i := 7) (N := some 37) (v := ?_) (a' := ?_) #[true, true, true, true, true, false, true, true, false, false, false, false, false, false, false, false, false, false, false, false, false, false, false, false, false, false, false, false] rfl rfl (any_of HT_.out (by kernel_rfl)) (fun _ _ _ h => h) (Or.inl ⟨by rfl, ?_⟩) ?_ ?_
                              rotate_left
                              · intro w'
                                go_simp
                                with_reducible rfl
                              rotate_left
                              · simp only [Act.put, List.setIfInBounds_toArray, List.set_cons_zero, List.set_cons_succ, i64_w, i32_w]
                                rfl
                              refine pure_ (i := 8) (N := some 38) (v := ?_) (a' := ?_) #[true, true, true, true, true, false, true, true, true, false, false, false, false, false, false, false, false, false, false, false, false, false, false, false, false, false, false, false] rfl rfl (any_of HT_.out (by kernel_rfl)) (fun _ _ _ h => h) (Or.inl ⟨by rfl, ?_⟩) ?_ ?_
                              rotate_left
                              · intro w'
                                go_simp
                                with_reducible rfl
                              rotate_left
                              · simp only [Act.put, List.setIfInBounds_toArray, List.set_cons_zero, List.set_cons_succ, i64_w, i32_w]
                                rfl
                              refine pure_ (i := 9) (N := some 39) (v := ?_) (a' := ?_) #[true, true, true, true, true, false, true, true, true, true, false, false, false, false, false, false, false, false, false, false, false, false, false, false, false, false, false, false] rfl rfl (any_of HT_.out (by kernel_rfl)) (fun _ _ _ h => h) (Or.inl ⟨by rfl, ?_⟩) ?_ ?_
                              rotate_left
                              · intro w'
                                go_simp
                                with_reducible rfl
                              rotate_left
                              · simp only [Act.put, List.setIfInBounds_toArray, List.set_cons_zero, List.set_cons_succ, i64_w, i32_w]
                                rfl
                              refine pure_ (i := 11) (N := some 41) (v := ?_) (a' := ?_) #[true, true, true, true, true, false, true, true, true, true, false, true, false, false, false, false, false, false, false, false, false, false, false, false, false, false, false, false] rfl rfl (any_of HT_.out (by kernel_rfl)) (fun _ _ _ h => h) (Or.inl ⟨by rfl, ?_⟩) ?_ ?_
                              rotate_left
                              · intro w'
                                go_simp
                                with_reducible rfl
                              rotate_left
                              · simp only [Act.put, List.setIfInBounds_toArray, List.set_cons_zero, List.set_cons_succ, i64_w, i32_w]
                                rfl
                              refine pure_ (i := 15) (N := some 45) (v := ?_) (a' := ?_) #[true, true, true, true, true, false, true, true, true, true, false, true, false, false, false, true, false, false, false, false, false, false, false, false, false, false, false, false] rfl rfl (any_of HT_.out (by kernel_rfl)) (fun _ _ _ h => h) (Or.inl ⟨by rfl, ?_⟩) ?_ ?_
                              rotate_left
                              · intro w'
                                go_simp
                                with_reducible rfl
                              rotate_left
                              · simp only [Act.put, List.setIfInBounds_toArray, List.set_cons_zero, List.set_cons_succ, i64_w, i32_w]
                                rfl
                              refine pure_ (i := 16) (N := some 46) (v := ?_) (a' := ?_) #[true, true, true, true, true, false, true, true, true, true, false, true, false, false, false, true, true, false, false, false, false, false, false, false, false, false, false, false] rfl rfl (any_of HT_.out (by kernel_rfl)) (fun _ _ _ h => h) (Or.inl ⟨by rfl, ?_⟩) ?_ ?_
                              rotate_left
                              · intro w'
                                go_simp
                                with_reducible rfl
                              rotate_left
                              · simp only [Act.put, List.setIfInBounds_toArray, List.set_cons_zero, List.set_cons_succ, i64_w, i32_w]
                                rfl
                              refine pure_ (i := 17) (N := some 47) (v := ?_) (a' := ?_) #[true, true, true, true, true, false, true, true, true, true, false, true, false, false, false, true, true, true, false, false, false, false, false, false, false, false, false, false] rfl rfl (any_of HT_.out (by kernel_rfl)) (fun _ _ _ h => h) (Or.inl ⟨by rfl, ?_⟩) ?_ ?_
                              rotate_left
                              · intro w'
                                go_simp
                                with_reducible rfl
                              rotate_left
                              · simp only [Act.put, List.setIfInBounds_toArray, List.set_cons_zero, List.set_cons_succ, i64_w, i32_w]
                                rfl
                              refine pure_ (i := 18) (N := some 48) (v := ?_) (a' := ?_) #[true, true, true, true, true, false, true, true, true, true, false, true, false, false, false, true, true, true, true, false, false, false, false, false, false, false, false, false] rfl rfl (any_of HT_.out (by kernel_rfl)) (fun _ _ _ h => h) (Or.inl ⟨by rfl, ?_⟩) ?_ ?_
                              rotate_left
                              · intro w'
                                go_simp
                                with_reducible rfl
                              rotate_left
                              · simp only [Act.put, List.setIfInBounds_toArray, List.set_cons_zero, List.set_cons_succ, i64_w, i32_w]
                                rfl
                              refine pure_ (i := 20) (N := some 50) (v := ?_) (a' := ?_) #[true, true, true, true, true, false, true, true, true, true, false, true, false, false, false, true, true, true, true, false, true, false, false, false, false, false, false, false] rfl rfl (any_of HT_.out (by kernel_rfl)) (fun _ _ _ h => h) (Or.inl ⟨by rfl, ?_⟩) ?_ ?_
                              rotate_left
                              · intro w'
                                go_simp
                                with_reducible rfl
                              rotate_left
                              · simp only [Act.put, List.setIfInBounds_toArray, List.set_cons_zero, List.set_cons_succ, i64_w, i32_w]
                                rfl
                              refine take_ (i := 5) (N := some 35) (v := ?_) (a' := ?_) #[true, true, true, true, true, true, true, true, true, true, false, true, false, false, false, true, true, true, true, false, true, false, false, false, false, false, false, false] rfl rfl (take_ofW HT_.out HW_.out (by kernel_rfl)) (fun _ _ _ h => h) (Or.inl ⟨by rfl, ?_⟩) hHeld ?_ ?_
                              rotate_left
                              · rintro w' ⟨s0, s1, s2, s3, s4, s5, s6, s7, s8, s9⟩
                                go_simp
                                with_reducible rfl
                              rotate_left
                              · simp only [Act.put, List.setIfInBounds_toArray, List.set_cons_zero, List.set_cons_succ, i64_w, i32_w]
                                rfl
                              refine take_ (i := 10) (N := some 40) (v := ?_) (a' := ?_) #[true, true, true, true, true, true, true, true, true, true, true, true, false, false, false, true, true, true, true, false, true, false, false, false, false, false, false, false] rfl rfl (take_ofW HT_.out HW_.out (by kernel_rfl)) (fun _ _ _ h => h) (Or.inl ⟨by rfl, ?_⟩) hHeld ?_ ?_
                              rotate_left
                              · rintro w' ⟨s0, s1, s2, s3, s4, s5, s6, s7, s8, s9⟩
                                go_simp
                                with_reducible rfl
                              rotate_left
                              · simp only [Act.put, List.setIfInBounds_toArray, List.set_cons_zero, List.set_cons_succ, i64_w, i32_w]
                                rfl
                              refine pure_ (i := 12) (N := some 42) (v := ?_) (a' := ?_) #[true, true, true, true, true, true, true, true, true, true, true, true, true, false, false, true, true, true, true, false, true, false, false, false, false, false, false, false] rfl rfl (any_of HT_.out (by kernel_rfl)) (fun _ _ _ h => h) (Or.inl ⟨by rfl, ?_⟩) ?_ ?_
                              rotate_left
                              · intro w'
                                go_simp
                                with_reducible rfl
                              rotate_left
                              · simp only [Act.put, List.setIfInBounds_toArray, List.set_cons_zero, List.set_cons_succ, i64_w, i32_w]
                                rfl
                              refine pure_ (i := 13) (N := some 43) (v := ?_) (a' := ?_) #[true, true, true, true, true, true, true, true, true, true, true, true, true, true, false, true, true, true, true, false, true, false, false, false, false, false, false, false] rfl rfl (any_of HT_.out (by kernel_rfl)) (fun _ _ _ h => h) (Or.inl ⟨by rfl, ?_⟩) ?_ ?_
                              rotate_left
                              · intro w'
                                go_simp
                                with_reducible rfl
                              rotate_left
                              · simp only [Act.put, List.setIfInBounds_toArray, List.set_cons_zero, List.set_cons_succ, i64_w, i32_w]
                                rfl
                              refine take_ (i := 14) (N := some 44) (v := ?_) (a' := ?_) #[true, true, true, true, true, true, true, true, true, true, true, true, true, true, true, true, true, true, true, false, true, false, false, false, false, false, false, false] rfl rfl (take_ofW HT_.out HW_.out (by kernel_rfl)) (fun _ _ _ h => h) (Or.inl ⟨by rfl, ?_⟩) hHeld ?_ ?_
                              rotate_left
                              · rintro w' ⟨s0, s1, s2, s3, s4, s5, s6, s7, s8, s9⟩
                                go_simp
                                with_reducible rfl
                              rotate_left
                              · simp only [Act.put, List.setIfInBounds_toArray, List.set_cons_zero, List.set_cons_succ, i64_w, i32_w]
                                rfl
                              refine take_ (i := 19) (N := some 49) (v := ?_) (a' := ?_) #[true, true, true, true, true, true, true, true, true, true, true, true, true, true, true, true, true, true, true, true, true, false, false, false, false, false, false, false] rfl rfl (take_ofW HT_.out HW_.out (by kernel_rfl)) (fun _ _ _ h => h) (Or.inl ⟨by rfl, ?_⟩) hHeld ?_ ?_
                              rotate_left
                              · rintro w' ⟨s0, s1, s2, s3, s4, s5, s6, s7, s8, s9⟩
                                go_simp
                                with_reducible rfl
                              rotate_left
                              · simp only [Act.put, List.setIfInBounds_toArray, List.set_cons_zero, List.set_cons_succ, i64_w, i32_w]
                                rfl
                              refine pure_ (i := 21) (N := some 51) (v := ?_) (a' := ?_) #[true, true, true, true, true, true, true, true, true, true, true, true, true, true, true, true, true, true, true, true, true, true, false, false, false, false, false, false] rfl rfl (any_of HT_.out (by kernel_rfl)) (fun _ _ _ h => h) (Or.inl ⟨by rfl, ?_⟩) ?_ ?_
                              rotate_left
                              · intro w'
                                go_simp
                                with_reducible rfl
                              rotate_left
                              · simp only [Act.put, List.setIfInBounds_toArray, List.set_cons_zero, List.set_cons_succ, i64_w, i32_w]
                                rfl
                              refine pure_ (i := 22) (N := some 52) (v := ?_) (a' := ?_) #[true, true, true, true, true, true, true, true, true, true, true, true, true, true, true, true, true, true, true, true, true, true, true, false, false, false, false, false] rfl rfl (any_of HT_.out (by kernel_rfl)) (fun _ _ _ h => h) (Or.inl ⟨by rfl, ?_⟩) ?_ ?_
                              rotate_left
                              · intro w'
                                go_simp
                                with_reducible rfl
                              rotate_left
                              · simp only [Act.put, List.setIfInBounds_toArray, List.set_cons_zero, List.set_cons_succ, i64_w, i32_w]
                                rfl
                              refine take_ (i := 23) (N := some 53) (v := ?_) (a' := ?_) #[true, true, true, true, true, true, true, true, true, true, true, true, true, true, true, true, true, true, true, true, true, true, true, true, false, false, false, false] rfl rfl (take_ofW HT_.out HW_.out (by kernel_rfl)) (fun _ _ _ h => h) (Or.inl ⟨by rfl, ?_⟩) hHeld ?_ ?_
                              rotate_left
                              · rintro w' ⟨s0, s1, s2, s3, s4, s5, s6, s7, s8, s9⟩
                                go_simp
                                with_reducible rfl
                              rotate_left
                              · simp only [Act.put, List.setIfInBounds_toArray, List.set_cons_zero, List.set_cons_succ, i64_w, i32_w]
                                rfl
                              refine pure_ (i := 24) (N := some 54) (v := ?_) (a' := ?_) #[true, true, true, true, true, true, true, true, true, true, true, true, true, true, true, true, true, true, true, true, true, true, true, true, true, false, false, false] rfl rfl (any_of HT_.out (by kernel_rfl)) (fun _ _ _ h => h) (Or.inl ⟨by rfl, ?_⟩) ?_ ?_
                              rotate_left
                              · intro w'
                                go_simp
                                with_reducible rfl
                              rotate_left
                              · simp only [Act.put, List.setIfInBounds_toArray, List.set_cons_zero, List.set_cons_succ, i64_w, i32_w]
                                rfl
                              refine one_ (i := 25) (N := some 55) #[true, true, true, true, true, true, true, true, true, true, true, true, true, true, true, true, true, true, true, true, true, true, true, true, true, true, false, false] rfl rfl (one_of HT_.out (by kernel_rfl)) (by decide) (fun K hK => ?_)
                              refine value_ (w1 := ?_) (v := ?_) (by rfl) rfl ?_ ?_
                              rotate_left 2
                              · go_simp
                                constructor
                                · rfl
                                · rfl
                              refine hK.out _ _ ⟨(World.cell?_alloc_lt _ _ _ (World.block_lt_of_cell? _ _ (((HB.out.cell (World.block_lt_of_cell? w _ hw109_0)).trans hw109_0)))).trans (((HB.out.cell (World.block_lt_of_cell? w _ hw109_0)).trans hw109_0)), (World.cell?_alloc_lt _ _ _ (World.block_lt_of_cell? _ _ (((HB.out.cell (World.block_lt_of_cell? w _ hw109_1)).trans hw109_1)))).trans (((HB.out.cell (World.block_lt_of_cell? w _ hw109_1)).trans hw109_1)), (World.cell?_alloc_lt _ _ _ (World.block_lt_of_cell? _ _ (((HB.out.cell (World.block_lt_of_cell? w _ hw110_0)).trans hw110_0)))).trans (((HB.out.cell (World.block_lt_of_cell? w _ hw110_0)).trans hw110_0)), (World.cell?_alloc_lt _ _ _ (World.block_lt_of_cell? _ _ (((HB.out.cell (World.block_lt_of_cell? w _ hw110_1)).trans hw110_1)))).trans (((HB.out.cell (World.block_lt_of_cell? w _ hw110_1)).trans hw110_1)), (World.cell?_alloc_lt _ _ _ (World.block_lt_of_cell? _ _ (((HB.out.cell (World.block_lt_of_cell? w _ hw111_0)).trans hw111_0)))).trans (((HB.out.cell (World.block_lt_of_cell? w _ hw111_0)).trans hw111_0)), (World.cell?_alloc_lt _ _ _ (World.block_lt_of_cell? _ _ (((HB.out.cell (World.block_lt_of_cell? w _ hw111_1)).trans hw111_1)))).trans (((HB.out.cell (World.block_lt_of_cell? w _ hw111_1)).trans hw111_1)), (World.cell?_alloc_lt _ _ _ (World.block_lt_of_cell? _ _ (((HB.out.cell (World.block_lt_of_cell? w _ hw112_0)).trans hw112_0)))).trans (((HB.out.cell (World.block_lt_of_cell? w _ hw112_0)).trans hw112_0)), (World.cell?_alloc_lt _ _ _ (World.block_lt_of_cell? _ _ (((HB.out.cell (World.block_lt_of_cell? w _ hw112_1)).trans hw112_1)))).trans (((HB.out.cell (World.block_lt_of_cell? w _ hw112_1)).trans hw112_1)), (World.cell?_alloc_lt _ _ _ (World.block_lt_of_cell? _ _ (((HB.out.cell (World.block_lt_of_cell? w _ hw113_0)).trans hw113_0)))).trans (((HB.out.cell (World.block_lt_of_cell? w _ hw113_0)).trans hw113_0)), (World.cell?_alloc_lt _ _ _ (World.block_lt_of_cell? _ _ (((HB.out.cell (World.block_lt_of_cell? w _ hw113_1)).trans hw113_1)))).trans (((HB.out.cell (World.block_lt_of_cell? w _ hw113_1)).trans hw113_1))⟩ (fun hHeld => ?_)
                              clear hK K
                              refine norm_ (a' := ?_) ?_ ?_
                              rotate_left
                              · show Act.put _ (some 55) _ = _
                                simp only [Act.put, List.setIfInBounds_toArray, List.set_cons_zero, List.set_cons_succ, i64_w, i32_w]
                                rfl
                              refine one_ (i := 26) (N := some 56) #[true, true, true, true, true, true, true, true, true, true, true, true, true, true, true, true, true, true, true, true, true, true, true, true, true, true, true, false] rfl rfl (one_of HT_.out (by kernel_rfl)) (by decide) (fun K hK => ?_)
                              refine Kd.R_append_step k149 (w0 := w) w.heap.size (by rfl) (.tmp 30) (.tmp 55) 48 149 (.agg #[(.int .u8 0), (.string ⟨#[]⟩), (.string ⟨#[]⟩), (.string ⟨#[]⟩), (.string ⟨#[]⟩), (.string ⟨#[]⟩)]) 88 rfl Try.underlying48 info149 rfl (by decide) (by omega) u3 x3_2 (⟨2, (rd_T136 l0 x9_1).f0, (⟨#[]⟩ : ByteArray), (rd_T145 ((rd_T136 l0 x9_1).f1) x27_2).f0, (rd_T145 ((rd_T136 l0 x9_1).f1) x27_2).f1, (⟨#[]⟩ : ByteArray)⟩ : S149) [.int .u8 2, .string ((rd_T136 l0 x9_1).f0), .string (⟨#[]⟩ : ByteArray), .string ((rd_T145 ((rd_T136 l0 x9_1).f1) x27_2).f0), .string ((rd_T145 ((rd_T136 l0 x9_1).f1) x27_2).f1), .string (⟨#[]⟩ : ByteArray)] (fun _ => True) (fun _ => False) rfl rfl ?aP (fun _ hk => hk.elim) ?aF ?aO ?aB ?aS ?aL ?_
                              (case aP => exact k149_mkM _ _ _ (⟨2, (rd_T136 l0 x9_1).f0, (⟨#[]⟩ : ByteArray), (rd_T145 ((rd_T136 l0 x9_1).f1) x27_2).f0, (rd_T145 ((rd_T136 l0 x9_1).f1) x27_2).f1, (⟨#[]⟩ : ByteArray)⟩ : S149))
                              (case aB => exact (by repeat (first | (with_reducible first | exact HB.out | apply below_alloc | apply pw_below_drewN | apply below_drew1) | exact HB.out)))
                              (case aF => exact (fun _ _ => trivial))
                              (case aO => exact (by (with_reducible repeat (first | apply Kd.R_alloc | apply Kd.R_drewN | apply Kd.R_drew)); exact HO_3.out))
                              (case aS => exact (below_size (by repeat (first | (with_reducible first | exact HB.out | apply below_alloc | apply pw_below_drewN | apply below_drew1) | exact HB.out))))
                              (case aL => have := LMc14.out; omega)
                              intro v115 w16 ho hb hg hat
                              rw [← Ny114.out] at ho
                              have n0_ := Aside0.mk (hb)
                              have n1_ := Aside0.mk (ho)
                              clear HB
                              clear HO_3
                              have HB := n0_
                              have HO116 := n1_
                              clear n0_ n1_
                              clear ho hb hg hat
                              refine hK.out _ _ ⟨((HB.out.cell (World.block_lt_of_cell? w _ hw109_0)).trans hw109_0), ((HB.out.cell (World.block_lt_of_cell? w _ hw109_1)).trans hw109_1), ((HB.out.cell (World.block_lt_of_cell? w _ hw110_0)).trans hw110_0), ((HB.out.cell (World.block_lt_of_cell? w _ hw110_1)).trans hw110_1), ((HB.out.cell (World.block_lt_of_cell? w _ hw111_0)).trans hw111_0), ((HB.out.cell (World.block_lt_of_cell? w _ hw111_1)).trans hw111_1), ((HB.out.cell (World.block_lt_of_cell? w _ hw112_0)).trans hw112_0), ((HB.out.cell (World.block_lt_of_cell? w _ hw112_1)).trans hw112_1), ((HB.out.cell (World.block_lt_of_cell? w _ hw113_0)).trans hw113_0), ((HB.out.cell (World.block_lt_of_cell? w _ hw113_1)).trans hw113_1)⟩ (fun hHeld => ?_)
                              clear hK K
                              refine norm_ (a' := ?_) ?_ ?_
                              rotate_left
                              · show Act.put _ (some 56) _ = _
                                simp only [Act.put, List.setIfInBounds_toArray, List.set_cons_zero, List.set_cons_succ, i64_w, i32_w]
                                rfl
                              refine pure_ (i := 27) (N := some 3) (v := ?_) (a' := ?_) #[true, true, true, true, true, true, true, true, true, true, true, true, true, true, true, true, true, true, true, true, true, true, true, true, true, true, true, true] rfl rfl (any_of HT_.out (by kernel_rfl)) (fun _ _ _ h => h) (Or.inl ⟨by rfl, ?_⟩) ?_ ?_
                              rotate_left
                              · intro w'
                                go_simp
                                with_reducible rfl
                              rotate_left
                              · simp only [Act.put, List.setIfInBounds_toArray, List.set_cons_zero, List.set_cons_succ, i64_w, i32_w]
                                rfl
                              refine done_ (done_of HT_.out (by kernel_rfl)) ?_
                              try go_wp2
                              go_roundg k2
                              case measure => have := HK1.out; have := HK2.out; omega
                              case rel => exact ⟨(y114), (wrap64 (x27_2 + 1)), (by first | rfl | (simp; done) | (simp [*]; done)), H', ⟨by have := HK1.out; have := HK2.out; omega⟩, ⟨by (with_reducible repeat (first | apply Kd.R_alloc | apply Kd.R_drewN | apply Kd.R_drew)); exact HO116.out⟩, ⟨by repeat (first | (with_reducible first | exact HB.out | apply below_alloc | apply pw_below_drewN | apply below_drew1) | exact HB.out)⟩⟩
                            · rw [if_neg c14] at H
                              exact absurd H (by simp)
                          · rw [if_neg c13] at H
                            exact absurd H (by simp)
                        · rw [if_neg c12] at H
                          exact absurd H (by simp)
                      · rw [if_neg c11] at H
                        exact absurd H (by simp)
                    · rw [if_neg c10] at H
                      exact absurd H (by simp)
                  · rw [if_neg c9] at H
                    have c9b0 : decide (x27_2 < (((rd_T136 l0 x9_1).f1).length : Int)) = false := decide_eq_false c9
                    clear c9
                    have H' := Aside0.mk H
                    clear H
                    go_wp2
                    go_roundg k2
                    case measure => have := HK1.out; have := HK2.out; omega
                    case rel => exact ⟨(x3_2), (wrap64 (x9_1 + 1)), (by first | rfl | (simp; done) | (simp [*]; done)), H', ⟨by have := HK1.out; have := HK2.out; omega⟩, ⟨by (with_reducible repeat (first | apply Kd.R_alloc | apply Kd.R_drewN | apply Kd.R_drew)); exact HO_3.out⟩, ⟨by repeat (first | (with_reducible first | exact HB.out | apply below_alloc | apply pw_below_drewN | apply below_drew1) | exact HB.out)⟩⟩
            · rw [if_neg c7] at H
              exact absurd H (by simp)
          · rw [if_neg c6] at H
            exact absurd H (by simp)
        · rw [if_neg c5] at H
          exact absurd H (by simp)
      · rw [if_neg c4] at H
        have c4b0 : decide (x9_1 < (l0.length : Int)) = false := decide_eq_false c4
        clear c4
        obtain rfl := Option.some.inj H
        go_wp2
        go_ret
        exact ⟨_, by first | rfl | (simp [errW_none, errW_some] <;> rfl) | (simp [*, errW_none, errW_some] <;> rfl), by (with_reducible repeat (first | apply Kd.R_alloc | apply Kd.R_drewN | apply Kd.R_drew)); exact HO_3.out, by repeat (first | (with_reducible first | exact HB.out | apply below_alloc | apply pw_below_drewN | apply below_drew1) | exact HB.out)⟩

end Go.Proofs.Ytfdemnefkfkghaa.X
namespace Go.Proofs.Ytfdemnefkfkghaa.Q
open Go.RowKit Go.Proofs.YtfdemnefkfkghaaW.PrintWords Go.Proofs.YtfdemnefkfkghaaW.PrintLast Go.Proofs.YtfdemnefkfkghaaW.PrintMore
open Go.Proofs.Ytfdemnefkfkghaa.X
set_option linter.unusedVariables false

def riseFrom : ByteArray → List S145 → Bool
  | _, [] => true
  | a, p :: ps => less a p.f0 && riseFrom p.f0 ps
def rise : List S145 → Bool
  | [] => true
  | p :: ps => riseFrom p.f0 ps
def sizes : List S145 → Bool
  | [] => true
  | p :: ps => decide (p.f0.size ≤ 16) && decide (p.f1.size ≤ 32) && sizes ps
theorem okPairs_some : ∀ (ps : List S145) (a : ByteArray), okPairs (some a) ps = (riseFrom a ps && sizes ps)
  | [], _ => rfl
  | p :: ps, a => by
    rw [okPairs, okPairs_some ps p.f0, riseFrom, sizes]
    cases decide (p.f0.size ≤ 16) <;> cases decide (p.f1.size ≤ 32) <;> cases less a p.f0 <;> cases riseFrom p.f0 ps <;> cases sizes ps <;> rfl
theorem okPairs_none : ∀ (ps : List S145), okPairs none ps = (rise ps && sizes ps)
  | [] => rfl
  | p :: ps => by
    rw [okPairs, okPairs_some ps p.f0, rise, sizes]
    cases decide (p.f0.size ≤ 16) <;> cases decide (p.f1.size ≤ 32) <;> cases riseFrom p.f0 ps <;> cases sizes ps <;> rfl
theorem riseEv (ps : List S145) (hl : ps.length ≤ 60) : ∀ (m j : Nat) (hj : j < ps.length), ps.length - j = m → Ev (fun k => marcotref06_Rise.l0 k ps ((j + 1 : Nat) : Int)) (riseFrom ps[j].f0 (ps.drop (j + 1))) := by
  intro m
  induction m with
  | zero => intro j hj hm; omega
  | succ m ih =>
    intro j hj hm
    by_cases h : j + 1 < ps.length
    · have ih := ih (j + 1) h (by omega)
      rw [List.drop_eq_getElem_cons h, riseFrom]
      refine Ev.step (f := fun k => if less ps[j].f0 ps[j + 1].f0 = true then marcotref06_Rise.l0 k ps ((j + 1 + 1 : Nat) : Int) else some false) ?_ ?_
      · intro k
        have e1 : wrap64 (((j + 1 : Nat) : Int) - 1) = (j : Int) := by rw [wr (by omega) (by omega)]; omega
        rw [marcotref06_Rise.l0, if_pos (by omega), if_pos (by omega), e1, if_pos (by omega), if_pos (by omega), rd145 hj, rd145 h, wr (n := ((j + 1 : Nat) : Int) + 1) (by omega) (by omega)]
        rfl
      · by_cases hx : less ps[j].f0 ps[j + 1].f0 = true
        · rw [hx, Bool.true_and]
          exact Ev.congr (fun k => by rw [if_pos rfl]) ih
        · rw [Bool.not_eq_true] at hx
          rw [hx, Bool.false_and]
          exact Ev.congr (fun k => by rw [if_neg (by decide)]) (Ev.now _)
    · rw [List.drop_of_length_le (by omega)]
      refine Ev.step (f := fun _ => some true) ?_ (Ev.now _)
      intro k
      rw [marcotref06_Rise.l0, if_neg (by omega)]
theorem riseOf (ps : List S145) (hl : ps.length ≤ 60) : Ev (fun k => marcotref06_Rise.f k ps) (rise ps) := by
  cases ps with
  | nil =>
    refine Ev.step (g := fun k => marcotref06_Rise.l0 k [] 1) (f := fun _ => some true) ?_ (Ev.now _)
    intro k
    rw [marcotref06_Rise.l0, if_neg (by decide)]
  | cons p ps =>
    have := riseEv (p :: ps) hl _ 0 (by simp) rfl
    exact this
theorem sizesEv (l : List S136) (n : Int) (i : Nat) (w0 : ByteArray) (ps : List S145) (hi : i < 1000) (hl : ps.length ≤ 60) (r : Bool) (h : Ev (fun k => marcotref32_May.l0 k l n ((i + 1 : Nat) : Int)) r) : ∀ (m j : Nat), ps.length - j = m → j ≤ ps.length → Ev (fun k => marcotref32_May.l1 k l n (i : Int) (ps.length : Int) (j : Int) w0 ps) (sizes (ps.drop j) && r) := by
  intro m
  induction m with
  | zero =>
    intro j hm hj
    rw [List.drop_of_length_le (by omega)]
    refine Ev.step (fun k => ?_) h
    rw [marcotref32_May.l1, if_neg (by omega), wr (by omega) (by omega)]
    rfl
  | succ m ih =>
    intro j hm hj
    have hj' : j < ps.length := by omega
    rw [List.drop_eq_getElem_cons hj', sizes]
    by_cases h1 : (ps[j].f0.size : Int) > 16
    · rw [decide_eq_false (by omega : ¬ ps[j].f0.size ≤ 16)]
      refine Ev.step (f := fun _ => some false) ?_ (by simpa using Ev.now false)
      intro k
      rw [marcotref32_May.l1, if_pos (by omega), if_pos (by omega), if_pos (by omega), rd145 hj', if_pos h1]
    · by_cases h2 : (ps[j].f1.size : Int) > 32
      · rw [decide_eq_false (by omega : ¬ ps[j].f1.size ≤ 32)]
        refine Ev.step (f := fun _ => some false) ?_ (by simpa using Ev.now false)
        intro k
        rw [marcotref32_May.l1, if_pos (by omega), if_pos (by omega), if_pos (by omega), rd145 hj', if_neg h1, if_pos h2]
      · rw [decide_eq_true (by omega : ps[j].f0.size ≤ 16), decide_eq_true (by omega : ps[j].f1.size ≤ 32), Bool.true_and, Bool.true_and]
        refine Ev.step (fun k => ?_) (ih (j + 1) (by omega) (by omega))
        rw [marcotref32_May.l1, if_pos (by omega), if_pos (by omega), if_pos (by omega), rd145 hj', if_neg h1, if_neg h2, wr (by omega) (by omega)]
        rfl
/-- The name before a place. -/
def lastOf (l : List S136) : Nat → ByteArray
  | 0 => ⟨#[]⟩
  | i + 1 => (l[i]?).elim ⟨#[]⟩ (·.f0)
theorem toList_nil_iff {t : ByteArray} : t.toList = ([] : List UInt8) ↔ t.size = 0 := by
  rw [Go.Lib.toList_data, Go.Lib.size_eq, List.length_eq_zero_iff]
theorem less_nil {t : ByteArray} (h : t.size ≠ 0) : less ⟨#[]⟩ t = true := by
  unfold less
  rw [Go.Lib.toList_data, Go.Lib.toList_data]
  rw [Go.Lib.size_eq] at h
  cases ht : t.data.toList with
  | nil => rw [ht] at h; exact absurd rfl h
  | cons a x => rfl
theorem refMayEv (l : List S136) (hl : l.length ≤ 20) (hs : ∀ w ∈ l, w.f1.length ≤ 60) : ∀ (m i : Nat), l.length - i = m → i ≤ l.length → Ev (fun k => marcotref32_May.l0 k l (l.length : Int) (i : Int)) (okL (lastOf l i) (l.drop i)) := by
  intro m
  induction m with
  | zero =>
    intro i hm hi
    rw [List.drop_of_length_le (by omega)]
    refine Ev.step (f := fun _ => some true) ?_ (Ev.now _)
    intro k
    rw [marcotref32_May.l0, if_neg (by omega)]
  | succ m ih =>
    intro i hm hi
    have hi' : i < l.length := by omega
    have hw := hs l[i] (List.getElem_mem _)
    have ih := ih (i + 1) (by omega) (by omega)
    have hla : lastOf l (i + 1) = l[i].f0 := by simp [lastOf, hi']
    rw [hla] at ih
    rw [List.drop_eq_getElem_cons hi', okL]
    have jt : Ev (fun k => marcotref32_May.j1 k l (l.length : Int) (i : Int) true l[i].f0 l[i].f1) false := Ev.step (f := fun _ => some false) (fun k => by rw [marcotref32_May.j1, if_pos rfl]) (Ev.now _)
    have jf : Ev (fun k => marcotref32_May.j1 k l (l.length : Int) (i : Int) false l[i].f0 l[i].f1) (sizes l[i].f1 && okL l[i].f0 (l.drop (i + 1))) :=
      Ev.step (fun k => by rw [marcotref32_May.j1, if_neg (by decide)]; rfl) (sizesEv l (l.length : Int) i l[i].f0 l[i].f1 (by omega) hw _ ih l[i].f1.length 0 (by omega) (by omega))
    have jr : Ev (fun k => (marcotref06_Rise.f k l[i].f1).bind fun t => marcotref32_May.j1 k l (l.length : Int) (i : Int) (!t) l[i].f0 l[i].f1) (okPairs none l[i].f1 && okL l[i].f0 (l.drop (i + 1))) := by
      refine Ev.bind (riseOf _ hw) ?_
      rw [okPairs_none]
      cases rise l[i].f1 with
      | true => rw [Bool.true_and]; exact jf
      | false => rw [Bool.false_and, Bool.false_and]; exact jt
    unfold okName
    by_cases h0 : l[i].f0.size = 0
    · rw [decide_eq_false (by omega : ¬ 1 ≤ l[i].f0.size), Bool.false_and, Bool.false_and, Bool.false_and, Bool.false_and]
      refine Ev.step (fun k => ?_) jt
      rw [marcotref32_May.l0, if_pos (by omega), if_pos (by omega), if_pos (by omega), rd136 hi', if_pos (toList_nil_iff.mpr h0)]
    · have hne : ¬ l[i].f0.toList = ([] : List UInt8) := fun h => h0 (toList_nil_iff.mp h)
      rw [decide_eq_true (by omega : 1 ≤ l[i].f0.size), Bool.true_and]
      by_cases h1 : (l[i].f0.size : Int) > 16
      · rw [decide_eq_false (by omega : ¬ l[i].f0.size ≤ 16), Bool.false_and, Bool.false_and, Bool.false_and]
        refine Ev.step (fun k => ?_) jt
        rw [marcotref32_May.l0, if_pos (by omega), if_pos (by omega), if_pos (by omega), rd136 hi', if_neg hne, if_pos h1]
      · rw [decide_eq_true (by omega : l[i].f0.size ≤ 16), Bool.true_and]
        cases i with
        | zero =>
          rw [show lastOf l 0 = ⟨#[]⟩ from rfl, less_nil h0, Bool.true_and]
          refine Ev.step (fun k => ?_) jr
          rw [marcotref32_May.l0, if_pos (by omega), if_pos (by omega), if_pos (by omega), rd136 hi', if_neg hne, if_neg h1, if_neg (by omega)]
        | succ j =>
          have hj : j < l.length := by omega
          have hlj : lastOf l (j + 1) = l[j].f0 := by simp [lastOf, hj]
          rw [hlj]
          have e1 : wrap64 (((j + 1 : Nat) : Int) - 1) = (j : Int) := by rw [wr (by omega) (by omega)]; omega
          by_cases hx : less l[j].f0 l[j + 1].f0 = true
          · rw [hx, Bool.true_and]
            refine Ev.step (fun k => ?_) jr
            rw [marcotref32_May.l0, if_pos (by omega), if_pos (by omega), if_pos (by omega), rd136 hi', if_neg hne, if_neg h1, if_pos (by omega), e1, if_pos (by omega), if_pos (by omega), rd136 hj, if_pos hx]
          · rw [Bool.not_eq_true] at hx
            rw [hx, Bool.false_and, Bool.false_and]
            refine Ev.step (fun k => ?_) jt
            rw [marcotref32_May.l0, if_pos (by omega), if_pos (by omega), if_pos (by omega), rd136 hi', if_neg hne, if_neg h1, if_pos (by omega), e1, if_pos (by omega), if_pos (by omega), rd136 hj, if_neg (by show ¬ less l[j].f0 l[j + 1].f0 = true; rw [hx]; decide)]
theorem refMay {l : List S136} (h : Small l) : Ev (fun k => marcotref32_May.f k l) (mayB l) := by
  unfold mayB
  by_cases hl : l.length ≤ 16
  · rw [decide_eq_true hl, Bool.and_true]
    refine Ev.congr (fun k => ?_) (refMayEv l h.1 (fun w hw => (h.2 w hw).2.1) l.length 0 (by omega) (by omega))
    unfold marcotref32_May.f
    rw [if_neg (by omega)]
    rfl
  · rw [decide_eq_false hl, Bool.and_false]
    refine Ev.congr (f := fun _ => some false) (fun k => ?_) (Ev.now _)
    unfold marcotref32_May.f
    rw [if_pos (by omega)]
theorem refPut {l : List S136} (h : Small l) : Ev (fun k => marcotref32_Put.f k l) (putOf l) := by
  refine Ev.bind (refMay h) ?_
  unfold putOf
  by_cases hm : mayB l = true
  · rw [if_pos hm]
    obtain ⟨h1, h2⟩ := may_all h hm
    refine Ev.congr (f := fun k => marcotref32_Put.l0 k l [109, 114, 99, 116, (l.length : Int)] (l.length : Int) ((0 : Nat) : Int)) (fun k => by rw [if_pos hm, show ((l.length : Int) % 256) = l.length by omega]; rfl) ?_
    exact refPutEv (by omega) h2 l.length 0 _ (by omega) (by omega) (by simp) (by
      intro c hc
      simp only [List.mem_cons, List.not_mem_nil, or_false] at hc
      omega)
  · rw [if_neg hm]
    exact Ev.congr (fun k => by rw [if_neg hm]) (Ev.now _)

def opsOne (w : S136) : List S149 := (⟨1, w.f0, ⟨#[]⟩, ⟨#[]⟩, ⟨#[]⟩, ⟨#[]⟩⟩ : S149) :: w.f1.map (fun p => (⟨2, w.f0, ⟨#[]⟩, p.f0, p.f1, ⟨#[]⟩⟩ : S149))
theorem opsOne_length (w : S136) : (opsOne w).length = w.f1.length + 1 := by simp [opsOne]
theorem opsEv (l : List S136) (hl : l.length ≤ 20) (hs : ∀ w ∈ l, w.f1.length ≤ 60) : ∀ (m i : Nat) (acc : List S149), l.length - i = m → i ≤ l.length → acc.length ≤ 100 * i → Ev (fun k => dump_Ops.l0 k acc l (l.length : Int) (i : Int)) (acc ++ (l.drop i).flatMap opsOne) := by
  intro m
  induction m with
  | zero =>
    intro i acc hm hi ha
    rw [List.drop_of_length_le (by omega)]
    refine Ev.step (f := fun _ => some acc) ?_ (by simpa using Ev.now acc)
    intro k
    rw [dump_Ops.l0, if_neg (by omega)]
  | succ m ih =>
    intro i acc hm hi ha
    have hi' : i < l.length := by omega
    have hw := hs l[i] (List.getElem_mem _)
    have ih := ih (i + 1) (acc ++ opsOne l[i]) (by omega) (by omega) (by rw [List.length_append, opsOne_length]; omega)
    rw [List.drop_eq_getElem_cons hi', List.flatMap_cons, ← List.append_assoc]
    have inner : ∀ (m' j : Nat), l[i].f1.length - j = m' → j ≤ l[i].f1.length →
        Ev (fun k => dump_Ops.l1 k (acc ++ (opsOne l[i]).take (j + 1)) l (l.length : Int) (i : Int) l[i].f1 (l[i].f1.length : Int) (j : Int) l[i].f0 l[i].f1) (acc ++ opsOne l[i] ++ (l.drop (i + 1)).flatMap opsOne) := by
      intro m'
      induction m' with
      | zero =>
        intro j hm' hj
        rw [List.take_of_length_le (by rw [opsOne_length]; omega)]
        refine Ev.step (fun k => ?_) ih
        rw [dump_Ops.l1, if_neg (by omega), wr (by omega) (by omega)]
        rfl
      | succ m' ih' =>
        intro j hm' hj
        have hj' : j < l[i].f1.length := by omega
        refine Ev.step (fun k => ?_) (ih' (j + 1) (by omega) (by omega))
        rw [dump_Ops.l1, if_pos (by omega), if_pos (by omega), if_pos (by omega), if_pos (by rw [List.length_append, List.length_take, opsOne_length]; omega), rd145 hj', wr (by omega) (by omega)]
        have : acc ++ List.take (j + 1) (opsOne l[i]) ++ [(⟨2, l[i].f0, ⟨#[]⟩, l[i].f1[j].f0, l[i].f1[j].f1, ⟨#[]⟩⟩ : S149)] = acc ++ List.take (j + 1 + 1) (opsOne l[i]) := by
          rw [List.append_assoc]
          congr 1
          rw [List.take_add_one (i := j + 1)]
          congr 1
          simp [opsOne, hj']
        rw [this]
        rfl
    refine Ev.step (fun k => ?_) (inner l[i].f1.length 0 (by omega) (by omega))
    rw [dump_Ops.l0, if_pos (by omega), if_pos (by omega), if_pos (by omega), if_pos (by omega), rd136 hi']
    rfl
theorem refOpsEv (l : List S136) (hl : l.length ≤ 20) (hs : ∀ w ∈ l, w.f1.length ≤ 60) : ∀ (m i : Nat) (acc : List S149), l.length - i = m → i ≤ l.length → acc.length ≤ 100 * i → Ev (fun k => marcotref32_Ops.l0 k l acc (l.length : Int) (i : Int)) (acc ++ (l.drop i).flatMap opsOne) := by
  intro m
  induction m with
  | zero =>
    intro i acc hm hi ha
    rw [List.drop_of_length_le (by omega)]
    refine Ev.step (f := fun _ => some acc) ?_ (by simpa using Ev.now acc)
    intro k
    rw [marcotref32_Ops.l0, if_neg (by omega)]
  | succ m ih =>
    intro i acc hm hi ha
    have hi' : i < l.length := by omega
    have hw := hs l[i] (List.getElem_mem _)
    have ih := ih (i + 1) (acc ++ opsOne l[i]) (by omega) (by omega) (by rw [List.length_append, opsOne_length]; omega)
    rw [List.drop_eq_getElem_cons hi', List.flatMap_cons, ← List.append_assoc]
    have inner : ∀ (m' j : Nat), l[i].f1.length - j = m' → j ≤ l[i].f1.length →
        Ev (fun k => marcotref32_Ops.l1 k l (acc ++ (opsOne l[i]).take (j + 1)) (i : Int) (l.length : Int) (i : Int) (l[i].f1.length : Int) (j : Int)) (acc ++ opsOne l[i] ++ (l.drop (i + 1)).flatMap opsOne) := by
      intro m'
      induction m' with
      | zero =>
        intro j hm' hj
        rw [List.take_of_length_le (by rw [opsOne_length]; omega)]
        refine Ev.step (fun k => ?_) ih
        rw [marcotref32_Ops.l1, if_neg (by omega), wr (by omega) (by omega)]
        rfl
      | succ m' ih' =>
        intro j hm' hj
        have hj' : j < l[i].f1.length := by omega
        refine Ev.step (fun k => ?_) (ih' (j + 1) (by omega) (by omega))
        rw [marcotref32_Ops.l1, if_pos (by omega), if_pos (by omega), if_pos (by omega), if_pos (by omega), rd136 hi', if_pos (by omega), if_pos (by rw [List.length_append, List.length_take, opsOne_length]; omega), rd145 hj', wr (by omega) (by omega)]
        have : acc ++ List.take (j + 1) (opsOne l[i]) ++ [(⟨2, l[i].f0, ⟨#[]⟩, l[i].f1[j].f0, l[i].f1[j].f1, ⟨#[]⟩⟩ : S149)] = acc ++ List.take (j + 1 + 1) (opsOne l[i]) := by
          rw [List.append_assoc]
          congr 1
          rw [List.take_add_one (i := j + 1)]
          congr 1
          simp [opsOne, hj']
        rw [this]
        rfl
    refine Ev.step (fun k => ?_) (inner l[i].f1.length 0 (by omega) (by omega))
    rw [marcotref32_Ops.l0, if_pos (by omega), if_pos (by omega), if_pos (by omega), if_pos (by omega), rd136 hi']
    rfl
theorem flat_length (l : List S136) (hs : ∀ w ∈ l, w.f1.length ≤ 60) : (l.flatMap opsOne).length ≤ 61 * l.length := by
  induction l with
  | nil => simp
  | cons w l ih =>
    have := ih (fun x hx => hs x (by simp [hx]))
    have := hs w (by simp)
    rw [List.flatMap_cons, List.length_append, opsOne_length, List.length_cons]
    omega
theorem sameOps (x : List S149) (hx : x.length < 100000) : Ev (fun k => marcotref23_Same.f k x x) true := by
  have key : ∀ (m i : Nat), x.length - i = m → i ≤ x.length → Ev (fun k => marcotref23_Same.l0 k x x (x.length : Int) (i : Int)) true := by
    intro m
    induction m with
    | zero =>
      intro i hm hi
      exact Ev.step (f := fun _ => some true) (fun k => by rw [marcotref23_Same.l0, if_neg (by omega)]) (Ev.now _)
    | succ m ih =>
      intro i hm hi
      refine Ev.step (fun k => ?_) (ih (i + 1) (by omega) (by omega))
      rw [marcotref23_Same.l0, if_pos (by omega), if_pos (by omega), if_pos (by omega), if_pos (by omega), if_neg (by simp), wr (by omega) (by omega)]
      rfl
  refine Ev.congr (fun k => ?_) (key x.length 0 (by omega) (by omega))
  unfold marcotref23_Same.f
  rw [if_pos rfl]
  rfl

theorem samePairs (x : List S145) (hx : x.length < 100000) : Ev (fun k => marcotref06_SamePairs.f k x x) true := by
  have key : ∀ (m i : Nat), x.length - i = m → i ≤ x.length → Ev (fun k => marcotref06_SamePairs.l0 k x x (x.length : Int) (i : Int)) true := by
    intro m
    induction m with
    | zero =>
      intro i hm hi
      exact Ev.step (f := fun _ => some true) (fun k => by rw [marcotref06_SamePairs.l0, if_neg (by omega)]) (Ev.now _)
    | succ m ih =>
      intro i hm hi
      refine Ev.step (fun k => ?_) (ih (i + 1) (by omega) (by omega))
      rw [marcotref06_SamePairs.l0, if_pos (by omega), if_pos (by omega), if_pos (by omega), if_pos (by omega), if_neg (by simp), wr (by omega) (by omega)]
      rfl
  refine Ev.congr (fun k => ?_) (key x.length 0 (by omega) (by omega))
  unfold marcotref06_SamePairs.f
  rw [if_pos rfl]
  rfl
theorem sameVols (x : List S136) (hx : x.length < 100000) (hs : ∀ w ∈ x, w.f1.length ≤ 60) : Ev (fun k => marcotref32_Same.f k x x) true := by
  have key : ∀ (m i : Nat), x.length - i = m → i ≤ x.length → Ev (fun k => marcotref32_Same.l0 k x x (x.length : Int) (i : Int)) true := by
    intro m
    induction m with
    | zero =>
      intro i hm hi
      exact Ev.step (f := fun _ => some true) (fun k => by rw [marcotref32_Same.l0, if_neg (by omega)]) (Ev.now _)
    | succ m ih =>
      intro i hm hi
      have hi' : i < x.length := by omega
      refine Ev.step (f := fun k => (marcotref06_SamePairs.f k x[i].f1 x[i].f1).bind fun t105 => if t105 = true then marcotref32_Same.l0 k x x (x.length : Int) ((i + 1 : Nat) : Int) else some false) (fun k => ?_) (Ev.bind (samePairs x[i].f1 (by have := hs x[i] (List.getElem_mem _); omega)) (Ev.congr (fun k => by rw [if_pos rfl]) (ih (i + 1) (by omega) (by omega))))
      rw [marcotref32_Same.l0, if_pos (by omega), if_pos (by omega), if_pos (by omega), if_pos (by omega), if_pos rfl, rd136 hi', wr (by omega) (by omega)]
      rfl
  refine Ev.congr (fun k => ?_) (key x.length 0 (by omega) (by omega))
  unfold marcotref32_Same.f
  rw [if_pos rfl]
  rfl
end Go.Proofs.Ytfdemnefkfkghaa.Q
namespace Go.Proofs.Ytfdemnefkfkghaa.X
open Go.RowKit Go.Proofs.YtfdemnefkfkghaaW.PrintWords Go.Proofs.YtfdemnefkfkghaaW.PrintLast Go.Proofs.YtfdemnefkfkghaaW.PrintMore
attribute [local go_sem] max2_int min2_int max_two min_two max_three min_three max_four min_four   -- for this text's walks alone
attribute [local go_sem high] Go.Proofs.Ytfdemnefkfkghaa.XW.leq Go.Proofs.Ytfdemnefkfkghaa.XW.gtr Go.Proofs.Ytfdemnefkfkghaa.XW.geq
set_option linter.unusedVariables false
set_option linter.unusedSimpArgs false

/-- A state of type 206 at block g of W; what its slices lead to came in by w0. -/
def IsS206 (w0 W : World) (g : Nat) (f0 : List Int) (f1 : Int) (f2 : Int) : Prop := ∃ A0 c0, W.heap[g]? = some (.cells #[.slice A0 f0.length c0, .int .i64 f1, .int .i64 f2] 206 (0, 0)) ∧ w0.heap.size ≤ g ∧ Kd.C (Kd.int .u8) w0 A0 f0.length f0 ∧ f0.length ≤ c0
theorem IsS206.grown {w0 W : World} {g : Nat} {f0 : List Int} {f1 : Int} {f2 : Int} {W1 : World} {row : Option Nat} (h : IsS206 w0 W g f0 f1 f2) (hw : W.grownBy W1 row) (hne : some g ≠ row) : IsS206 w0 W1 g f0 f1 f2 := by
  obtain ⟨A0, c0, hb, hg, hr0⟩ := h
  exact ⟨A0, c0, blk_grown hb hw hne, hg, hr0⟩
theorem IsS206.kept {w0 W : World} {g : Nat} {f0 : List Int} {f1 : Int} {f2 : Int} {W1 : World} {S : Nat → Prop} (h : IsS206 w0 W g f0 f1 f2) (hk : Kept W W1 S) (hne : ¬ S g) : IsS206 w0 W1 g f0 f1 f2 := by
  obtain ⟨A0, c0, hb, hg, hr0⟩ := h
  exact ⟨A0, c0, blk_kept hb hk hne, hg, hr0⟩
theorem IsS206.below {w0 W : World} {g : Nat} {f0 : List Int} {f1 : Int} {f2 : Int} {W1 : World} (h : IsS206 w0 W g f0 f1 f2) (hw : Below W.heap.size W W1) : IsS206 w0 W1 g f0 f1 f2 := h.grown (grown_of_below hw none) (by simp)
theorem IsS206.alloc {w0 W : World} {g : Nat} {f0 : List Int} {f1 : Int} {f2 : Int} (h : IsS206 w0 W g f0 f1 f2) (o : Obj) : IsS206 w0 (W.alloc o) g f0 f1 f2 := h.below (below_alloc (Below.refl _ _) o)
theorem IsS206.drewN {w0 W : World} {g : Nat} {f0 : List Int} {f1 : Int} {f2 : Int} (h : IsS206 w0 W g f0 f1 f2) (m : Nat) : IsS206 w0 (W.drewN m) g f0 f1 f2 := h
theorem IsS206.drew {w0 W : World} {g : Nat} {f0 : List Int} {f1 : Int} {f2 : Int} (h : IsS206 w0 W g f0 f1 f2) : IsS206 w0 W.drew g f0 f1 f2 := h
theorem IsS206.at_ {w0 W : World} {g : Nat} {f0 : List Int} {f1 : Int} {f2 : Int} {w' : World} {m : Nat} (hq : W.drewN m = w') (h : IsS206 w0 W g f0 f1 f2) : IsS206 w0 w' g f0 f1 f2 := by subst hq; exact IsS206.drewN h m
theorem IsS206.apart {w0 W : World} {g : Nat} {f0 : List Int} {f1 : Int} {f2 : Int} {α : Type} {d : Kd α} {e : Nat} {base : Nat} {ok : Nat → Prop} {v : Value} {xs : List α} (h : IsS206 w0 W g f0 f1 f2) (ho : d.R e W base ok v xs) (ht : ∀ q, q ∈ e :: d.E → q ≠ 206) : d.R e W base (fun k => ok k ∧ k ≠ g) v xs := by
  obtain ⟨A0, c0, hb, hg, hr0⟩ := h
  exact Kd.R_types ho hb ht
theorem IsS206.own_ne {w0 W : World} {g : Nat} {f0 : List Int} {f1 : Int} {f2 : Int} {α : Type} {d : Kd α} {e : Nat} {base : Nat} {ok : Nat → Prop} {v : Value} {xs : List α} (h : IsS206 w0 W g f0 f1 f2) (ho : d.R e W base ok v xs) (ht : e ≠ 206) : some g ≠ v.ownBlock := by
  obtain ⟨A0, c0, hb, hg, hr0⟩ := h
  exact Kd.R_ne ho hb ht
theorem IsS206.apartS {w0 W : World} {g : Nat} {f0 : List Int} {f1 : Int} {f2 : Int} {α : Type} {d : Kd α} {e : Nat} {base : Nat} {ok : Nat → Prop} {v : Value} {xs : List α} (h : IsS206 w0 W g f0 f1 f2) (ho : d.S e W base ok v xs) (ht : ∀ q, q ∈ e :: d.E → q ≠ 206) : d.S e W base (fun k => ok k ∧ k ≠ g) v xs := by
  obtain ⟨A0, c0, hb, hg, hr0⟩ := h
  exact Kd.S_types ho hb ht
theorem IsS206.own_neS {w0 W : World} {g : Nat} {f0 : List Int} {f1 : Int} {f2 : Int} {α : Type} {d : Kd α} {e : Nat} {base : Nat} {ok : Nat → Prop} {v : Value} {xs : List α} (h : IsS206 w0 W g f0 f1 f2) (ho : d.S e W base ok v xs) (ht : e ≠ 206) : some g ≠ v.ownBlock := by
  obtain ⟨A0, c0, hb, hg, hr0⟩ := h
  exact Kd.S_ne ho hb ht
theorem IsS206.lt {w0 W : World} {g : Nat} {f0 : List Int} {f1 : Int} {f2 : Int} (h : IsS206 w0 W g f0 f1 f2) : g < W.heap.size := by
  obtain ⟨A0, c0, hb, hg, hr0⟩ := h
  exact blk_lt hb
theorem IsS206.ge {w0 W : World} {g : Nat} {f0 : List Int} {f1 : Int} {f2 : Int} (h : IsS206 w0 W g f0 f1 f2) : w0.heap.size ≤ g := by
  obtain ⟨A0, c0, hb, hg, hr0⟩ := h
  exact hg
theorem IsS206.far {w0 W : World} {g : Nat} {f0 : List Int} {f1 : Int} {f2 : Int} {p : Addr} (h : IsS206 w0 W g f0 f1 f2) (hne : g ≠ p.block) (u : Value) : IsS206 w0 (W.setCell p u) g f0 f1 f2 := by
  obtain ⟨A0, c0, hb, hg, hr0⟩ := h
  exact ⟨A0, c0, blk_far hb hne u, hg, hr0⟩
theorem cellS206_0 {W : World} {g : Nat} {A0 : Option Addr} {c0 : Nat} {f0 : List Int} {f1 : Int} {f2 : Int} (h : W.heap[g]? = some (.cells #[.slice A0 f0.length c0, .int .i64 f1, .int .i64 f2] 206 (0, 0))) : W.cell? ⟨g, 0, none⟩ = some (.slice A0 f0.length c0) := (blk_cell h 0).trans rfl
theorem cellS206_1 {W : World} {g : Nat} {A0 : Option Addr} {c0 : Nat} {f0 : List Int} {f1 : Int} {f2 : Int} (h : W.heap[g]? = some (.cells #[.slice A0 f0.length c0, .int .i64 f1, .int .i64 f2] 206 (0, 0))) : W.cell? ⟨g, 1, none⟩ = some (.int .i64 f1) := (blk_cell h 1).trans rfl
theorem IsS206.set_1 {w0 W : World} {g : Nat} {f0 : List Int} {f1 : Int} {f2 : Int} (h : IsS206 w0 W g f0 f1 f2) (x : Int) : IsS206 w0 (W.setCell ⟨g, 1, none⟩ (.int .i64 x)) g f0 x f2 := by
  obtain ⟨A0, c0, hb, hg, hr0⟩ := h
  exact ⟨A0, c0, by simpa using blk_set hb 1 (.int .i64 x), hg, hr0⟩
theorem cellS206_2 {W : World} {g : Nat} {A0 : Option Addr} {c0 : Nat} {f0 : List Int} {f1 : Int} {f2 : Int} (h : W.heap[g]? = some (.cells #[.slice A0 f0.length c0, .int .i64 f1, .int .i64 f2] 206 (0, 0))) : W.cell? ⟨g, 2, none⟩ = some (.int .i64 f2) := (blk_cell h 2).trans rfl
theorem IsS206.set_2 {w0 W : World} {g : Nat} {f0 : List Int} {f1 : Int} {f2 : Int} (h : IsS206 w0 W g f0 f1 f2) (x : Int) : IsS206 w0 (W.setCell ⟨g, 2, none⟩ (.int .i64 x)) g f0 f1 x := by
  obtain ⟨A0, c0, hb, hg, hr0⟩ := h
  exact ⟨A0, c0, by simpa using blk_set hb 2 (.int .i64 x), hg, hr0⟩
theorem IsS206.new (w0 W : World) (A0 : Option Addr) (c0 : Nat) (f0 : List Int) (f1 : Int) (f2 : Int) (hB : Below w0.heap.size w0 W) (hr0 : Kd.C (Kd.int .u8) w0 A0 f0.length f0) (hc0 : f0.length ≤ c0) : IsS206 w0 (W.alloc (.cells #[.slice A0 f0.length c0, .int .i64 f1, .int .i64 f2] 206)) W.heap.size f0 f1 f2 := ⟨A0, c0, by simpa using heap_alloc_new W _, hB.size, hr0, hc0⟩

end Go.Proofs.Ytfdemnefkfkghaa.X
