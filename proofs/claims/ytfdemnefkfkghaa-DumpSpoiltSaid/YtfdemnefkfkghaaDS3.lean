/- Functions of the program as Lean functions, and that their calls come to them: written by xprint.py of this session, out of the kit's print program. -/
import Derived.Test.YtfdemnefkfkghaaDS0
import Derived.Test.YtfdemnefkfkghaaDS2
import Derived.Test.YtfdemnefkfkghaaDS1
import Derived.Test.YtfdemnefkfkghaaRows
namespace Go.Proofs.Ytfdemnefkfkghaa.X
open Go.RowKit Go.Proofs.YtfdemnefkfkghaaW.PrintWords Go.Proofs.YtfdemnefkfkghaaW.PrintLast Go.Proofs.YtfdemnefkfkghaaW.PrintMore
attribute [local go_sem] max2_int min2_int max_two min_two max_three min_three max_four min_four   -- for this text's walks alone
attribute [local go_sem high] Go.Proofs.Ytfdemnefkfkghaa.XW.leq Go.Proofs.Ytfdemnefkfkghaa.XW.gtr Go.Proofs.Ytfdemnefkfkghaa.XW.geq
set_option linter.unusedVariables false
set_option linter.unusedSimpArgs false

/-! ### dump_volumes: function 76 -/
mutual
def dump_volumes.l0 : Nat → List (S136) → Int → Int → List Int → Int → Int → Option ((List (S136)) × Int × Int)
  | 0, _, _, _, _, _, _ => none
  | k + 1, x3, x18, x19, x1000, x1001, x1002 => if x19 < x18 then ((pack_Reader_GetText.f x1000 x1001 x1002 16).bind fun bt106 => ((pack_Reader_Get32.f x1000 bt106.2.1 bt106.2.2).bind fun bt110 => (dump_volumes.l1 k x3 (⟨#[]⟩ : ByteArray) bt110.1 x18 x19 x1000 bt110.2.1 bt110.2.2 bt106.1 ([] : List (S145))))) else (some (x3, x1001, x1002))
def dump_volumes.l1 : Nat → List (S136) → ByteArray → Int → Int → Int → List Int → Int → Int → ByteArray → List (S145) → Option ((List (S136)) × Int × Int)
  | 0, _, _, _, _, _, _, _, _, _, _ => none
  | k + 1, x3, x6, x7, x18, x19, x1000, x1001, x1002, x110000, x110001 => if x7 > 0 then ((pack_Reader_Left.f x1000 x1001 x1002).bind fun bt116 => ((dump_pair.f x1000 bt116.2.1 bt116.2.2 x6).bind fun bt119 => ((pack_Reader_Left.f x1000 bt119.2.2.1 bt119.2.2.2).bind fun bt124 => (if bt124.1 = bt116.1 then (if x3.length < 3518437208883 then (dump_volumes.l0 k (x3 ++ [(⟨x110000, x110001⟩ : S136)]) x18 (wrap64 (x19 + 1)) x1000 bt124.2.1 bt124.2.2) else (none)) else (if x110001.length < 4398046511104 then (dump_volumes.l1 k x3 bt119.1 ((x7 - 1) % 4294967296) x18 x19 x1000 bt124.2.1 bt124.2.2 x110000 (x110001 ++ [(⟨bt119.1, bt119.2.1⟩ : S145)])) else (none)))))) else (if x3.length < 3518437208883 then (dump_volumes.l0 k (x3 ++ [(⟨x110000, x110001⟩ : S136)]) x18 (wrap64 (x19 + 1)) x1000 x1001 x1002) else (none))
end
def dump_volumes.f (k : Nat) (s0_0 : List Int) (s0_1 : Int) (s0_2 : Int) : Option ((List (S136)) × Int × Int) := (pack_Reader_Get8.f s0_0 s0_1 s0_2).bind fun bt101 => (if (wrap64 (bt101.1)) > 16 then ((pack_Reader_Fail.f s0_0 bt101.2.1 bt101.2.2 13).bind fun bt104 => (some (([] : List (S136)), bt104.1, bt104.2))) else (dump_volumes.l0 k ([] : List (S136)) (wrap64 (bt101.1)) 0 s0_0 bt101.2.1 bt101.2.2))
theorem dump_volumes.mono_l : ∀ k, (∀ y0 y1 y2 y3 y4 y5, LeO (dump_volumes.l0 k y0 y1 y2 y3 y4 y5) (dump_volumes.l0 (k + 1) y0 y1 y2 y3 y4 y5)) ∧ (∀ y0 y1 y2 y3 y4 y5 y6 y7 y8 y9, LeO (dump_volumes.l1 k y0 y1 y2 y3 y4 y5 y6 y7 y8 y9) (dump_volumes.l1 (k + 1) y0 y1 y2 y3 y4 y5 y6 y7 y8 y9))
  | 0 => ⟨fun _ _ _ _ _ _ r h => by simp [dump_volumes.l0] at h, fun _ _ _ _ _ _ _ _ _ _ r h => by simp [dump_volumes.l1] at h⟩
  | k + 1 => by
    obtain ⟨ih0, ih1⟩ := dump_volumes.mono_l k
    refine ⟨?_, ?_⟩
    · intro y0 y1 y2 y3 y4 y5
      unfold dump_volumes.l0
      repeat' first
      | (with_reducible exact ih0 _ _ _ _ _ _)
      | (with_reducible exact ih1 _ _ _ _ _ _ _ _ _ _)
      | (with_reducible exact LeO.refl _)
      | (with_reducible exact LeO.none _)
      | (with_reducible refine LeO.ite ?_ ?_)
      | (with_reducible refine LeO.bind ?_ (fun _ => ?_))
      | exact ih0 _ _ _ _ _ _
      | exact ih1 _ _ _ _ _ _ _ _ _ _
      | exact LeO.none _
      | refine LeO.ite ?_ ?_
      | refine LeO.bind ?_ (fun _ => ?_)
    · intro y0 y1 y2 y3 y4 y5 y6 y7 y8 y9
      unfold dump_volumes.l1
      repeat' first
      | (with_reducible exact ih0 _ _ _ _ _ _)
      | (with_reducible exact ih1 _ _ _ _ _ _ _ _ _ _)
      | (with_reducible exact LeO.refl _)
      | (with_reducible exact LeO.none _)
      | (with_reducible refine LeO.ite ?_ ?_)
      | (with_reducible refine LeO.bind ?_ (fun _ => ?_))
      | exact ih0 _ _ _ _ _ _
      | exact ih1 _ _ _ _ _ _ _ _ _ _
      | exact LeO.none _
      | refine LeO.ite ?_ ?_
      | refine LeO.bind ?_ (fun _ => ?_)
theorem dump_volumes.mono : ∀ a0 a1 a2 k, LeO (dump_volumes.f k a0 a1 a2) (dump_volumes.f (k + 1) a0 a1 a2) := by
  intro a0 a1 a2 k
  obtain ⟨ih0, ih1⟩ := dump_volumes.mono_l k
  unfold dump_volumes.f
  repeat' first
      | (with_reducible exact ih0 _ _ _ _ _ _)
      | (with_reducible exact ih1 _ _ _ _ _ _ _ _ _ _)
      | (with_reducible exact LeO.refl _)
      | (with_reducible exact LeO.none _)
      | (with_reducible refine LeO.ite ?_ ?_)
      | (with_reducible refine LeO.bind ?_ (fun _ => ?_))
      | exact ih0 _ _ _ _ _ _
      | exact ih1 _ _ _ _ _ _ _ _ _ _
      | exact LeO.none _
      | refine LeO.ite ?_ ?_
      | refine LeO.bind ?_ (fun _ => ?_)
set_option maxHeartbeats 8000000 in
set_option maxRecDepth 100000 in
theorem dump_volumes.calls (k : Nat) (g : Nat) (s0_0 : List Int) (s0_1 : Int) (s0_2 : Int) (r1 : List (S136)) (r2 : Int) (r3 : Int) (w0 w : World) (hI : IsS206 w0 w g s0_0 s0_1 s0_2) (hB : Below w0.heap.size w0 w) (h : dump_volumes.f k s0_0 s0_1 s0_2 = some (r1, r2, r3)) :
    Calls Try.prog 76 #[.pointer (some ⟨g, 0, none⟩)] w fun e w' => ∃ v0_ : Value, e = .returned (v0_) ∧ Kd.S k136 136 w' w.heap.size (fun _ => True) v0_ r1 ∧ IsS206 w0 w' g s0_0 r2 r3 ∧ Below w0.heap.size w0 w' ∧ KeepBut w w' g none := by
  have hu136 := Try.underlying136
  have hu145 := Try.underlying145
  have HI0 := Aside0.mk hI
  have HK := Aside0.mk (KeepBut.refl w g none)
  have HL := Aside0.mk hB.size
  clear hI
  have HW0 := Aside0.mk hB.size
  have HB := Aside0.mk hB
  clear hB
  have H : ((pack_Reader_Get8.f s0_0 s0_1 s0_2).bind fun bt101 => (if (wrap64 (bt101.1)) > 16 then ((pack_Reader_Fail.f s0_0 bt101.2.1 bt101.2.2 13).bind fun bt104 => (some (([] : List (S136)), bt104.1, bt104.2))) else (dump_volumes.l0 k ([] : List (S136)) (wrap64 (bt101.1)) 0 s0_0 bt101.2.1 bt101.2.2))) = some (r1, r2, r3) := h
  clear h
  replace H := Option.bind_eq_some_iff.mp H
  obtain ⟨⟨t101, t102, t103⟩, A20, H⟩ := H
  replace H : (if (wrap64 (t101)) > 16 then ((pack_Reader_Fail.f s0_0 t102 t103 13).bind fun bt104 => (some (([] : List (S136)), bt104.1, bt104.2))) else (dump_volumes.l0 k ([] : List (S136)) (wrap64 (t101)) 0 s0_0 t102 t103)) = some (r1, r2, r3) := H
  have A2 := Aside0.mk A20
  clear A20
  by_cases c3 : (wrap64 (t101)) > 16
  · rw [if_pos c3] at H
    have c3b0 : decide (16 < (wrap64 (t101))) = true := decide_eq_true c3
    clear c3
    replace H := Option.bind_eq_some_iff.mp H
    obtain ⟨⟨t104, t105⟩, A40, H⟩ := H
    replace H : (some (([] : List (S136)), t104, t105)) = some (r1, r2, r3) := H
    have A4 := Aside0.mk A40
    clear A40
    simp only [Option.some.injEq, Prod.mk.injEq] at H
    obtain ⟨rfl, rfl, rfl⟩ := H
    go_enter Try.func76, Try.ntmps76
    go_wp2_with (first | ((with_reducible refine gate_callee (f := 143) rfl ?_); refine goesL_ (some 11) rfl rfl Try.func143 (by kernel_rfl) rfl #[.pointer (some ⟨g, 0, none⟩)] rfl (by (try simp only [List.map_toArray, List.map_cons, List.map_nil]); first | done | rfl | (simp only [List.length_drop, List.length_take]; rfl)) ?_; (with_reducible refine (pack_Reader_Get8.calls g s0_0 s0_1 s0_2 t101 t102 t103 w0 _ ?side1 ?side2 A2.out).mono ?_); (case side1 => repeat (first | (with_reducible first | exact HI0.out | apply IsS206.alloc | apply IsS206.drewN | apply IsS206.drew | apply IsS206.set_1 | apply IsS206.set_2) | exact HI0.out)); (case side2 => repeat (first | (with_reducible first | exact HB.out | apply below_alloc | apply pw_below_drewN | apply below_drew1 | refine below_set ?_ (IsS206.ge HI0.out)) | exact HB.out)); rintro e w5 ⟨rfl, hi, hb, hk⟩; refine ⟨_, rfl, ?_⟩; have n0_ := Aside0.mk (KeepBut.trans (by repeat (first | (with_reducible first | exact HK.out | apply KeepBut.set_ | apply keep_drewN | apply keep_drew | apply keep_alloc) | exact HK.out)) hk (.inl rfl)); have n1_ := Aside0.mk (hb); have n2_ := Aside0.mk (hi); clear HK; clear HB; clear HI0; have HK := n0_; have HB := n1_; have HI0 := n2_; clear n0_ n1_ n2_; (try clear hb); (try clear hb2); (try clear hk); (try clear hi)) | ((with_reducible refine gate_callee (f := 144) rfl ?_); refine goesL_ (some 16) rfl rfl Try.func144 (by kernel_rfl) rfl #[.pointer (some ⟨g, 0, none⟩), .int .i64 13] rfl (by (try simp only [List.map_toArray, List.map_cons, List.map_nil]); first | done | rfl | (simp only [List.length_drop, List.length_take]; rfl)) ?_; (with_reducible refine (pack_Reader_Fail.calls g s0_0 t102 t103 13 t104 t105 w0 _ ?side1 ?side2 A4.out).mono ?_); (case side1 => repeat (first | (with_reducible first | exact HI0.out | apply IsS206.alloc | apply IsS206.drewN | apply IsS206.drew | apply IsS206.set_1 | apply IsS206.set_2) | exact HI0.out)); (case side2 => repeat (first | (with_reducible first | exact HB.out | apply below_alloc | apply pw_below_drewN | apply below_drew1 | refine below_set ?_ (IsS206.ge HI0.out)) | exact HB.out)); rintro e w6 ⟨rfl, hi, hb, hk⟩; refine ⟨_, rfl, ?_⟩; have n0_ := Aside0.mk (KeepBut.trans (by repeat (first | (with_reducible first | exact HK.out | apply KeepBut.set_ | apply keep_drewN | apply keep_drew | apply keep_alloc) | exact HK.out)) hk (.inl rfl)); have n1_ := Aside0.mk (hb); have n2_ := Aside0.mk (hi); clear HK; clear HB; clear HI0; have HK := n0_; have HB := n1_; have HI0 := n2_; clear n0_ n1_ n2_; (try clear hb); (try clear hb2); (try clear hk); (try clear hi)))
    go_ret
    exact ⟨_, by first | rfl | (simp [errW_none, errW_some] <;> rfl) | (simp [*, errW_none, errW_some] <;> rfl), by first | exact Kd.S_nil _ _ _ _ _ | exact Kd.N_nil _ _ _ _ _ | exact Kd.V_nil _ _ _ _ _ | exact Kd.Q_nil _ _ _ _ _ | exact Kd.R_nil _ _ _ _ _, by repeat (first | (with_reducible first | exact HI0.out | apply IsS206.alloc | apply IsS206.drewN | apply IsS206.drew | apply IsS206.set_1 | apply IsS206.set_2) | exact HI0.out), by repeat (first | (with_reducible first | exact HB.out | apply below_alloc | apply pw_below_drewN | apply below_drew1 | refine below_set ?_ (IsS206.ge HI0.out)) | exact HB.out), by repeat (first | (with_reducible first | exact HK.out | apply KeepBut.set_ | apply keep_drewN | apply keep_drew | apply keep_alloc) | exact HK.out)⟩
  · rw [if_neg c3] at H
    have c3b0 : decide (16 < (wrap64 (t101))) = false := decide_eq_false c3
    clear c3
    have H' := Aside0.mk H
    clear H
    go_enter Try.func76, Try.ntmps76
    go_wp2_with (first | ((with_reducible refine gate_callee (f := 143) rfl ?_); refine goesL_ (some 11) rfl rfl Try.func143 (by kernel_rfl) rfl #[.pointer (some ⟨g, 0, none⟩)] rfl (by (try simp only [List.map_toArray, List.map_cons, List.map_nil]); first | done | rfl | (simp only [List.length_drop, List.length_take]; rfl)) ?_; (with_reducible refine (pack_Reader_Get8.calls g s0_0 s0_1 s0_2 t101 t102 t103 w0 _ ?side1 ?side2 A2.out).mono ?_); (case side1 => repeat (first | (with_reducible first | exact HI0.out | apply IsS206.alloc | apply IsS206.drewN | apply IsS206.drew | apply IsS206.set_1 | apply IsS206.set_2) | exact HI0.out)); (case side2 => repeat (first | (with_reducible first | exact HB.out | apply below_alloc | apply pw_below_drewN | apply below_drew1 | refine below_set ?_ (IsS206.ge HI0.out)) | exact HB.out)); rintro e w7 ⟨rfl, hi, hb, hk⟩; refine ⟨_, rfl, ?_⟩; have n0_ := Aside0.mk (KeepBut.trans (by repeat (first | (with_reducible first | exact HK.out | apply KeepBut.set_ | apply keep_drewN | apply keep_drew | apply keep_alloc) | exact HK.out)) hk (.inl rfl)); have n1_ := Aside0.mk (hb); have n2_ := Aside0.mk (hi); clear HK; clear HB; clear HI0; have HK := n0_; have HB := n1_; have HI0 := n2_; clear n0_ n1_ n2_; (try clear hb); (try clear hb2); (try clear hk); (try clear hi)))
    go_loopg [3, 19] k (fun kq v3 v19 w' => ∃ (x3_1 : List (S136)) (x19_1 : Int) (x1001_1 : Int) (x1002_1 : Int), v19 = .int .i64 x19_1 ∧ Aside0 (dump_volumes.l0 kq x3_1 (wrap64 (t101)) x19_1 s0_0 x1001_1 x1002_1 = some (r1, r2, r3)) ∧ Aside0 (kq ≤ k) ∧ Aside0 (Kd.S k136 136 w' w.heap.size (fun _ => True) v3 x3_1) ∧ Aside0 (IsS206 w0 w' g s0_0 x1001_1 x1002_1) ∧ Aside0 (KeepBut w w' g none) ∧ Aside0 (Below w0.heap.size w0 w'))
    case atStart => exact ⟨(([] : List (S136))), (0), (t102), (t103), (by first | rfl | (simp; done) | (simp [*]; done)), H', ⟨Nat.le_refl _⟩, ⟨by first | exact Kd.S_nil _ _ _ _ _ | exact Kd.N_nil _ _ _ _ _ | exact Kd.V_nil _ _ _ _ _ | exact Kd.Q_nil _ _ _ _ _ | exact Kd.R_nil _ _ _ _ _⟩, ⟨by repeat (first | (with_reducible first | exact HI0.out | apply IsS206.alloc | apply IsS206.drewN | apply IsS206.drew | apply IsS206.set_1 | apply IsS206.set_2) | exact HI0.out)⟩, ⟨by repeat (first | (with_reducible first | exact HK.out | apply KeepBut.set_ | apply keep_drewN | apply keep_drew | apply keep_alloc) | exact HK.out)⟩, ⟨by repeat (first | (with_reducible first | exact HB.out | apply below_alloc | apply pw_below_drewN | apply below_drew1 | refine below_set ?_ (IsS206.ge HI0.out)) | exact HB.out)⟩⟩
    case round =>
      clear H'
      try clear c1
      try clear p2
      try clear c3
      try clear c3b0
      try clear p6
      try clear c7
      obtain ⟨x3_1, x19_1, x1001_1, x1002_1, rfl, HA, HK1, HO_3, HI0, HK, HB⟩ := hrel
      cases gk with
      | zero => exact absurd HA.out (by simp [dump_volumes.l0])
      | succ k1 =>
        have H := HA.out
        clear HA
        simp only [dump_volumes.l0] at H
        by_cases c8 : x19_1 < (wrap64 (t101))
        · rw [if_pos c8] at H
          have c8b0 : decide (x19_1 < (wrap64 (t101))) = true := decide_eq_true c8
          clear c8
          replace H := Option.bind_eq_some_iff.mp H
          obtain ⟨⟨t106, t107, t108⟩, A90, H⟩ := H
          replace H : ((pack_Reader_Get32.f s0_0 t107 t108).bind fun bt110 => (dump_volumes.l1 k1 x3_1 (⟨#[]⟩ : ByteArray) bt110.1 (wrap64 (t101)) x19_1 s0_0 bt110.2.1 bt110.2.2 t106 ([] : List (S145)))) = some (r1, r2, r3) := H
          have A9 := Aside0.mk A90
          clear A90
          replace H := Option.bind_eq_some_iff.mp H
          obtain ⟨⟨t110, t111, t112⟩, A100, H⟩ := H
          replace H : (dump_volumes.l1 k1 x3_1 (⟨#[]⟩ : ByteArray) t110 (wrap64 (t101)) x19_1 s0_0 t111 t112 t106 ([] : List (S145))) = some (r1, r2, r3) := H
          have A10 := Aside0.mk A100
          clear A100
          have H' := Aside0.mk H
          clear H
          go_wp2_with (first | ((with_reducible refine gate_callee (f := 145) rfl ?_); refine goesL_ (some 22) rfl rfl Try.func145 (by kernel_rfl) rfl #[.pointer (some ⟨g, 0, none⟩), .int .i64 16] rfl (by (try simp only [List.map_toArray, List.map_cons, List.map_nil]); first | done | rfl | (simp only [List.length_drop, List.length_take]; rfl)) ?_; (with_reducible refine (pack_Reader_GetText.calls g s0_0 x1001_1 x1002_1 16 t106 t107 t108 w0 _ ?side1 ?side2 A9.out).mono ?_); (case side1 => repeat (first | (with_reducible first | exact HI0.out | apply IsS206.alloc | apply IsS206.drewN | apply IsS206.drew | apply IsS206.set_1 | apply IsS206.set_2) | exact HI0.out)); (case side2 => repeat (first | (with_reducible first | exact HB.out | apply below_alloc | apply pw_below_drewN | apply below_drew1 | refine below_set ?_ (IsS206.ge HI0.out)) | exact HB.out)); rintro e w11 ⟨rfl, hi, hb, hk⟩; refine ⟨_, rfl, ?_⟩; have n0_ := Aside0.mk (Kd.S_mono (Kd.S_keep (IsS206.apartS (show IsS206 w0 _ g s0_0 x1001_1 x1002_1 from by repeat (first | (with_reducible first | exact HI0.out | apply IsS206.alloc | apply IsS206.drewN | apply IsS206.drew | apply IsS206.set_1 | apply IsS206.set_2) | exact HI0.out)) (by (with_reducible repeat (first | apply Kd.S_alloc | apply Kd.S_drewN | apply Kd.S_drew)); exact HO_3.out) (by decide)) hk (fun _ h => h.2)) (fun _ h => h.1)); have n1_ := Aside0.mk (KeepBut.trans (by repeat (first | (with_reducible first | exact HK.out | apply KeepBut.set_ | apply keep_drewN | apply keep_drew | apply keep_alloc) | exact HK.out)) hk (.inl rfl)); have n2_ := Aside0.mk (hb); have n3_ := Aside0.mk (hi); clear HO_3; clear HK; clear HB; clear HI0; have HO_3 := n0_; have HK := n1_; have HB := n2_; have HI0 := n3_; clear n0_ n1_ n2_ n3_; (try clear hb); (try clear hb2); (try clear hk); (try clear hi)) | ((with_reducible refine gate_dst (N := 5) rfl ?_); refine box_event ?hg (N := 5) ?hd (cs := #[.string (⟨#[]⟩ : ByteArray), .slice none 0 0]) (t := 136) ?hr ?_; (case hd => rfl); (case hg => rfl); (case hr => first | (go_simp; done) | (go_simp; rfl)); intro gb109 hg w12 hbox hb; have n0_ := Aside0.mk (Kd.S_below (Kd.S_elderB (by (with_reducible repeat (first | apply Kd.S_alloc | apply Kd.S_drewN | apply Kd.S_drew)); exact HO_3.out) gb109 (Nat.le_of_eq hg.symm)) hb); have n1_ := Aside0.mk (IsS206.below (by repeat (first | (with_reducible first | exact HI0.out | apply IsS206.alloc | apply IsS206.drewN | apply IsS206.drew | apply IsS206.set_1 | apply IsS206.set_2) | exact HI0.out)) hb); have n2_ := Aside0.mk (KeepBut.trans (by repeat (first | (with_reducible first | exact HK.out | apply KeepBut.set_ | apply keep_drewN | apply keep_drew | apply keep_alloc) | exact HK.out)) (KeepBut.of_below hb g none) (.inl rfl)); have n3_ := Aside0.mk (below_step (by repeat (first | (with_reducible first | exact HB.out | apply below_alloc | apply pw_below_drewN | apply below_drew1 | refine below_set ?_ (IsS206.ge HI0.out)) | exact HB.out)) hb); have n4_ := Aside0.mk (hbox); have n5_ := Aside0.mk ((by rw [hg]; exact (keep_size (w := w) (g := g) (row := none) (by repeat (first | (with_reducible first | exact HK.out | apply KeepBut.set_ | apply keep_drewN | apply keep_drew | apply keep_alloc) | exact HK.out))) : w.heap.size ≤ gb109)); have n6_ := Aside0.mk ((Nat.le_trans HW0.out (by rw [hg]; exact (keep_size (w := w) (g := g) (row := none) (by repeat (first | (with_reducible first | exact HK.out | apply KeepBut.set_ | apply keep_drewN | apply keep_drew | apply keep_alloc) | exact HK.out))) : w.heap.size ≤ gb109) : w0.heap.size ≤ gb109)); have n7_ := Aside0.mk ((by rw [hg]; exact Nat.ne_of_lt (IsS206.lt (show IsS206 w0 _ g s0_0 t107 t108 from by repeat (first | (with_reducible first | exact HI0.out | apply IsS206.alloc | apply IsS206.drewN | apply IsS206.drew | apply IsS206.set_1 | apply IsS206.set_2) | exact HI0.out))) : g ≠ gb109)); have n8_ := Aside0.mk ((by rw [hg]; exact Nat.ne_of_gt (IsS206.lt (show IsS206 w0 _ g s0_0 t107 t108 from by repeat (first | (with_reducible first | exact HI0.out | apply IsS206.alloc | apply IsS206.drewN | apply IsS206.drew | apply IsS206.set_1 | apply IsS206.set_2) | exact HI0.out))) : gb109 ≠ g)); clear HO_3; clear HI0; clear HK; clear HB; have HO_3 := n0_; have HI0 := n1_; have HK := n2_; have HB := n3_; have BK109 := n4_; have GW109 := n5_; have GE109 := n6_; have NB0_109 := n7_; have NB109_0 := n8_; clear n0_ n1_ n2_ n3_ n4_ n5_ n6_ n7_ n8_; clear hb hbox hg; have hnb13 := NB109_0.out; have hnc13 := NB0_109.out; have hcz14_0 : w12.cell? ⟨gb109, 0, none⟩ = some (.string (⟨#[]⟩ : ByteArray)) := (blk_cell BK109.out 0).trans rfl; have hcz14_1 : w12.cell? ⟨gb109, 1, none⟩ = some (.slice none 0 0) := (blk_cell BK109.out 1).trans rfl; have hfz14_0 := blk_frozen BK109.out 0; have hfz14_1 := blk_frozen BK109.out 1) | ((with_reducible refine gate_callee (f := 146) rfl ?_); refine goesL_ (some 25) rfl rfl Try.func146 (by kernel_rfl) rfl #[.pointer (some ⟨g, 0, none⟩)] rfl (by (try simp only [List.map_toArray, List.map_cons, List.map_nil]); first | done | rfl | (simp only [List.length_drop, List.length_take]; rfl)) ?_; (with_reducible refine (pack_Reader_Get32.calls g s0_0 t107 t108 t110 t111 t112 w0 _ ?side1 ?side2 A10.out).mono ?_); (case side1 => repeat (first | (with_reducible first | exact HI0.out | apply IsS206.alloc | apply IsS206.drewN | apply IsS206.drew | apply IsS206.set_1 | apply IsS206.set_2 | refine IsS206.far ?_ NB0_109.out _) | exact HI0.out)); (case side2 => repeat (first | (with_reducible first | exact HB.out | apply below_alloc | apply pw_below_drewN | apply below_drew1 | refine below_set ?_ (IsS206.ge HI0.out) | refine below_set ?_ GE109.out) | exact HB.out)); rintro e w15 ⟨rfl, hi, hb, hk⟩; refine ⟨_, rfl, ?_⟩; have n0_ := Aside0.mk (Kd.S_mono (Kd.S_keep (IsS206.apartS (show IsS206 w0 _ g s0_0 t107 t108 from by repeat (first | (with_reducible first | exact HI0.out | apply IsS206.alloc | apply IsS206.drewN | apply IsS206.drew | apply IsS206.set_1 | apply IsS206.set_2 | refine IsS206.far ?_ NB0_109.out _) | exact HI0.out)) (by (with_reducible repeat (first | apply Kd.S_alloc | apply Kd.S_drewN | apply Kd.S_drew)); exact (Kd.S_mono (Kd.S_far (p := ⟨gb109, 1, none⟩) (Kd.S_far (p := ⟨gb109, 0, none⟩) (Kd.S_mono HO_3.out (fun k_ hk => (⟨hk, hk.2⟩ : _ ∧ k_ ≠ gb109))) (fun _ hk => hk.2) (.string t106)) (fun _ hk => hk.2) (.slice none 0 0)) (fun _ h_ => h_.1))) (by decide)) hk (fun _ h => h.2)) (fun _ h => h.1)); have n1_ := Aside0.mk (KeepBut.blk hk (g' := gb109) (o := .cells #[.string t106, .slice none 0 0] 136 (0, 0)) (by (with_reducible repeat (first | refine blk_drewN ?_ _ | refine blk_drew ?_ | refine blk_alloc ?_ _)); refine blk_put (cs := #[.string t106, .slice none 0 0]) ?_ 1 _ rfl; (with_reducible repeat (first | refine blk_drewN ?_ _ | refine blk_drew ?_ | refine blk_alloc ?_ _)); refine blk_put (cs := #[.string (⟨#[]⟩ : ByteArray), .slice none 0 0]) ?_ 0 _ rfl; (with_reducible repeat (first | refine blk_drewN ?_ _ | refine blk_drew ?_ | refine blk_alloc ?_ _)); exact BK109.out) NB109_0.out (by simp)); have n2_ := Aside0.mk (KeepBut.trans (by repeat (first | (with_reducible first | exact HK.out | apply KeepBut.set_ | apply keep_drewN | apply keep_drew | apply keep_alloc | refine keep_far ?_ GW109.out _) | exact HK.out)) hk (.inl rfl)); have n3_ := Aside0.mk (hb); have n4_ := Aside0.mk (hi); clear HO_3; clear BK109; clear HK; clear HB; clear HI0; have HO_3 := n0_; have BK109 := n1_; have HK := n2_; have HB := n3_; have HI0 := n4_; clear n0_ n1_ n2_ n3_ n4_; (try clear hb); (try clear hb2); (try clear hk); (try clear hi)))
          go_loopg [6, 7] k1 (fun kq v6 v7 w' => ∃ (x6_2 : ByteArray) (x7_2 : Int) (x1001_2 : Int) (x1002_2 : Int) (x110001_2 : List (S145)) (u110001 : Value), v6 = .string x6_2 ∧ v7 = .int .u32 x7_2 ∧ Aside0 (dump_volumes.l1 kq x3_1 x6_2 x7_2 (wrap64 (t101)) x19_1 s0_0 x1001_2 x1002_2 t106 x110001_2 = some (r1, r2, r3)) ∧ Aside0 (kq ≤ k1) ∧ Aside0 (Kd.S k136 136 w' w.heap.size (fun k_ => some k_ ≠ (u110001 : Value).ownBlock ∧ k_ ≠ gb109) u3 x3_1) ∧ Aside0 (Kd.R k145 145 w' w.heap.size (fun _ => True) u110001 x110001_2) ∧ Aside0 (w'.heap[gb109]? = some (.cells #[.string t106, u110001] 136 (0, 0))) ∧ Aside0 (IsS206 w0 w' g s0_0 x1001_2 x1002_2) ∧ Aside0 (KeepBut w w' g none) ∧ Aside0 (Below w0.heap.size w0 w'))
          case atStart => exact ⟨((⟨#[]⟩ : ByteArray)), (t110), (t111), (t112), (([] : List (S145))), (.slice none 0 0), (by first | rfl | (simp; done) | (simp [*]; done)), (by first | rfl | (simp; done) | (simp [*]; done)), H', ⟨Nat.le_refl _⟩, ⟨by (with_reducible repeat (first | apply Kd.S_alloc | apply Kd.S_drewN | apply Kd.S_drew)); exact Kd.S_mono HO_3.out (fun _ hk => ⟨(by simp [Value.ownBlock]), hk.2⟩)⟩, ⟨by first | exact Kd.R_nil _ _ _ _ _ | exact Kd.N_nil _ _ _ _ _ | exact Kd.V_nil _ _ _ _ _ | exact Kd.Q_nil _ _ _ _ _ | exact Kd.S_nil _ _ _ _ _⟩, ⟨by (with_reducible repeat (first | refine blk_drewN ?_ _ | refine blk_drew ?_ | refine blk_alloc ?_ _)); exact BK109.out⟩, ⟨by repeat (first | (with_reducible first | exact HI0.out | apply IsS206.alloc | apply IsS206.drewN | apply IsS206.drew | apply IsS206.set_1 | apply IsS206.set_2 | refine IsS206.far ?_ NB0_109.out _) | exact HI0.out)⟩, ⟨by repeat (first | (with_reducible first | exact HK.out | apply KeepBut.set_ | apply keep_drewN | apply keep_drew | apply keep_alloc | refine keep_far ?_ GW109.out _) | exact HK.out)⟩, ⟨by repeat (first | (with_reducible first | exact HB.out | apply below_alloc | apply pw_below_drewN | apply below_drew1 | refine below_set ?_ (IsS206.ge HI0.out) | refine below_set ?_ GE109.out) | exact HB.out)⟩⟩
          case round =>
            clear H'
            try clear c1
            try clear p2
            try clear c3
            try clear c3b0
            try clear p6
            try clear c7
            try clear c8
            try clear c8b0
            try clear c13
            try clear c14
            try clear hcz14_0
            try clear hcz14_1
            try clear hfz14_0
            try clear hfz14_1
            try clear p2
            try clear p6
            obtain ⟨x6_2, x7_2, x1001_2, x1002_2, x110001_2, u110001, rfl, rfl, HA, HK2, HO_3, HO_110001, BK109, HI0, HK, HB⟩ := hrel
            cases gk with
            | zero => exact absurd HA.out (by simp [dump_volumes.l1])
            | succ k2 =>
              have H := HA.out
              clear HA
              simp only [dump_volumes.l1] at H
              by_cases c16 : x7_2 > 0
              · rw [if_pos c16] at H
                have c16b0 : decide (0 < x7_2) = true := decide_eq_true c16
                clear c16
                replace H := Option.bind_eq_some_iff.mp H
                obtain ⟨⟨t116, t117, t118⟩, A170, H⟩ := H
                replace H : ((dump_pair.f s0_0 t117 t118 x6_2).bind fun bt119 => ((pack_Reader_Left.f s0_0 bt119.2.2.1 bt119.2.2.2).bind fun bt124 => (if bt124.1 = t116 then (if x3_1.length < 3518437208883 then (dump_volumes.l0 k2 (x3_1 ++ [(⟨t106, x110001_2⟩ : S136)]) (wrap64 (t101)) (wrap64 (x19_1 + 1)) s0_0 bt124.2.1 bt124.2.2) else (none)) else (if x110001_2.length < 4398046511104 then (dump_volumes.l1 k2 x3_1 bt119.1 ((x7_2 - 1) % 4294967296) (wrap64 (t101)) x19_1 s0_0 bt124.2.1 bt124.2.2 t106 (x110001_2 ++ [(⟨bt119.1, bt119.2.1⟩ : S145)])) else (none))))) = some (r1, r2, r3) := H
                have A17 := Aside0.mk A170
                clear A170
                replace H := Option.bind_eq_some_iff.mp H
                obtain ⟨⟨t119, t120, t121, t122⟩, A180, H⟩ := H
                replace H : ((pack_Reader_Left.f s0_0 t121 t122).bind fun bt124 => (if bt124.1 = t116 then (if x3_1.length < 3518437208883 then (dump_volumes.l0 k2 (x3_1 ++ [(⟨t106, x110001_2⟩ : S136)]) (wrap64 (t101)) (wrap64 (x19_1 + 1)) s0_0 bt124.2.1 bt124.2.2) else (none)) else (if x110001_2.length < 4398046511104 then (dump_volumes.l1 k2 x3_1 t119 ((x7_2 - 1) % 4294967296) (wrap64 (t101)) x19_1 s0_0 bt124.2.1 bt124.2.2 t106 (x110001_2 ++ [(⟨t119, t120⟩ : S145)])) else (none)))) = some (r1, r2, r3) := H
                have A18 := Aside0.mk A180
                clear A180
                replace H := Option.bind_eq_some_iff.mp H
                obtain ⟨⟨t124, t125, t126⟩, A190, H⟩ := H
                replace H : (if t124 = t116 then (if x3_1.length < 3518437208883 then (dump_volumes.l0 k2 (x3_1 ++ [(⟨t106, x110001_2⟩ : S136)]) (wrap64 (t101)) (wrap64 (x19_1 + 1)) s0_0 t125 t126) else (none)) else (if x110001_2.length < 4398046511104 then (dump_volumes.l1 k2 x3_1 t119 ((x7_2 - 1) % 4294967296) (wrap64 (t101)) x19_1 s0_0 t125 t126 t106 (x110001_2 ++ [(⟨t119, t120⟩ : S145)])) else (none))) = some (r1, r2, r3) := H
                have A19 := Aside0.mk A190
                clear A190
                by_cases c20 : t124 = t116
                · rw [if_pos c20] at H
                  have c20b0 : (t124 == t116) = true := beq_iff_eq.mpr c20
                  have c20b1 : (t124 != t116) = false := bne_eq_false_iff_eq.mpr c20
                  clear c20
                  by_cases c21 : x3_1.length < 3518437208883
                  · rw [if_pos c21] at H
                    have LMc21 := Aside0.mk c21
                    clear c21
                    obtain ⟨y127, hy127⟩ : ∃ y_ : List (S136), y_ = (x3_1 ++ [(⟨t106, x110001_2⟩ : S136)]) := ⟨_, rfl⟩
                    replace H : (dump_volumes.l0 k2 y127 (wrap64 (t101)) (wrap64 (x19_1 + 1)) s0_0 t125 t126) = some (r1, r2, r3) := by first | (rw [hy127]; with_reducible exact H) | (have H2_ := (Option.bind_some _ _).symm.trans H; rw [hy127]; with_reducible exact H2_) | (have H2_ := (Option.bind_some _ _).symm.trans H; with_reducible exact H2_) | with_reducible exact H | (rw [hy127]; exact H) | exact H
                    have Ny127 := Aside0.mk hy127
                    clear hy127
                    have H' := Aside0.mk H
                    clear H
                    go_wp2_with (first | ((with_reducible refine gate_callee (f := 147) rfl ?_); refine goesL_ (some 31) rfl rfl Try.func147 (by kernel_rfl) rfl #[.pointer (some ⟨g, 0, none⟩)] rfl (by (try simp only [List.map_toArray, List.map_cons, List.map_nil]); first | done | rfl | (simp only [List.length_drop, List.length_take]; rfl)) ?_; (with_reducible refine (pack_Reader_Left.calls g s0_0 x1001_2 x1002_2 t116 t117 t118 w0 _ ?side1 ?side2 A17.out).mono ?_); (case side1 => repeat (first | (with_reducible first | exact HI0.out | apply IsS206.alloc | apply IsS206.drewN | apply IsS206.drew | apply IsS206.set_1 | apply IsS206.set_2 | refine IsS206.far ?_ NB0_109.out _) | exact HI0.out)); (case side2 => repeat (first | (with_reducible first | exact HB.out | apply below_alloc | apply pw_below_drewN | apply below_drew1 | refine below_set ?_ (IsS206.ge HI0.out) | refine below_set ?_ GE109.out) | exact HB.out)); rintro e w22 ⟨rfl, hi, hb, hk⟩; refine ⟨_, rfl, ?_⟩; have n0_ := Aside0.mk (Kd.S_mono (Kd.S_keep (IsS206.apartS (show IsS206 w0 _ g s0_0 x1001_2 x1002_2 from by repeat (first | (with_reducible first | exact HI0.out | apply IsS206.alloc | apply IsS206.drewN | apply IsS206.drew | apply IsS206.set_1 | apply IsS206.set_2 | refine IsS206.far ?_ NB0_109.out _) | exact HI0.out)) (by (with_reducible repeat (first | apply Kd.S_alloc | apply Kd.S_drewN | apply Kd.S_drew)); exact HO_3.out) (by decide)) hk (fun _ h => h.2)) (fun _ h => h.1)); have n1_ := Aside0.mk (Kd.R_mono (Kd.R_keep (IsS206.apart (show IsS206 w0 _ g s0_0 x1001_2 x1002_2 from by repeat (first | (with_reducible first | exact HI0.out | apply IsS206.alloc | apply IsS206.drewN | apply IsS206.drew | apply IsS206.set_1 | apply IsS206.set_2 | refine IsS206.far ?_ NB0_109.out _) | exact HI0.out)) (by (with_reducible repeat (first | apply Kd.R_alloc | apply Kd.R_drewN | apply Kd.R_drew)); exact HO_110001.out) (by decide)) hk (fun _ h => h.2)) (fun _ h => h.1)); have n2_ := Aside0.mk (KeepBut.blk hk (g' := gb109) (o := .cells #[.string t106, u110001] 136 (0, 0)) (by (with_reducible repeat (first | refine blk_drewN ?_ _ | refine blk_drew ?_ | refine blk_alloc ?_ _)); exact BK109.out) NB109_0.out (by simp)); have n3_ := Aside0.mk (KeepBut.trans (by repeat (first | (with_reducible first | exact HK.out | apply KeepBut.set_ | apply keep_drewN | apply keep_drew | apply keep_alloc | refine keep_far ?_ GW109.out _) | exact HK.out)) hk (.inl rfl)); have n4_ := Aside0.mk (hb); have n5_ := Aside0.mk (hi); clear HO_3; clear HO_110001; clear BK109; clear HK; clear HB; clear HI0; have HO_3 := n0_; have HO_110001 := n1_; have BK109 := n2_; have HK := n3_; have HB := n4_; have HI0 := n5_; clear n0_ n1_ n2_ n3_ n4_ n5_; (try clear hb); (try clear hb2); (try clear hk); (try clear hi)) | ((with_reducible refine gate_callee (f := 148) rfl ?_); refine goesL_ (some 34) rfl rfl Try.func148 (by kernel_rfl) rfl #[.pointer (some ⟨g, 0, none⟩), .string x6_2] rfl (by (try simp only [List.map_toArray, List.map_cons, List.map_nil]); first | done | rfl | (simp only [List.length_drop, List.length_take]; rfl)) ?_; (with_reducible refine (dump_pair.calls g s0_0 t117 t118 x6_2 t119 t120 t121 t122 w0 _ ?side1 ?side2 A18.out).mono ?_); (case side1 => repeat (first | (with_reducible first | exact HI0.out | apply IsS206.alloc | apply IsS206.drewN | apply IsS206.drew | apply IsS206.set_1 | apply IsS206.set_2 | refine IsS206.far ?_ NB0_109.out _) | exact HI0.out)); (case side2 => repeat (first | (with_reducible first | exact HB.out | apply below_alloc | apply pw_below_drewN | apply below_drew1 | refine below_set ?_ (IsS206.ge HI0.out) | refine below_set ?_ GE109.out) | exact HB.out)); rintro e w23 ⟨rfl, hi, hb, hk⟩; refine ⟨_, rfl, ?_⟩; have n0_ := Aside0.mk (Kd.S_mono (Kd.S_keep (IsS206.apartS (show IsS206 w0 _ g s0_0 t117 t118 from by repeat (first | (with_reducible first | exact HI0.out | apply IsS206.alloc | apply IsS206.drewN | apply IsS206.drew | apply IsS206.set_1 | apply IsS206.set_2 | refine IsS206.far ?_ NB0_109.out _) | exact HI0.out)) (by (with_reducible repeat (first | apply Kd.S_alloc | apply Kd.S_drewN | apply Kd.S_drew)); exact HO_3.out) (by decide)) hk (fun _ h => h.2)) (fun _ h => h.1)); have n1_ := Aside0.mk (Kd.R_mono (Kd.R_keep (IsS206.apart (show IsS206 w0 _ g s0_0 t117 t118 from by repeat (first | (with_reducible first | exact HI0.out | apply IsS206.alloc | apply IsS206.drewN | apply IsS206.drew | apply IsS206.set_1 | apply IsS206.set_2 | refine IsS206.far ?_ NB0_109.out _) | exact HI0.out)) (by (with_reducible repeat (first | apply Kd.R_alloc | apply Kd.R_drewN | apply Kd.R_drew)); exact HO_110001.out) (by decide)) hk (fun _ h => h.2)) (fun _ h => h.1)); have n2_ := Aside0.mk (KeepBut.blk hk (g' := gb109) (o := .cells #[.string t106, u110001] 136 (0, 0)) (by (with_reducible repeat (first | refine blk_drewN ?_ _ | refine blk_drew ?_ | refine blk_alloc ?_ _)); exact BK109.out) NB109_0.out (by simp)); have n3_ := Aside0.mk (KeepBut.trans (by repeat (first | (with_reducible first | exact HK.out | apply KeepBut.set_ | apply keep_drewN | apply keep_drew | apply keep_alloc | refine keep_far ?_ GW109.out _) | exact HK.out)) hk (.inl rfl)); have n4_ := Aside0.mk (hb); have n5_ := Aside0.mk (hi); clear HO_3; clear HO_110001; clear BK109; clear HK; clear HB; clear HI0; have HO_3 := n0_; have HO_110001 := n1_; have BK109 := n2_; have HK := n3_; have HB := n4_; have HI0 := n5_; clear n0_ n1_ n2_ n3_ n4_ n5_; (try clear hb); (try clear hb2); (try clear hk); (try clear hi)) | ((with_reducible refine gate_dst (N := 9) rfl ?_); refine box_event ?hg (N := 9) ?hd (cs := #[.string (⟨#[]⟩ : ByteArray), .string (⟨#[]⟩ : ByteArray)]) (t := 145) ?hr ?_; (case hd => rfl); (case hg => rfl); (case hr => first | (go_simp; done) | (go_simp; rfl)); intro gb123 hg w24 hbox hb; have n0_ := Aside0.mk (Kd.S_below (Kd.S_elderB (by (with_reducible repeat (first | apply Kd.S_alloc | apply Kd.S_drewN | apply Kd.S_drew)); exact HO_3.out) gb123 (Nat.le_of_eq hg.symm)) hb); have n1_ := Aside0.mk (Kd.R_below (Kd.R_elderB (by (with_reducible repeat (first | apply Kd.R_alloc | apply Kd.R_drewN | apply Kd.R_drew)); exact HO_110001.out) gb123 (Nat.le_of_eq hg.symm)) hb); have n2_ := Aside0.mk (blk_below (g := gb109) (o := .cells #[.string t106, u110001] 136 (0, 0)) (by (with_reducible repeat (first | refine blk_drewN ?_ _ | refine blk_drew ?_ | refine blk_alloc ?_ _)); exact BK109.out) hb); have n3_ := Aside0.mk (IsS206.below (by repeat (first | (with_reducible first | exact HI0.out | apply IsS206.alloc | apply IsS206.drewN | apply IsS206.drew | apply IsS206.set_1 | apply IsS206.set_2 | refine IsS206.far ?_ NB0_109.out _) | exact HI0.out)) hb); have n4_ := Aside0.mk (KeepBut.trans (by repeat (first | (with_reducible first | exact HK.out | apply KeepBut.set_ | apply keep_drewN | apply keep_drew | apply keep_alloc | refine keep_far ?_ GW109.out _) | exact HK.out)) (KeepBut.of_below hb g none) (.inl rfl)); have n5_ := Aside0.mk (below_step (by repeat (first | (with_reducible first | exact HB.out | apply below_alloc | apply pw_below_drewN | apply below_drew1 | refine below_set ?_ (IsS206.ge HI0.out) | refine below_set ?_ GE109.out) | exact HB.out)) hb); have n6_ := Aside0.mk (hbox); have n7_ := Aside0.mk ((by rw [hg]; exact (keep_size (w := w) (g := g) (row := none) (by repeat (first | (with_reducible first | exact HK.out | apply KeepBut.set_ | apply keep_drewN | apply keep_drew | apply keep_alloc | refine keep_far ?_ GW109.out _) | exact HK.out))) : w.heap.size ≤ gb123)); have n8_ := Aside0.mk ((Nat.le_trans HW0.out (by rw [hg]; exact (keep_size (w := w) (g := g) (row := none) (by repeat (first | (with_reducible first | exact HK.out | apply KeepBut.set_ | apply keep_drewN | apply keep_drew | apply keep_alloc | refine keep_far ?_ GW109.out _) | exact HK.out))) : w.heap.size ≤ gb123) : w0.heap.size ≤ gb123)); have n9_ := Aside0.mk ((by rw [hg]; exact Nat.ne_of_lt (blk_lt (g := gb109) (o := .cells #[.string t106, u110001] 136 (0, 0)) (by (with_reducible repeat (first | refine blk_drewN ?_ _ | refine blk_drew ?_ | refine blk_alloc ?_ _)); exact BK109.out)) : gb109 ≠ gb123)); have n10_ := Aside0.mk ((by rw [hg]; exact Nat.ne_of_gt (blk_lt (g := gb109) (o := .cells #[.string t106, u110001] 136 (0, 0)) (by (with_reducible repeat (first | refine blk_drewN ?_ _ | refine blk_drew ?_ | refine blk_alloc ?_ _)); exact BK109.out)) : gb123 ≠ gb109)); have n11_ := Aside0.mk ((by rw [hg]; exact Nat.ne_of_lt (IsS206.lt (show IsS206 w0 _ g s0_0 t121 t122 from by repeat (first | (with_reducible first | exact HI0.out | apply IsS206.alloc | apply IsS206.drewN | apply IsS206.drew | apply IsS206.set_1 | apply IsS206.set_2 | refine IsS206.far ?_ NB0_109.out _) | exact HI0.out))) : g ≠ gb123)); have n12_ := Aside0.mk ((by rw [hg]; exact Nat.ne_of_gt (IsS206.lt (show IsS206 w0 _ g s0_0 t121 t122 from by repeat (first | (with_reducible first | exact HI0.out | apply IsS206.alloc | apply IsS206.drewN | apply IsS206.drew | apply IsS206.set_1 | apply IsS206.set_2 | refine IsS206.far ?_ NB0_109.out _) | exact HI0.out))) : gb123 ≠ g)); clear HO_3; clear HO_110001; clear BK109; clear HI0; clear HK; clear HB; have HO_3 := n0_; have HO_110001 := n1_; have BK109 := n2_; have HI0 := n3_; have HK := n4_; have HB := n5_; have BK123 := n6_; have GW123 := n7_; have GE123 := n8_; have NB109_123 := n9_; have NB123_109 := n10_; have NB0_123 := n11_; have NB123_0 := n12_; clear n0_ n1_ n2_ n3_ n4_ n5_ n6_ n7_ n8_ n9_ n10_ n11_ n12_; clear hb hbox hg; have hnb25 := NB123_109.out; have hnc25 := NB109_123.out; have hnb26 := NB123_0.out; have hnc26 := NB0_123.out; have hcz27_0 : w24.cell? ⟨gb123, 0, none⟩ = some (.string (⟨#[]⟩ : ByteArray)) := (blk_cell BK123.out 0).trans rfl; have hcz27_1 : w24.cell? ⟨gb123, 1, none⟩ = some (.string (⟨#[]⟩ : ByteArray)) := (blk_cell BK123.out 1).trans rfl; have hfz27_0 := blk_frozen BK123.out 0; have hfz27_1 := blk_frozen BK123.out 1) | ((with_reducible refine gate_callee (f := 147) rfl ?_); refine goesL_ (some 36) rfl rfl Try.func147 (by kernel_rfl) rfl #[.pointer (some ⟨g, 0, none⟩)] rfl (by (try simp only [List.map_toArray, List.map_cons, List.map_nil]); first | done | rfl | (simp only [List.length_drop, List.length_take]; rfl)) ?_; (with_reducible refine (pack_Reader_Left.calls g s0_0 t121 t122 t124 t125 t126 w0 _ ?side1 ?side2 A19.out).mono ?_); (case side1 => repeat (first | (with_reducible first | exact HI0.out | apply IsS206.alloc | apply IsS206.drewN | apply IsS206.drew | apply IsS206.set_1 | apply IsS206.set_2 | refine IsS206.far ?_ NB0_109.out _ | refine IsS206.far ?_ NB0_123.out _) | exact HI0.out)); (case side2 => repeat (first | (with_reducible first | exact HB.out | apply below_alloc | apply pw_below_drewN | apply below_drew1 | refine below_set ?_ (IsS206.ge HI0.out) | refine below_set ?_ GE109.out | refine below_set ?_ GE123.out) | exact HB.out)); rintro e w28 ⟨rfl, hi, hb, hk⟩; refine ⟨_, rfl, ?_⟩; have n0_ := Aside0.mk (Kd.S_mono (Kd.S_keep (IsS206.apartS (show IsS206 w0 _ g s0_0 t121 t122 from by repeat (first | (with_reducible first | exact HI0.out | apply IsS206.alloc | apply IsS206.drewN | apply IsS206.drew | apply IsS206.set_1 | apply IsS206.set_2 | refine IsS206.far ?_ NB0_109.out _ | refine IsS206.far ?_ NB0_123.out _) | exact HI0.out)) (by (with_reducible repeat (first | apply Kd.S_alloc | apply Kd.S_drewN | apply Kd.S_drew)); exact (Kd.S_mono (Kd.S_far (p := ⟨gb123, 1, none⟩) (Kd.S_far (p := ⟨gb123, 0, none⟩) (Kd.S_mono HO_3.out (fun k_ hk => (⟨hk, hk.2⟩ : _ ∧ k_ ≠ gb123))) (fun _ hk => hk.2) (.string t119)) (fun _ hk => hk.2) (.string t120)) (fun _ h_ => h_.1))) (by decide)) hk (fun _ h => h.2)) (fun _ h => h.1)); have n1_ := Aside0.mk (Kd.R_mono (Kd.R_keep (IsS206.apart (show IsS206 w0 _ g s0_0 t121 t122 from by repeat (first | (with_reducible first | exact HI0.out | apply IsS206.alloc | apply IsS206.drewN | apply IsS206.drew | apply IsS206.set_1 | apply IsS206.set_2 | refine IsS206.far ?_ NB0_109.out _ | refine IsS206.far ?_ NB0_123.out _) | exact HI0.out)) (by (with_reducible repeat (first | apply Kd.R_alloc | apply Kd.R_drewN | apply Kd.R_drew)); exact (Kd.R_mono (Kd.R_far (p := ⟨gb123, 1, none⟩) (Kd.R_far (p := ⟨gb123, 0, none⟩) (Kd.R_mono HO_110001.out (fun k_ hk => (⟨hk, hk.2⟩ : _ ∧ k_ ≠ gb123))) (fun _ hk => hk.2) (.string t119)) (fun _ hk => hk.2) (.string t120)) (fun _ h_ => h_.1))) (by decide)) hk (fun _ h => h.2)) (fun _ h => h.1)); have n2_ := Aside0.mk (KeepBut.blk hk (g' := gb109) (o := .cells #[.string t106, u110001] 136 (0, 0)) (by (with_reducible repeat (first | refine blk_drewN ?_ _ | refine blk_drew ?_ | refine blk_alloc ?_ _)); refine blk_far ?_ NB109_123.out _; (with_reducible repeat (first | refine blk_drewN ?_ _ | refine blk_drew ?_ | refine blk_alloc ?_ _)); refine blk_far ?_ NB109_123.out _; (with_reducible repeat (first | refine blk_drewN ?_ _ | refine blk_drew ?_ | refine blk_alloc ?_ _)); exact BK109.out) NB109_0.out (by simp)); have n3_ := Aside0.mk (KeepBut.blk hk (g' := gb123) (o := .cells #[.string t119, .string t120] 145 (0, 0)) (by (with_reducible repeat (first | refine blk_drewN ?_ _ | refine blk_drew ?_ | refine blk_alloc ?_ _)); refine blk_put (cs := #[.string t119, .string (⟨#[]⟩ : ByteArray)]) ?_ 1 _ rfl; (with_reducible repeat (first | refine blk_drewN ?_ _ | refine blk_drew ?_ | refine blk_alloc ?_ _)); refine blk_put (cs := #[.string (⟨#[]⟩ : ByteArray), .string (⟨#[]⟩ : ByteArray)]) ?_ 0 _ rfl; (with_reducible repeat (first | refine blk_drewN ?_ _ | refine blk_drew ?_ | refine blk_alloc ?_ _)); exact BK123.out) NB123_0.out (by simp)); have n4_ := Aside0.mk (KeepBut.trans (by repeat (first | (with_reducible first | exact HK.out | apply KeepBut.set_ | apply keep_drewN | apply keep_drew | apply keep_alloc | refine keep_far ?_ GW109.out _ | refine keep_far ?_ GW123.out _) | exact HK.out)) hk (.inl rfl)); have n5_ := Aside0.mk (hb); have n6_ := Aside0.mk (hi); clear HO_3; clear HO_110001; clear BK109; clear BK123; clear HK; clear HB; clear HI0; have HO_3 := n0_; have HO_110001 := n1_; have BK109 := n2_; have BK123 := n3_; have HK := n4_; have HB := n5_; have HI0 := n6_; clear n0_ n1_ n2_ n3_ n4_ n5_ n6_; (try clear hb); (try clear hb2); (try clear hk); (try clear hi); have hnb29 := NB109_0.out; have hnc29 := NB0_109.out; have hcz30_0 : w28.cell? ⟨gb109, 0, none⟩ = some (.string t106) := (blk_cell BK109.out 0).trans rfl; have hcz30_1 : w28.cell? ⟨gb109, 1, none⟩ = some (u110001) := (blk_cell BK109.out 1).trans rfl; have hfz30_0 := blk_frozen BK109.out 0; have hfz30_1 := blk_frozen BK109.out 1; obtain ⟨Ao32, co32, eo32⟩ := Kd.R_slice HO_110001.out; subst eo32) | ((with_reducible refine gate_builtin (b := .append) (xs := #[.tmp 47, .tmp 49]) rfl ?_); at_builtin; refine Kd.S_append k136 w.heap.size rfl (.tmp 47) (.tmp 49) 33 136 (.agg #[(.string ⟨#[]⟩), (.slice none 0 0)]) 40 rfl Try.underlying33 info136 rfl (by decide) (by omega) u3 x3_1 (⟨t106, x110001_2⟩ : S136) [.string t106, .slice Ao32 x110001_2.length co32] (fun k_ => k_ ≠ gb109 ∧ k_ ≠ gb123) (fun k_ => some k_ = (.slice Ao32 x110001_2.length co32 : Value).ownBlock) rfl rfl ?aP (fun k_ hk_ => ((Kd.R_mono (ok' := fun k_ => ((fun k_ => k_ ≠ gb109 ∧ k_ ≠ gb123)) k_ ∧ some k_ ≠ (u3 : Value).ownBlock) (Kd.R_types (Kd.R_apart' (HO_110001.out) (Kd.S_typed HO_3.out) (by decide)) BK109.out (by decide)) (fun k_ hk => ⟨⟨hk.2, hk.1.1.2⟩, hk.1.2⟩))).1 k_ hk_.symm) ?aF ?aO (Below.refl _ _) ?aS ?aL ?_; (case aP => exact k136_mkM _ _ _ (⟨t106, x110001_2⟩ : S136) (Kd.R_mono (Kd.R_tight rfl (Kd.R_mono (ok' := fun k_ => ((fun k_ => k_ ≠ gb109 ∧ k_ ≠ gb123)) k_ ∧ some k_ ≠ (u3 : Value).ownBlock) (Kd.R_types (Kd.R_apart' (HO_110001.out) (Kd.S_typed HO_3.out) (by decide)) BK109.out (by decide)) (fun k_ hk => ⟨⟨hk.2, hk.1.1.2⟩, hk.1.2⟩))) (fun _ h_ => h_))); (case aF => exact (fun k_ hk => ⟨Kd.freshB (g := gb109) (o := .cells #[.string t106, .slice Ao32 x110001_2.length co32] 136 (0, 0)) (by (with_reducible repeat (first | refine blk_drewN ?_ _ | refine blk_drew ?_ | refine blk_alloc ?_ _)); exact BK109.out) k_ hk, Kd.freshB (g := gb123) (o := .cells #[.string t119, .string t120] 145 (0, 0)) (by (with_reducible repeat (first | refine blk_drewN ?_ _ | refine blk_drew ?_ | refine blk_alloc ?_ _)); exact BK123.out) k_ hk⟩)); (case aO => exact (by (with_reducible repeat (first | apply Kd.S_alloc | apply Kd.S_drewN | apply Kd.S_drew)); exact Kd.S_mono HO_3.out (fun k_ hk => ⟨⟨hk.1.2, hk.2⟩, fun e_ => hk.1.1 e_⟩))); (case aS => exact (keep_size (w := w) (g := g) (row := none) (by repeat (first | (with_reducible first | exact HK.out | apply KeepBut.set_ | apply keep_drewN | apply keep_drew | apply keep_alloc | refine keep_far ?_ GW109.out _ | refine keep_far ?_ GW123.out _) | exact HK.out)))); (case aL => have := LMc21.out; omega); intro v128 w31 ho hb hg hat; rw [← Ny127.out] at ho; have n0_ := Aside0.mk (blk_grown (g := gb109) (o := .cells #[.string t106, .slice Ao32 x110001_2.length co32] 136 (0, 0)) (by (with_reducible repeat (first | refine blk_drewN ?_ _ | refine blk_drew ?_ | refine blk_alloc ?_ _)); exact BK109.out) hg (Kd.S_away HO_3.out (fun _ hk => hk.1.2))); have n1_ := Aside0.mk (IsS206.grown (by repeat (first | (with_reducible first | exact HI0.out | apply IsS206.alloc | apply IsS206.drewN | apply IsS206.drew | apply IsS206.set_1 | apply IsS206.set_2 | refine IsS206.far ?_ NB0_109.out _ | refine IsS206.far ?_ NB0_123.out _) | exact HI0.out)) hg (IsS206.own_neS HI0.out HO_3.out (by decide))); have n2_ := Aside0.mk (blk_grown (g := gb123) (o := .cells #[.string t119, .string t120] 145 (0, 0)) (by (with_reducible repeat (first | refine blk_drewN ?_ _ | refine blk_drew ?_ | refine blk_alloc ?_ _)); exact BK123.out) hg (Kd.S_ne HO_3.out BK123.out (by decide))); have n3_ := Aside0.mk (below_weaken (by repeat (first | (with_reducible first | exact HB.out | apply below_alloc | apply pw_below_drewN | apply below_drew1 | refine below_set ?_ (IsS206.ge HI0.out) | refine below_set ?_ GE109.out | refine below_set ?_ GE123.out) | exact HB.out)) HL.out hb); have n4_ := Aside0.mk (KeepBut.trans (by repeat (first | (with_reducible first | exact HK.out | apply KeepBut.set_ | apply keep_drewN | apply keep_drew | apply keep_alloc | refine keep_far ?_ GW109.out _ | refine keep_far ?_ GW123.out _) | exact HK.out)) (KeepBut.of_grown hg g) (Kd.S_base2 HO_3.out)); have n5_ := Aside0.mk (ho); clear BK109; clear HI0; clear BK123; clear HB; clear HK; clear HO_3; clear HO_110001; have BK109 := n0_; have HI0 := n1_; have BK123 := n2_; have HB := n3_; have HK := n4_; have HO129 := n5_; clear n0_ n1_ n2_ n3_ n4_ n5_; clear ho hb hg hat))
                    go_roundg k2
                    case measure => have := HK1.out; have := HK2.out; omega
                    case rel => exact ⟨(y127), (wrap64 (x19_1 + 1)), (t125), (t126), (by first | rfl | (simp; done) | (simp [*]; done)), H', ⟨by have := HK1.out; have := HK2.out; omega⟩, ⟨by (with_reducible repeat (first | apply Kd.S_alloc | apply Kd.S_drewN | apply Kd.S_drew)); exact Kd.S_mono HO129.out (fun _ hk => trivial)⟩, ⟨by repeat (first | (with_reducible first | exact HI0.out | apply IsS206.alloc | apply IsS206.drewN | apply IsS206.drew | apply IsS206.set_1 | apply IsS206.set_2 | refine IsS206.far ?_ NB0_109.out _ | refine IsS206.far ?_ NB0_123.out _) | exact HI0.out)⟩, ⟨by repeat (first | (with_reducible first | exact HK.out | apply KeepBut.set_ | apply keep_drewN | apply keep_drew | apply keep_alloc | refine keep_far ?_ GW109.out _ | refine keep_far ?_ GW123.out _) | exact HK.out)⟩, ⟨by repeat (first | (with_reducible first | exact HB.out | apply below_alloc | apply pw_below_drewN | apply below_drew1 | refine below_set ?_ (IsS206.ge HI0.out) | refine below_set ?_ GE109.out | refine below_set ?_ GE123.out) | exact HB.out)⟩⟩
                  · rw [if_neg c21] at H
                    exact absurd H (by simp)
                · rw [if_neg c20] at H
                  have c20b0 : (t124 == t116) = false := beq_eq_false_iff_ne.mpr c20
                  have c20b1 : (t124 != t116) = true := bne_iff_ne.mpr c20
                  by_cases c33 : x110001_2.length < 4398046511104
                  · rw [if_pos c33] at H
                    have LMc33 := Aside0.mk c33
                    clear c33
                    obtain ⟨y130, hy130⟩ : ∃ y_ : List (S145), y_ = (x110001_2 ++ [(⟨t119, t120⟩ : S145)]) := ⟨_, rfl⟩
                    replace H : (dump_volumes.l1 k2 x3_1 t119 ((x7_2 - 1) % 4294967296) (wrap64 (t101)) x19_1 s0_0 t125 t126 t106 y130) = some (r1, r2, r3) := by first | (rw [hy130]; with_reducible exact H) | (have H2_ := (Option.bind_some _ _).symm.trans H; rw [hy130]; with_reducible exact H2_) | (have H2_ := (Option.bind_some _ _).symm.trans H; with_reducible exact H2_) | with_reducible exact H | (rw [hy130]; exact H) | exact H
                    have Ny130 := Aside0.mk hy130
                    clear hy130
                    have H' := Aside0.mk H
                    clear H
                    go_wp2_with (first | ((with_reducible refine gate_callee (f := 147) rfl ?_); refine goesL_ (some 31) rfl rfl Try.func147 (by kernel_rfl) rfl #[.pointer (some ⟨g, 0, none⟩)] rfl (by (try simp only [List.map_toArray, List.map_cons, List.map_nil]); first | done | rfl | (simp only [List.length_drop, List.length_take]; rfl)) ?_; (with_reducible refine (pack_Reader_Left.calls g s0_0 x1001_2 x1002_2 t116 t117 t118 w0 _ ?side1 ?side2 A17.out).mono ?_); (case side1 => repeat (first | (with_reducible first | exact HI0.out | apply IsS206.alloc | apply IsS206.drewN | apply IsS206.drew | apply IsS206.set_1 | apply IsS206.set_2 | refine IsS206.far ?_ NB0_109.out _) | exact HI0.out)); (case side2 => repeat (first | (with_reducible first | exact HB.out | apply below_alloc | apply pw_below_drewN | apply below_drew1 | refine below_set ?_ (IsS206.ge HI0.out) | refine below_set ?_ GE109.out) | exact HB.out)); rintro e w34 ⟨rfl, hi, hb, hk⟩; refine ⟨_, rfl, ?_⟩; have n0_ := Aside0.mk (Kd.S_mono (Kd.S_keep (IsS206.apartS (show IsS206 w0 _ g s0_0 x1001_2 x1002_2 from by repeat (first | (with_reducible first | exact HI0.out | apply IsS206.alloc | apply IsS206.drewN | apply IsS206.drew | apply IsS206.set_1 | apply IsS206.set_2 | refine IsS206.far ?_ NB0_109.out _) | exact HI0.out)) (by (with_reducible repeat (first | apply Kd.S_alloc | apply Kd.S_drewN | apply Kd.S_drew)); exact HO_3.out) (by decide)) hk (fun _ h => h.2)) (fun _ h => h.1)); have n1_ := Aside0.mk (Kd.R_mono (Kd.R_keep (IsS206.apart (show IsS206 w0 _ g s0_0 x1001_2 x1002_2 from by repeat (first | (with_reducible first | exact HI0.out | apply IsS206.alloc | apply IsS206.drewN | apply IsS206.drew | apply IsS206.set_1 | apply IsS206.set_2 | refine IsS206.far ?_ NB0_109.out _) | exact HI0.out)) (by (with_reducible repeat (first | apply Kd.R_alloc | apply Kd.R_drewN | apply Kd.R_drew)); exact HO_110001.out) (by decide)) hk (fun _ h => h.2)) (fun _ h => h.1)); have n2_ := Aside0.mk (KeepBut.blk hk (g' := gb109) (o := .cells #[.string t106, u110001] 136 (0, 0)) (by (with_reducible repeat (first | refine blk_drewN ?_ _ | refine blk_drew ?_ | refine blk_alloc ?_ _)); exact BK109.out) NB109_0.out (by simp)); have n3_ := Aside0.mk (KeepBut.trans (by repeat (first | (with_reducible first | exact HK.out | apply KeepBut.set_ | apply keep_drewN | apply keep_drew | apply keep_alloc | refine keep_far ?_ GW109.out _) | exact HK.out)) hk (.inl rfl)); have n4_ := Aside0.mk (hb); have n5_ := Aside0.mk (hi); clear HO_3; clear HO_110001; clear BK109; clear HK; clear HB; clear HI0; have HO_3 := n0_; have HO_110001 := n1_; have BK109 := n2_; have HK := n3_; have HB := n4_; have HI0 := n5_; clear n0_ n1_ n2_ n3_ n4_ n5_; (try clear hb); (try clear hb2); (try clear hk); (try clear hi)) | ((with_reducible refine gate_callee (f := 148) rfl ?_); refine goesL_ (some 34) rfl rfl Try.func148 (by kernel_rfl) rfl #[.pointer (some ⟨g, 0, none⟩), .string x6_2] rfl (by (try simp only [List.map_toArray, List.map_cons, List.map_nil]); first | done | rfl | (simp only [List.length_drop, List.length_take]; rfl)) ?_; (with_reducible refine (dump_pair.calls g s0_0 t117 t118 x6_2 t119 t120 t121 t122 w0 _ ?side1 ?side2 A18.out).mono ?_); (case side1 => repeat (first | (with_reducible first | exact HI0.out | apply IsS206.alloc | apply IsS206.drewN | apply IsS206.drew | apply IsS206.set_1 | apply IsS206.set_2 | refine IsS206.far ?_ NB0_109.out _) | exact HI0.out)); (case side2 => repeat (first | (with_reducible first | exact HB.out | apply below_alloc | apply pw_below_drewN | apply below_drew1 | refine below_set ?_ (IsS206.ge HI0.out) | refine below_set ?_ GE109.out) | exact HB.out)); rintro e w35 ⟨rfl, hi, hb, hk⟩; refine ⟨_, rfl, ?_⟩; have n0_ := Aside0.mk (Kd.S_mono (Kd.S_keep (IsS206.apartS (show IsS206 w0 _ g s0_0 t117 t118 from by repeat (first | (with_reducible first | exact HI0.out | apply IsS206.alloc | apply IsS206.drewN | apply IsS206.drew | apply IsS206.set_1 | apply IsS206.set_2 | refine IsS206.far ?_ NB0_109.out _) | exact HI0.out)) (by (with_reducible repeat (first | apply Kd.S_alloc | apply Kd.S_drewN | apply Kd.S_drew)); exact HO_3.out) (by decide)) hk (fun _ h => h.2)) (fun _ h => h.1)); have n1_ := Aside0.mk (Kd.R_mono (Kd.R_keep (IsS206.apart (show IsS206 w0 _ g s0_0 t117 t118 from by repeat (first | (with_reducible first | exact HI0.out | apply IsS206.alloc | apply IsS206.drewN | apply IsS206.drew | apply IsS206.set_1 | apply IsS206.set_2 | refine IsS206.far ?_ NB0_109.out _) | exact HI0.out)) (by (with_reducible repeat (first | apply Kd.R_alloc | apply Kd.R_drewN | apply Kd.R_drew)); exact HO_110001.out) (by decide)) hk (fun _ h => h.2)) (fun _ h => h.1)); have n2_ := Aside0.mk (KeepBut.blk hk (g' := gb109) (o := .cells #[.string t106, u110001] 136 (0, 0)) (by (with_reducible repeat (first | refine blk_drewN ?_ _ | refine blk_drew ?_ | refine blk_alloc ?_ _)); exact BK109.out) NB109_0.out (by simp)); have n3_ := Aside0.mk (KeepBut.trans (by repeat (first | (with_reducible first | exact HK.out | apply KeepBut.set_ | apply keep_drewN | apply keep_drew | apply keep_alloc | refine keep_far ?_ GW109.out _) | exact HK.out)) hk (.inl rfl)); have n4_ := Aside0.mk (hb); have n5_ := Aside0.mk (hi); clear HO_3; clear HO_110001; clear BK109; clear HK; clear HB; clear HI0; have HO_3 := n0_; have HO_110001 := n1_; have BK109 := n2_; have HK := n3_; have HB := n4_; have HI0 := n5_; clear n0_ n1_ n2_ n3_ n4_ n5_; (try clear hb); (try clear hb2); (try clear hk); (try clear hi)) | ((with_reducible refine gate_dst (N := 9) rfl ?_); refine box_event ?hg (N := 9) ?hd (cs := #[.string (⟨#[]⟩ : ByteArray), .string (⟨#[]⟩ : ByteArray)]) (t := 145) ?hr ?_; (case hd => rfl); (case hg => rfl); (case hr => first | (go_simp; done) | (go_simp; rfl)); intro gb123 hg w36 hbox hb; have n0_ := Aside0.mk (Kd.S_below (Kd.S_elderB (by (with_reducible repeat (first | apply Kd.S_alloc | apply Kd.S_drewN | apply Kd.S_drew)); exact HO_3.out) gb123 (Nat.le_of_eq hg.symm)) hb); have n1_ := Aside0.mk (Kd.R_below (Kd.R_elderB (by (with_reducible repeat (first | apply Kd.R_alloc | apply Kd.R_drewN | apply Kd.R_drew)); exact HO_110001.out) gb123 (Nat.le_of_eq hg.symm)) hb); have n2_ := Aside0.mk (blk_below (g := gb109) (o := .cells #[.string t106, u110001] 136 (0, 0)) (by (with_reducible repeat (first | refine blk_drewN ?_ _ | refine blk_drew ?_ | refine blk_alloc ?_ _)); exact BK109.out) hb); have n3_ := Aside0.mk (IsS206.below (by repeat (first | (with_reducible first | exact HI0.out | apply IsS206.alloc | apply IsS206.drewN | apply IsS206.drew | apply IsS206.set_1 | apply IsS206.set_2 | refine IsS206.far ?_ NB0_109.out _) | exact HI0.out)) hb); have n4_ := Aside0.mk (KeepBut.trans (by repeat (first | (with_reducible first | exact HK.out | apply KeepBut.set_ | apply keep_drewN | apply keep_drew | apply keep_alloc | refine keep_far ?_ GW109.out _) | exact HK.out)) (KeepBut.of_below hb g none) (.inl rfl)); have n5_ := Aside0.mk (below_step (by repeat (first | (with_reducible first | exact HB.out | apply below_alloc | apply pw_below_drewN | apply below_drew1 | refine below_set ?_ (IsS206.ge HI0.out) | refine below_set ?_ GE109.out) | exact HB.out)) hb); have n6_ := Aside0.mk (hbox); have n7_ := Aside0.mk ((by rw [hg]; exact (keep_size (w := w) (g := g) (row := none) (by repeat (first | (with_reducible first | exact HK.out | apply KeepBut.set_ | apply keep_drewN | apply keep_drew | apply keep_alloc | refine keep_far ?_ GW109.out _) | exact HK.out))) : w.heap.size ≤ gb123)); have n8_ := Aside0.mk ((Nat.le_trans HW0.out (by rw [hg]; exact (keep_size (w := w) (g := g) (row := none) (by repeat (first | (with_reducible first | exact HK.out | apply KeepBut.set_ | apply keep_drewN | apply keep_drew | apply keep_alloc | refine keep_far ?_ GW109.out _) | exact HK.out))) : w.heap.size ≤ gb123) : w0.heap.size ≤ gb123)); have n9_ := Aside0.mk ((by rw [hg]; exact Nat.ne_of_lt (blk_lt (g := gb109) (o := .cells #[.string t106, u110001] 136 (0, 0)) (by (with_reducible repeat (first | refine blk_drewN ?_ _ | refine blk_drew ?_ | refine blk_alloc ?_ _)); exact BK109.out)) : gb109 ≠ gb123)); have n10_ := Aside0.mk ((by rw [hg]; exact Nat.ne_of_gt (blk_lt (g := gb109) (o := .cells #[.string t106, u110001] 136 (0, 0)) (by (with_reducible repeat (first | refine blk_drewN ?_ _ | refine blk_drew ?_ | refine blk_alloc ?_ _)); exact BK109.out)) : gb123 ≠ gb109)); have n11_ := Aside0.mk ((by rw [hg]; exact Nat.ne_of_lt (IsS206.lt (show IsS206 w0 _ g s0_0 t121 t122 from by repeat (first | (with_reducible first | exact HI0.out | apply IsS206.alloc | apply IsS206.drewN | apply IsS206.drew | apply IsS206.set_1 | apply IsS206.set_2 | refine IsS206.far ?_ NB0_109.out _) | exact HI0.out))) : g ≠ gb123)); have n12_ := Aside0.mk ((by rw [hg]; exact Nat.ne_of_gt (IsS206.lt (show IsS206 w0 _ g s0_0 t121 t122 from by repeat (first | (with_reducible first | exact HI0.out | apply IsS206.alloc | apply IsS206.drewN | apply IsS206.drew | apply IsS206.set_1 | apply IsS206.set_2 | refine IsS206.far ?_ NB0_109.out _) | exact HI0.out))) : gb123 ≠ g)); clear HO_3; clear HO_110001; clear BK109; clear HI0; clear HK; clear HB; have HO_3 := n0_; have HO_110001 := n1_; have BK109 := n2_; have HI0 := n3_; have HK := n4_; have HB := n5_; have BK123 := n6_; have GW123 := n7_; have GE123 := n8_; have NB109_123 := n9_; have NB123_109 := n10_; have NB0_123 := n11_; have NB123_0 := n12_; clear n0_ n1_ n2_ n3_ n4_ n5_ n6_ n7_ n8_ n9_ n10_ n11_ n12_; clear hb hbox hg; have hnb37 := NB123_109.out; have hnc37 := NB109_123.out; have hnb38 := NB123_0.out; have hnc38 := NB0_123.out; have hcz39_0 : w36.cell? ⟨gb123, 0, none⟩ = some (.string (⟨#[]⟩ : ByteArray)) := (blk_cell BK123.out 0).trans rfl; have hcz39_1 : w36.cell? ⟨gb123, 1, none⟩ = some (.string (⟨#[]⟩ : ByteArray)) := (blk_cell BK123.out 1).trans rfl; have hfz39_0 := blk_frozen BK123.out 0; have hfz39_1 := blk_frozen BK123.out 1) | ((with_reducible refine gate_callee (f := 147) rfl ?_); refine goesL_ (some 36) rfl rfl Try.func147 (by kernel_rfl) rfl #[.pointer (some ⟨g, 0, none⟩)] rfl (by (try simp only [List.map_toArray, List.map_cons, List.map_nil]); first | done | rfl | (simp only [List.length_drop, List.length_take]; rfl)) ?_; (with_reducible refine (pack_Reader_Left.calls g s0_0 t121 t122 t124 t125 t126 w0 _ ?side1 ?side2 A19.out).mono ?_); (case side1 => repeat (first | (with_reducible first | exact HI0.out | apply IsS206.alloc | apply IsS206.drewN | apply IsS206.drew | apply IsS206.set_1 | apply IsS206.set_2 | refine IsS206.far ?_ NB0_109.out _ | refine IsS206.far ?_ NB0_123.out _) | exact HI0.out)); (case side2 => repeat (first | (with_reducible first | exact HB.out | apply below_alloc | apply pw_below_drewN | apply below_drew1 | refine below_set ?_ (IsS206.ge HI0.out) | refine below_set ?_ GE109.out | refine below_set ?_ GE123.out) | exact HB.out)); rintro e w40 ⟨rfl, hi, hb, hk⟩; refine ⟨_, rfl, ?_⟩; have n0_ := Aside0.mk (Kd.S_mono (Kd.S_keep (IsS206.apartS (show IsS206 w0 _ g s0_0 t121 t122 from by repeat (first | (with_reducible first | exact HI0.out | apply IsS206.alloc | apply IsS206.drewN | apply IsS206.drew | apply IsS206.set_1 | apply IsS206.set_2 | refine IsS206.far ?_ NB0_109.out _ | refine IsS206.far ?_ NB0_123.out _) | exact HI0.out)) (by (with_reducible repeat (first | apply Kd.S_alloc | apply Kd.S_drewN | apply Kd.S_drew)); exact (Kd.S_mono (Kd.S_far (p := ⟨gb123, 1, none⟩) (Kd.S_far (p := ⟨gb123, 0, none⟩) (Kd.S_mono HO_3.out (fun k_ hk => (⟨hk, hk.2⟩ : _ ∧ k_ ≠ gb123))) (fun _ hk => hk.2) (.string t119)) (fun _ hk => hk.2) (.string t120)) (fun _ h_ => h_.1))) (by decide)) hk (fun _ h => h.2)) (fun _ h => h.1)); have n1_ := Aside0.mk (Kd.R_mono (Kd.R_keep (IsS206.apart (show IsS206 w0 _ g s0_0 t121 t122 from by repeat (first | (with_reducible first | exact HI0.out | apply IsS206.alloc | apply IsS206.drewN | apply IsS206.drew | apply IsS206.set_1 | apply IsS206.set_2 | refine IsS206.far ?_ NB0_109.out _ | refine IsS206.far ?_ NB0_123.out _) | exact HI0.out)) (by (with_reducible repeat (first | apply Kd.R_alloc | apply Kd.R_drewN | apply Kd.R_drew)); exact (Kd.R_mono (Kd.R_far (p := ⟨gb123, 1, none⟩) (Kd.R_far (p := ⟨gb123, 0, none⟩) (Kd.R_mono HO_110001.out (fun k_ hk => (⟨hk, hk.2⟩ : _ ∧ k_ ≠ gb123))) (fun _ hk => hk.2) (.string t119)) (fun _ hk => hk.2) (.string t120)) (fun _ h_ => h_.1))) (by decide)) hk (fun _ h => h.2)) (fun _ h => h.1)); have n2_ := Aside0.mk (KeepBut.blk hk (g' := gb109) (o := .cells #[.string t106, u110001] 136 (0, 0)) (by (with_reducible repeat (first | refine blk_drewN ?_ _ | refine blk_drew ?_ | refine blk_alloc ?_ _)); refine blk_far ?_ NB109_123.out _; (with_reducible repeat (first | refine blk_drewN ?_ _ | refine blk_drew ?_ | refine blk_alloc ?_ _)); refine blk_far ?_ NB109_123.out _; (with_reducible repeat (first | refine blk_drewN ?_ _ | refine blk_drew ?_ | refine blk_alloc ?_ _)); exact BK109.out) NB109_0.out (by simp)); have n3_ := Aside0.mk (KeepBut.blk hk (g' := gb123) (o := .cells #[.string t119, .string t120] 145 (0, 0)) (by (with_reducible repeat (first | refine blk_drewN ?_ _ | refine blk_drew ?_ | refine blk_alloc ?_ _)); refine blk_put (cs := #[.string t119, .string (⟨#[]⟩ : ByteArray)]) ?_ 1 _ rfl; (with_reducible repeat (first | refine blk_drewN ?_ _ | refine blk_drew ?_ | refine blk_alloc ?_ _)); refine blk_put (cs := #[.string (⟨#[]⟩ : ByteArray), .string (⟨#[]⟩ : ByteArray)]) ?_ 0 _ rfl; (with_reducible repeat (first | refine blk_drewN ?_ _ | refine blk_drew ?_ | refine blk_alloc ?_ _)); exact BK123.out) NB123_0.out (by simp)); have n4_ := Aside0.mk (KeepBut.trans (by repeat (first | (with_reducible first | exact HK.out | apply KeepBut.set_ | apply keep_drewN | apply keep_drew | apply keep_alloc | refine keep_far ?_ GW109.out _ | refine keep_far ?_ GW123.out _) | exact HK.out)) hk (.inl rfl)); have n5_ := Aside0.mk (hb); have n6_ := Aside0.mk (hi); clear HO_3; clear HO_110001; clear BK109; clear BK123; clear HK; clear HB; clear HI0; have HO_3 := n0_; have HO_110001 := n1_; have BK109 := n2_; have BK123 := n3_; have HK := n4_; have HB := n5_; have HI0 := n6_; clear n0_ n1_ n2_ n3_ n4_ n5_ n6_; (try clear hb); (try clear hb2); (try clear hk); (try clear hi); have hnb41 := NB109_0.out; have hnc41 := NB0_109.out; have hcz42_0 : w40.cell? ⟨gb109, 0, none⟩ = some (.string t106) := (blk_cell BK109.out 0).trans rfl; have hcz42_1 : w40.cell? ⟨gb109, 1, none⟩ = some (u110001) := (blk_cell BK109.out 1).trans rfl; have hfz42_0 := blk_frozen BK109.out 0; have hfz42_1 := blk_frozen BK109.out 1; have hcz43_0 : w40.cell? ⟨gb123, 0, none⟩ = some (.string t119) := (blk_cell BK123.out 0).trans rfl; have hcz43_1 : w40.cell? ⟨gb123, 1, none⟩ = some (.string t120) := (blk_cell BK123.out 1).trans rfl; have hfz43_0 := blk_frozen BK123.out 0; have hfz43_1 := blk_frozen BK123.out 1) | ((with_reducible refine gate_builtin (b := .append) (xs := #[.tmp 40, .tmp 42]) rfl ?_); at_builtin; refine Kd.R_append k145 w.heap.size rfl (.tmp 40) (.tmp 42) 51 145 (.agg #[(.string ⟨#[]⟩), (.string ⟨#[]⟩)]) 32 rfl Try.underlying51 info145 rfl (by decide) (by omega) u110001 x110001_2 (⟨t119, t120⟩ : S145) [.string t119, .string t120] (fun k_ => k_ ≠ gb123) (fun _ => False) rfl rfl ?aP (fun _ hk => hk.elim) ?aF ?aO (Below.refl _ _) ?aS ?aL ?_; (case aP => exact k145_mkM _ _ _ (⟨t119, t120⟩ : S145)); (case aF => exact (fun k_ hk => Kd.freshB (g := gb123) (o := .cells #[.string t119, .string t120] 145 (0, 0)) (by (with_reducible repeat (first | refine blk_drewN ?_ _ | refine blk_drew ?_ | refine blk_alloc ?_ _)); exact BK123.out) k_ hk)); (case aO => exact (by (with_reducible repeat (first | apply Kd.R_alloc | apply Kd.R_drewN | apply Kd.R_drew)); exact Kd.R_mono HO_110001.out (fun _ hk => hk.2))); (case aS => exact (keep_size (w := w) (g := g) (row := none) (by repeat (first | (with_reducible first | exact HK.out | apply KeepBut.set_ | apply keep_drewN | apply keep_drew | apply keep_alloc | refine keep_far ?_ GW109.out _ | refine keep_far ?_ GW123.out _) | exact HK.out)))); (case aL => have := LMc33.out; omega); intro v131 w44 ho hb hg hat; rw [← Ny130.out] at ho; have n0_ := Aside0.mk (Kd.S_after (ok := (fun k_ => k_ ≠ gb109 ∧ k_ ≠ gb123)) (by (with_reducible repeat (first | apply Kd.S_alloc | apply Kd.S_drewN | apply Kd.S_drew)); exact Kd.S_mono HO_3.out (fun _ hk => ⟨⟨hk.1.2, hk.2⟩, hk.1.1⟩)) hg hat); have n1_ := Aside0.mk (blk_grown (g := gb109) (o := .cells #[.string t106, u110001] 136 (0, 0)) (by (with_reducible repeat (first | refine blk_drewN ?_ _ | refine blk_drew ?_ | refine blk_alloc ?_ _)); exact BK109.out) hg (Kd.R_ne HO_110001.out BK109.out (by decide))); have n2_ := Aside0.mk (IsS206.grown (by repeat (first | (with_reducible first | exact HI0.out | apply IsS206.alloc | apply IsS206.drewN | apply IsS206.drew | apply IsS206.set_1 | apply IsS206.set_2 | refine IsS206.far ?_ NB0_109.out _ | refine IsS206.far ?_ NB0_123.out _) | exact HI0.out)) hg (IsS206.own_ne HI0.out HO_110001.out (by decide))); have n3_ := Aside0.mk (blk_grown (g := gb123) (o := .cells #[.string t119, .string t120] 145 (0, 0)) (by (with_reducible repeat (first | refine blk_drewN ?_ _ | refine blk_drew ?_ | refine blk_alloc ?_ _)); exact BK123.out) hg (Kd.R_away HO_110001.out (fun _ hk => hk.2))); have n4_ := Aside0.mk (below_weaken (by repeat (first | (with_reducible first | exact HB.out | apply below_alloc | apply pw_below_drewN | apply below_drew1 | refine below_set ?_ (IsS206.ge HI0.out) | refine below_set ?_ GE109.out | refine below_set ?_ GE123.out) | exact HB.out)) HL.out hb); have n5_ := Aside0.mk (KeepBut.trans (by repeat (first | (with_reducible first | exact HK.out | apply KeepBut.set_ | apply keep_drewN | apply keep_drew | apply keep_alloc | refine keep_far ?_ GW109.out _ | refine keep_far ?_ GW123.out _) | exact HK.out)) (KeepBut.of_grown hg g) (Kd.R_base2 HO_110001.out)); have n6_ := Aside0.mk (ho); clear HO_3; clear BK109; clear HI0; clear BK123; clear HB; clear HK; clear HO_110001; have HO_3 := n0_; have BK109 := n1_; have HI0 := n2_; have BK123 := n3_; have HB := n4_; have HK := n5_; have HO132 := n6_; clear n0_ n1_ n2_ n3_ n4_ n5_ n6_; clear ho hb hg hat; obtain ⟨Ao45, co45, eo45⟩ := Kd.R_slice HO132.out; subst eo45; have hcz46_0 : w44.cell? ⟨gb109, 0, none⟩ = some (.string t106) := (blk_cell BK109.out 0).trans rfl; have hcz46_1 : w44.cell? ⟨gb109, 1, none⟩ = some (u110001) := (blk_cell BK109.out 1).trans rfl; have hfz46_0 := blk_frozen BK109.out 0; have hfz46_1 := blk_frozen BK109.out 1; have hcz47_0 : w44.cell? ⟨gb123, 0, none⟩ = some (.string t119) := (blk_cell BK123.out 0).trans rfl; have hcz47_1 : w44.cell? ⟨gb123, 1, none⟩ = some (.string t120) := (blk_cell BK123.out 1).trans rfl; have hfz47_0 := blk_frozen BK123.out 0; have hfz47_1 := blk_frozen BK123.out 1))
                    go_roundg k2
                    case measure => have := HK1.out; have := HK2.out; omega
                    case rel => exact ⟨(t119), ((x7_2 - 1) % 4294967296), (t125), (t126), (y130), (.slice Ao45 y130.length co45), (by first | rfl | (simp; done) | (simp [*]; done)), (by first | rfl | (simp; done) | (simp [*]; done)), H', ⟨by have := HK1.out; have := HK2.out; omega⟩, ⟨by (with_reducible repeat (first | apply Kd.S_alloc | apply Kd.S_drewN | apply Kd.S_drew)); exact Kd.S_mono (Kd.S_far (p := ⟨gb109, 1, none⟩) (Kd.S_mono HO_3.out (fun k_ hk => (⟨hk, hk.1.1⟩ : _ ∧ k_ ≠ gb109))) (fun _ hk => hk.2) (.slice Ao45 y130.length co45)) (fun _ hk => ⟨hk.1.2, hk.1.1.1⟩)⟩, ⟨by (with_reducible repeat (first | apply Kd.R_alloc | apply Kd.R_drewN | apply Kd.R_drew)); exact Kd.R_mono (Kd.R_far (p := ⟨gb109, 1, none⟩) (Kd.R_types HO132.out BK109.out (by decide)) (fun _ hk => hk.2) (.slice Ao45 y130.length co45)) (fun _ hk => trivial)⟩, ⟨by (with_reducible repeat (first | refine blk_drewN ?_ _ | refine blk_drew ?_ | refine blk_alloc ?_ _)); refine blk_put (cs := #[.string t106, u110001]) ?_ 1 _ rfl; (with_reducible repeat (first | refine blk_drewN ?_ _ | refine blk_drew ?_ | refine blk_alloc ?_ _)); exact BK109.out⟩, ⟨by repeat (first | (with_reducible first | exact HI0.out | apply IsS206.alloc | apply IsS206.drewN | apply IsS206.drew | apply IsS206.set_1 | apply IsS206.set_2 | refine IsS206.far ?_ NB0_109.out _ | refine IsS206.far ?_ NB0_123.out _) | exact HI0.out)⟩, ⟨by repeat (first | (with_reducible first | exact HK.out | apply KeepBut.set_ | apply keep_drewN | apply keep_drew | apply keep_alloc | refine keep_far ?_ GW109.out _ | refine keep_far ?_ GW123.out _) | exact HK.out)⟩, ⟨by repeat (first | (with_reducible first | exact HB.out | apply below_alloc | apply pw_below_drewN | apply below_drew1 | refine below_set ?_ (IsS206.ge HI0.out) | refine below_set ?_ GE109.out | refine below_set ?_ GE123.out) | exact HB.out)⟩⟩
                  · rw [if_neg c33] at H
                    exact absurd H (by simp)
              · rw [if_neg c16] at H
                have c16b0 : decide (0 < x7_2) = false := decide_eq_false c16
                clear c16
                by_cases c48 : x3_1.length < 3518437208883
                · rw [if_pos c48] at H
                  have LMc48 := Aside0.mk c48
                  clear c48
                  obtain ⟨y113, hy113⟩ : ∃ y_ : List (S136), y_ = (x3_1 ++ [(⟨t106, x110001_2⟩ : S136)]) := ⟨_, rfl⟩
                  replace H : (dump_volumes.l0 k2 y113 (wrap64 (t101)) (wrap64 (x19_1 + 1)) s0_0 x1001_2 x1002_2) = some (r1, r2, r3) := by first | (rw [hy113]; with_reducible exact H) | (have H2_ := (Option.bind_some _ _).symm.trans H; rw [hy113]; with_reducible exact H2_) | (have H2_ := (Option.bind_some _ _).symm.trans H; with_reducible exact H2_) | with_reducible exact H | (rw [hy113]; exact H) | exact H
                  have Ny113 := Aside0.mk hy113
                  clear hy113
                  have H' := Aside0.mk H
                  clear H
                  have hnb49 := NB109_0.out
                  have hnc49 := NB0_109.out
                  have hcz50_0 : wr.cell? ⟨gb109, 0, none⟩ = some (.string t106) := (blk_cell BK109.out 0).trans rfl
                  have hcz50_1 : wr.cell? ⟨gb109, 1, none⟩ = some (u110001) := (blk_cell BK109.out 1).trans rfl
                  have hfz50_0 := blk_frozen BK109.out 0
                  have hfz50_1 := blk_frozen BK109.out 1
                  obtain ⟨Ao52, co52, eo52⟩ := Kd.R_slice HO_110001.out
                  subst eo52
                  go_wp2_with (first | ((with_reducible refine gate_builtin (b := .append) (xs := #[.tmp 47, .tmp 49]) rfl ?_); at_builtin; refine Kd.S_append k136 w.heap.size rfl (.tmp 47) (.tmp 49) 33 136 (.agg #[(.string ⟨#[]⟩), (.slice none 0 0)]) 40 rfl Try.underlying33 info136 rfl (by decide) (by omega) u3 x3_1 (⟨t106, x110001_2⟩ : S136) [.string t106, .slice Ao52 x110001_2.length co52] (fun k_ => k_ ≠ gb109) (fun k_ => some k_ = (.slice Ao52 x110001_2.length co52 : Value).ownBlock) rfl rfl ?aP (fun k_ hk_ => ((Kd.R_mono (ok' := fun k_ => ((fun k_ => k_ ≠ gb109)) k_ ∧ some k_ ≠ (u3 : Value).ownBlock) (Kd.R_types (Kd.R_apart' (HO_110001.out) (Kd.S_typed HO_3.out) (by decide)) BK109.out (by decide)) (fun k_ hk => ⟨hk.2, hk.1.2⟩))).1 k_ hk_.symm) ?aF ?aO (Below.refl _ _) ?aS ?aL ?_; (case aP => exact k136_mkM _ _ _ (⟨t106, x110001_2⟩ : S136) (Kd.R_mono (Kd.R_tight rfl (Kd.R_mono (ok' := fun k_ => ((fun k_ => k_ ≠ gb109)) k_ ∧ some k_ ≠ (u3 : Value).ownBlock) (Kd.R_types (Kd.R_apart' (HO_110001.out) (Kd.S_typed HO_3.out) (by decide)) BK109.out (by decide)) (fun k_ hk => ⟨hk.2, hk.1.2⟩))) (fun _ h_ => h_))); (case aF => exact (fun k_ hk => Kd.freshB (g := gb109) (o := .cells #[.string t106, .slice Ao52 x110001_2.length co52] 136 (0, 0)) (by (with_reducible repeat (first | refine blk_drewN ?_ _ | refine blk_drew ?_ | refine blk_alloc ?_ _)); exact BK109.out) k_ hk)); (case aO => exact (by (with_reducible repeat (first | apply Kd.S_alloc | apply Kd.S_drewN | apply Kd.S_drew)); exact Kd.S_mono HO_3.out (fun k_ hk => ⟨hk.2, fun e_ => hk.1 e_⟩))); (case aS => exact (keep_size (w := w) (g := g) (row := none) (by repeat (first | (with_reducible first | exact HK.out | apply KeepBut.set_ | apply keep_drewN | apply keep_drew | apply keep_alloc | refine keep_far ?_ GW109.out _) | exact HK.out)))); (case aL => have := LMc48.out; omega); intro v114 w51 ho hb hg hat; rw [← Ny113.out] at ho; have n0_ := Aside0.mk (blk_grown (g := gb109) (o := .cells #[.string t106, .slice Ao52 x110001_2.length co52] 136 (0, 0)) (by (with_reducible repeat (first | refine blk_drewN ?_ _ | refine blk_drew ?_ | refine blk_alloc ?_ _)); exact BK109.out) hg (Kd.S_away HO_3.out (fun _ hk => hk.2))); have n1_ := Aside0.mk (IsS206.grown (by repeat (first | (with_reducible first | exact HI0.out | apply IsS206.alloc | apply IsS206.drewN | apply IsS206.drew | apply IsS206.set_1 | apply IsS206.set_2 | refine IsS206.far ?_ NB0_109.out _) | exact HI0.out)) hg (IsS206.own_neS HI0.out HO_3.out (by decide))); have n2_ := Aside0.mk (below_weaken (by repeat (first | (with_reducible first | exact HB.out | apply below_alloc | apply pw_below_drewN | apply below_drew1 | refine below_set ?_ (IsS206.ge HI0.out) | refine below_set ?_ GE109.out) | exact HB.out)) HL.out hb); have n3_ := Aside0.mk (KeepBut.trans (by repeat (first | (with_reducible first | exact HK.out | apply KeepBut.set_ | apply keep_drewN | apply keep_drew | apply keep_alloc | refine keep_far ?_ GW109.out _) | exact HK.out)) (KeepBut.of_grown hg g) (Kd.S_base2 HO_3.out)); have n4_ := Aside0.mk (ho); clear BK109; clear HI0; clear HB; clear HK; clear HO_3; clear HO_110001; have BK109 := n0_; have HI0 := n1_; have HB := n2_; have HK := n3_; have HO115 := n4_; clear n0_ n1_ n2_ n3_ n4_; clear ho hb hg hat))
                  go_roundg k2
                  case measure => have := HK1.out; have := HK2.out; omega
                  case rel => exact ⟨(y113), (wrap64 (x19_1 + 1)), (x1001_2), (x1002_2), (by first | rfl | (simp; done) | (simp [*]; done)), H', ⟨by have := HK1.out; have := HK2.out; omega⟩, ⟨by (with_reducible repeat (first | apply Kd.S_alloc | apply Kd.S_drewN | apply Kd.S_drew)); exact Kd.S_mono HO115.out (fun _ hk => trivial)⟩, ⟨by repeat (first | (with_reducible first | exact HI0.out | apply IsS206.alloc | apply IsS206.drewN | apply IsS206.drew | apply IsS206.set_1 | apply IsS206.set_2 | refine IsS206.far ?_ NB0_109.out _) | exact HI0.out)⟩, ⟨by repeat (first | (with_reducible first | exact HK.out | apply KeepBut.set_ | apply keep_drewN | apply keep_drew | apply keep_alloc | refine keep_far ?_ GW109.out _) | exact HK.out)⟩, ⟨by repeat (first | (with_reducible first | exact HB.out | apply below_alloc | apply pw_below_drewN | apply below_drew1 | refine below_set ?_ (IsS206.ge HI0.out) | refine below_set ?_ GE109.out) | exact HB.out)⟩⟩
                · rw [if_neg c48] at H
                  exact absurd H (by simp)
        · rw [if_neg c8] at H
          have c8b0 : decide (x19_1 < (wrap64 (t101))) = false := decide_eq_false c8
          clear c8
          simp only [Option.some.injEq, Prod.mk.injEq] at H
          obtain ⟨rfl, rfl, rfl⟩ := H
          go_wp2
          go_ret
          exact ⟨_, by first | rfl | (simp [errW_none, errW_some] <;> rfl) | (simp [*, errW_none, errW_some] <;> rfl), by (with_reducible repeat (first | apply Kd.S_alloc | apply Kd.S_drewN | apply Kd.S_drew)); exact HO_3.out, by repeat (first | (with_reducible first | exact HI0.out | apply IsS206.alloc | apply IsS206.drewN | apply IsS206.drew | apply IsS206.set_1 | apply IsS206.set_2) | exact HI0.out), by repeat (first | (with_reducible first | exact HB.out | apply below_alloc | apply pw_below_drewN | apply below_drew1 | refine below_set ?_ (IsS206.ge HI0.out)) | exact HB.out), by repeat (first | (with_reducible first | exact HK.out | apply KeepBut.set_ | apply keep_drewN | apply keep_drew | apply keep_alloc) | exact HK.out)⟩

end Go.Proofs.Ytfdemnefkfkghaa.X
/- Functions of the program as Lean functions, and that their calls come to them: written by xprint.py of this session, out of the kit's print program. -/
namespace Go.Proofs.Ytfdemnefkfkghaa.X
open Go.RowKit Go.Proofs.YtfdemnefkfkghaaW.PrintWords Go.Proofs.YtfdemnefkfkghaaW.PrintLast Go.Proofs.YtfdemnefkfkghaaW.PrintMore
attribute [local go_sem] max2_int min2_int max_two min_two max_three min_three max_four min_four   -- for this text's walks alone
attribute [local go_sem high] Go.Proofs.Ytfdemnefkfkghaa.XW.leq Go.Proofs.Ytfdemnefkfkghaa.XW.gtr Go.Proofs.Ytfdemnefkfkghaa.XW.geq
set_option linter.unusedVariables false
set_option linter.unusedSimpArgs false

/-! ### pack_Reader_End: function 77 -/
def pack_Reader_End.f (s0_0 : List Int) (s0_1 : Int) (s0_2 : Int) : Option (Int × Int × Int) := if s0_2 = 0 then (if s0_1 < (s0_0.length : Int) then (some (4, s0_1, s0_2)) else (some (s0_2, s0_1, s0_2))) else (some (s0_2, s0_1, s0_2))
set_option maxHeartbeats 8000000 in
set_option maxRecDepth 100000 in
theorem pack_Reader_End.calls (g : Nat) (s0_0 : List Int) (s0_1 : Int) (s0_2 : Int) (r1 : Int) (r2 : Int) (r3 : Int) (w0 w : World) (hI : IsS206 w0 w g s0_0 s0_1 s0_2) (hB : Below w0.heap.size w0 w) (h : pack_Reader_End.f s0_0 s0_1 s0_2 = some (r1, r2, r3)) :
    Calls Try.prog 77 #[.pointer (some ⟨g, 0, none⟩)] w fun e w' => e = .returned (.int .i64 r1) ∧ IsS206 w0 w' g s0_0 r2 r3 ∧ Below w0.heap.size w0 w' ∧ KeepBut w w' g none := by
  have HI0 := Aside0.mk hI
  have HK := Aside0.mk (KeepBut.refl w g none)
  have HL := Aside0.mk hB.size
  clear hI
  have HW0 := Aside0.mk hB.size
  have HB := Aside0.mk hB
  clear hB
  have H : (if s0_2 = 0 then (if s0_1 < (s0_0.length : Int) then (some (4, s0_1, s0_2)) else (some (s0_2, s0_1, s0_2))) else (some (s0_2, s0_1, s0_2))) = some (r1, r2, r3) := h
  clear h
  by_cases c2 : s0_2 = 0
  · rw [if_pos c2] at H
    have c2b0 : (s0_2 == 0) = true := beq_iff_eq.mpr c2
    have c2b1 : (s0_2 != 0) = false := bne_eq_false_iff_eq.mpr c2
    clear c2
    by_cases c3 : s0_1 < (s0_0.length : Int)
    · rw [if_pos c3] at H
      have c3b0 : decide (s0_1 < (s0_0.length : Int)) = true := decide_eq_true c3
      clear c3
      simp only [Option.some.injEq, Prod.mk.injEq] at H
      obtain ⟨rfl, rfl, rfl⟩ := H
      obtain ⟨ASz4_0, cSz4_0, HGz4, hgz4, HSz4_0⟩ := HI0.out
      have hcz4_0 := cellS206_0 HGz4
      have hcz4_1 := cellS206_1 HGz4
      have hcz4_2 := cellS206_2 HGz4
      have hfz4_1 := blk_frozen HGz4 1
      have hfz4_2 := blk_frozen HGz4 2
      clear HGz4 hgz4
      go_enter Try.func77, Try.ntmps77
      go_wp2
      repeat (go_quiet (fail); try go_wp2)
      go_ret
      exact ⟨by first | rfl | (simp [errW_none, errW_some] <;> rfl) | (simp [*, errW_none, errW_some] <;> rfl), by repeat (first | (with_reducible first | exact HI0.out | apply IsS206.alloc | apply IsS206.drewN | apply IsS206.drew | apply IsS206.set_1 | apply IsS206.set_2) | exact HI0.out), by repeat (first | (with_reducible first | exact HB.out | apply below_alloc | apply pw_below_drewN | apply below_drew1 | refine below_set ?_ (IsS206.ge HI0.out)) | exact HB.out), by repeat (first | (with_reducible first | exact HK.out | apply KeepBut.set_ | apply keep_drewN | apply keep_drew | apply keep_alloc) | exact HK.out)⟩
    · rw [if_neg c3] at H
      have c3b0 : decide (s0_1 < (s0_0.length : Int)) = false := decide_eq_false c3
      clear c3
      simp only [Option.some.injEq, Prod.mk.injEq] at H
      obtain ⟨rfl, rfl, rfl⟩ := H
      obtain ⟨ASz5_0, cSz5_0, HGz5, hgz5, HSz5_0⟩ := HI0.out
      have hcz5_0 := cellS206_0 HGz5
      have hcz5_1 := cellS206_1 HGz5
      have hcz5_2 := cellS206_2 HGz5
      have hfz5_1 := blk_frozen HGz5 1
      have hfz5_2 := blk_frozen HGz5 2
      clear HGz5 hgz5
      go_enter Try.func77, Try.ntmps77
      go_wp2
      repeat (go_quiet (fail); try go_wp2)
      go_ret
      exact ⟨by first | rfl | (simp [errW_none, errW_some] <;> rfl) | (simp [*, errW_none, errW_some] <;> rfl), by repeat (first | (with_reducible first | exact HI0.out | apply IsS206.alloc | apply IsS206.drewN | apply IsS206.drew | apply IsS206.set_1 | apply IsS206.set_2) | exact HI0.out), by repeat (first | (with_reducible first | exact HB.out | apply below_alloc | apply pw_below_drewN | apply below_drew1 | refine below_set ?_ (IsS206.ge HI0.out)) | exact HB.out), by repeat (first | (with_reducible first | exact HK.out | apply KeepBut.set_ | apply keep_drewN | apply keep_drew | apply keep_alloc) | exact HK.out)⟩
  · rw [if_neg c2] at H
    have c2b0 : (s0_2 == 0) = false := beq_eq_false_iff_ne.mpr c2
    have c2b1 : (s0_2 != 0) = true := bne_iff_ne.mpr c2
    simp only [Option.some.injEq, Prod.mk.injEq] at H
    obtain ⟨rfl, rfl, rfl⟩ := H
    obtain ⟨ASz6_0, cSz6_0, HGz6, hgz6, HSz6_0⟩ := HI0.out
    have hcz6_0 := cellS206_0 HGz6
    have hcz6_1 := cellS206_1 HGz6
    have hcz6_2 := cellS206_2 HGz6
    have hfz6_1 := blk_frozen HGz6 1
    have hfz6_2 := blk_frozen HGz6 2
    clear HGz6 hgz6
    go_enter Try.func77, Try.ntmps77
    go_wp2
    repeat (go_quiet (fail); try go_wp2)
    go_ret
    exact ⟨by first | rfl | (simp [errW_none, errW_some] <;> rfl) | (simp [*, errW_none, errW_some] <;> rfl), by repeat (first | (with_reducible first | exact HI0.out | apply IsS206.alloc | apply IsS206.drewN | apply IsS206.drew | apply IsS206.set_1 | apply IsS206.set_2) | exact HI0.out), by repeat (first | (with_reducible first | exact HB.out | apply below_alloc | apply pw_below_drewN | apply below_drew1 | refine below_set ?_ (IsS206.ge HI0.out)) | exact HB.out), by repeat (first | (with_reducible first | exact HK.out | apply KeepBut.set_ | apply keep_drewN | apply keep_drew | apply keep_alloc) | exact HK.out)⟩

end Go.Proofs.Ytfdemnefkfkghaa.X
/- Functions of the program as Lean functions, and that their calls come to them: written by xprint.py of this session, out of the kit's print program. -/
namespace Go.Proofs.Ytfdemnefkfkghaa.X
open Go.RowKit Go.Proofs.YtfdemnefkfkghaaW.PrintWords Go.Proofs.YtfdemnefkfkghaaW.PrintLast Go.Proofs.YtfdemnefkfkghaaW.PrintMore
attribute [local go_sem] max2_int min2_int max_two min_two max_three min_three max_four min_four   -- for this text's walks alone
attribute [local go_sem high] Go.Proofs.Ytfdemnefkfkghaa.XW.leq Go.Proofs.Ytfdemnefkfkghaa.XW.gtr Go.Proofs.Ytfdemnefkfkghaa.XW.geq
set_option linter.unusedVariables false
set_option linter.unusedSimpArgs false

/-! ### slices_Equal_byte_byte: function 78 -/
def slices_Equal_byte_byte.l0 : Nat → List Int → List Int → Int → Int → Option (Bool)
  | 0, _, _, _, _ => none
  | k + 1, x0, x1, x12, x13 => if x13 < x12 then (if 0 ≤ x13 then (if x13 < (x0.length : Int) then (if x13 < (x1.length : Int) then (if (rd x0 x13) = (rd x1 x13) then (slices_Equal_byte_byte.l0 k x0 x1 x12 (wrap64 (x13 + 1))) else (some false)) else (none)) else (none)) else (none)) else (some true)
def slices_Equal_byte_byte.f (k : Nat) (l0 : List Int) (l1 : List Int) : Option (Bool) := if (l0.length : Int) = (l1.length : Int) then (slices_Equal_byte_byte.l0 k l0 l1 (l0.length : Int) 0) else (some false)
theorem slices_Equal_byte_byte.mono_l : ∀ k, (∀ y0 y1 y2 y3, LeO (slices_Equal_byte_byte.l0 k y0 y1 y2 y3) (slices_Equal_byte_byte.l0 (k + 1) y0 y1 y2 y3))
  | 0 => fun _ _ _ _ r h => by simp [slices_Equal_byte_byte.l0] at h
  | k + 1 => by
    have ih0 := slices_Equal_byte_byte.mono_l k
    · intro y0 y1 y2 y3
      unfold slices_Equal_byte_byte.l0
      repeat' first
      | (with_reducible exact ih0 _ _ _ _)
      | (with_reducible exact LeO.refl _)
      | (with_reducible exact LeO.none _)
      | (with_reducible refine LeO.ite ?_ ?_)
      | (with_reducible refine LeO.bind ?_ (fun _ => ?_))
      | exact ih0 _ _ _ _
      | exact LeO.none _
      | refine LeO.ite ?_ ?_
      | refine LeO.bind ?_ (fun _ => ?_)
theorem slices_Equal_byte_byte.mono : ∀ a0 a1 k, LeO (slices_Equal_byte_byte.f k a0 a1) (slices_Equal_byte_byte.f (k + 1) a0 a1) := by
  intro a0 a1 k
  have ih0 := slices_Equal_byte_byte.mono_l k
  unfold slices_Equal_byte_byte.f
  repeat' first
      | (with_reducible exact ih0 _ _ _ _)
      | (with_reducible exact LeO.refl _)
      | (with_reducible exact LeO.none _)
      | (with_reducible refine LeO.ite ?_ ?_)
      | (with_reducible refine LeO.bind ?_ (fun _ => ?_))
      | exact ih0 _ _ _ _
      | exact LeO.none _
      | refine LeO.ite ?_ ?_
      | refine LeO.bind ?_ (fun _ => ?_)
set_option maxHeartbeats 8000000 in
set_option maxRecDepth 100000 in
theorem slices_Equal_byte_byte.calls (k : Nat) (A0 : Option Addr) (c0 : Nat) (l0 : List Int) (A1 : Option Addr) (c1 : Nat) (l1 : List Int) (r : Bool) (w : World) (hr0 : Kd.C (Kd.int .u8) w A0 l0.length l0) (hc0 : l0.length ≤ c0) (hr1 : Kd.C (Kd.int .u8) w A1 l1.length l1) (hc1 : l1.length ≤ c1) (h : slices_Equal_byte_byte.f k l0 l1 = some r) :
    Calls Try.prog 78 #[.slice A0 l0.length c0, .slice A1 l1.length c1] w fun e w' => e = .returned (.bool r) ∧ Drawn0 w w' := by
  have HR0 := Aside0.mk hr0
  have HC0 := Aside0.mk hc0
  clear hr0 hc0
  have HR1 := Aside0.mk hr1
  have HC1 := Aside0.mk hc1
  clear hr1 hc1
  have H : (if (l0.length : Int) = (l1.length : Int) then (slices_Equal_byte_byte.l0 k l0 l1 (l0.length : Int) 0) else (some false)) = some r := h
  clear h
  by_cases c3 : (l0.length : Int) = (l1.length : Int)
  · rw [if_pos c3] at H
    have c3b0 : ((l0.length : Int) == (l1.length : Int)) = true := beq_iff_eq.mpr c3
    have c3b1 : ((l0.length : Int) != (l1.length : Int)) = false := bne_eq_false_iff_eq.mpr c3
    have c3b2 : (l0.length == l1.length) = true := by first | simpa using c3 | (simp at c3 ⊢; omega)
    clear c3
    have H' := Aside0.mk H
    clear H
    go_enter Try.func78, Try.ntmps78
    go_wp2
    repeat (go_quiet (fail); try go_wp2)
    go_loopg [13] k (fun kq v13 w' => ∃ (x13_1 : Int), v13 = .int .i64 x13_1 ∧ Aside0 (slices_Equal_byte_byte.l0 kq l0 l1 (l0.length : Int) x13_1 = some r) ∧ Aside0 (kq ≤ k) ∧ Drawn0 w w')
    case atStart => exact ⟨(0), (by first | rfl | (simp; done) | (simp [*]; done)), H', ⟨Nat.le_refl _⟩, by repeat (first | exact Drawn0.refl _ | apply Drawn0.step)⟩
    case round =>
      clear H'
      try clear c1
      try clear p2
      try clear c3
      try clear c3b0
      try clear c3b1
      try clear c3b2
      obtain ⟨x13_1, rfl, HA, HK1, ⟨m1, rfl⟩⟩ := hrel
      cases gk with
      | zero => exact absurd HA.out (by simp [slices_Equal_byte_byte.l0])
      | succ k1 =>
        have H := HA.out
        clear HA
        simp only [slices_Equal_byte_byte.l0] at H
        by_cases c4 : x13_1 < (l0.length : Int)
        · rw [if_pos c4] at H
          have c4b0 : decide (x13_1 < (l0.length : Int)) = true := decide_eq_true c4
          clear c4
          by_cases c5 : 0 ≤ x13_1
          · rw [if_pos c5] at H
            have c5b0 : decide (0 ≤ x13_1) = true := decide_eq_true c5
            clear c5
            by_cases c6 : x13_1 < (l0.length : Int)
            · rw [if_pos c6] at H
              have c6b0 : decide (x13_1 < (l0.length : Int)) = true := decide_eq_true c6
              clear c6
              by_cases c7 : x13_1 < (l1.length : Int)
              · rw [if_pos c7] at H
                have c7b0 : decide (x13_1 < (l1.length : Int)) = true := decide_eq_true c7
                clear c7
                by_cases c8 : (rd l0 x13_1) = (rd l1 x13_1)
                · rw [if_pos c8] at H
                  have c8b0 : ((rd l0 x13_1) == (rd l1 x13_1)) = true := beq_iff_eq.mpr c8
                  have c8b1 : ((rd l0 x13_1) != (rd l1 x13_1)) = false := bne_eq_false_iff_eq.mpr c8
                  clear c8
                  have H' := Aside0.mk H
                  clear H
                  have p101 : 0 ≤ (x13_1 : Int) := of_decide_eq_true (by first | (with_reducible assumption) | assumption)
                  have q101 : x13_1 < (l0.length : Int) := of_decide_eq_true (by first | (with_reducible assumption) | assumption)
                  obtain ⟨ad101, e101, hx101_0⟩ := Kd.at_int HR0.out x13_1 p101 q101
                  cases e101
                  replace p101 := eq_true p101
                  replace q101 := eq_true q101
                  have p102 : 0 ≤ (x13_1 : Int) := of_decide_eq_true (by first | (with_reducible assumption) | assumption)
                  have q102 : x13_1 < (l1.length : Int) := of_decide_eq_true (by first | (with_reducible assumption) | assumption)
                  obtain ⟨ad102, e102, hx102_0⟩ := Kd.at_int HR1.out x13_1 p102 q102
                  cases e102
                  replace p102 := eq_true p102
                  replace q102 := eq_true q102
                  go_wp2
                  repeat (go_quiet (fail); try go_wp2)
                  go_roundg k1
                  case measure => have := HK1.out; omega
                  case rel => exact ⟨(wrap64 (x13_1 + 1)), (by first | rfl | (simp; done) | (simp [*]; done)), H', ⟨by have := HK1.out; omega⟩, by repeat (first | exact Drawn0.refl _ | apply Drawn0.step)⟩
                · rw [if_neg c8] at H
                  have c8b0 : ((rd l0 x13_1) == (rd l1 x13_1)) = false := beq_eq_false_iff_ne.mpr c8
                  have c8b1 : ((rd l0 x13_1) != (rd l1 x13_1)) = true := bne_iff_ne.mpr c8
                  obtain rfl := Option.some.inj H
                  have p101 : 0 ≤ (x13_1 : Int) := of_decide_eq_true (by first | (with_reducible assumption) | assumption)
                  have q101 : x13_1 < (l0.length : Int) := of_decide_eq_true (by first | (with_reducible assumption) | assumption)
                  obtain ⟨ad101, e101, hx101_0⟩ := Kd.at_int HR0.out x13_1 p101 q101
                  cases e101
                  replace p101 := eq_true p101
                  replace q101 := eq_true q101
                  have p102 : 0 ≤ (x13_1 : Int) := of_decide_eq_true (by first | (with_reducible assumption) | assumption)
                  have q102 : x13_1 < (l1.length : Int) := of_decide_eq_true (by first | (with_reducible assumption) | assumption)
                  obtain ⟨ad102, e102, hx102_0⟩ := Kd.at_int HR1.out x13_1 p102 q102
                  cases e102
                  replace p102 := eq_true p102
                  replace q102 := eq_true q102
                  go_wp2
                  repeat (go_quiet (fail); try go_wp2)
                  go_ret
                  exact ⟨by first | rfl | (simp; done) | (simp [*]; done), by repeat (first | exact Drawn0.refl _ | apply Drawn0.step)⟩
              · rw [if_neg c7] at H
                exact absurd H (by simp)
            · rw [if_neg c6] at H
              exact absurd H (by simp)
          · rw [if_neg c5] at H
            exact absurd H (by simp)
        · rw [if_neg c4] at H
          have c4b0 : decide (x13_1 < (l0.length : Int)) = false := decide_eq_false c4
          clear c4
          obtain rfl := Option.some.inj H
          go_wp2
          repeat (go_quiet (fail); try go_wp2)
          go_ret
          exact ⟨by first | rfl | (simp; done) | (simp [*]; done), by repeat (first | exact Drawn0.refl _ | apply Drawn0.step)⟩
  · rw [if_neg c3] at H
    have c3b0 : ((l0.length : Int) == (l1.length : Int)) = false := beq_eq_false_iff_ne.mpr c3
    have c3b1 : ((l0.length : Int) != (l1.length : Int)) = true := bne_iff_ne.mpr c3
    have c3b2 : (l0.length == l1.length) = false := by first | simpa using c3 | (simp at c3 ⊢; omega)
    obtain rfl := Option.some.inj H
    go_enter Try.func78, Try.ntmps78
    go_wp2
    repeat (go_quiet (fail); try go_wp2)
    go_ret
    exact ⟨by first | rfl | (simp; done) | (simp [*]; done), by repeat (first | exact Drawn0.refl _ | apply Drawn0.step)⟩

end Go.Proofs.Ytfdemnefkfkghaa.X
/- Functions of the program as Lean functions, and that their calls come to them: written by xprint.py of this session, out of the kit's print program. -/
namespace Go.Proofs.Ytfdemnefkfkghaa.X
open Go.RowKit Go.Proofs.YtfdemnefkfkghaaW.PrintWords Go.Proofs.YtfdemnefkfkghaaW.PrintLast Go.Proofs.YtfdemnefkfkghaaW.PrintMore
attribute [local go_sem] max2_int min2_int max_two min_two max_three min_three max_four min_four   -- for this text's walks alone
attribute [local go_sem high] Go.Proofs.Ytfdemnefkfkghaa.XW.leq Go.Proofs.Ytfdemnefkfkghaa.XW.gtr Go.Proofs.Ytfdemnefkfkghaa.XW.geq
set_option linter.unusedVariables false
set_option linter.unusedSimpArgs false

/-! ### stringslite_HasPrefix: function 141 -/
def stringslite_HasPrefix.f (a0 : ByteArray) (a1 : ByteArray) : Option (Bool) := if (a0.size : Int) ≥ (a1.size : Int) then (if 0 ≤ (a1.size : Int) then (if (a1.size : Int) ≤ (a0.size : Int) then (some ((a0.extract 0 ((a1.size : Int) : Int).toNat).toList == a1.toList)) else (none)) else (none)) else (some false)
set_option maxHeartbeats 8000000 in
set_option maxRecDepth 100000 in
theorem stringslite_HasPrefix.calls (a0 : ByteArray) (a1 : ByteArray) (r : Bool) (w : World) (h : stringslite_HasPrefix.f a0 a1 = some r) :
    Calls Try.prog 141 #[.string a0, .string a1] w fun e w' => e = .returned (.bool r) ∧ Drawn0 w w' := by
  have H : (if (a0.size : Int) ≥ (a1.size : Int) then (if 0 ≤ (a1.size : Int) then (if (a1.size : Int) ≤ (a0.size : Int) then (some ((a0.extract 0 ((a1.size : Int) : Int).toNat).toList == a1.toList)) else (none)) else (none)) else (some false)) = some r := h
  clear h
  by_cases c3 : (a0.size : Int) ≥ (a1.size : Int)
  · rw [if_pos c3] at H
    have c3b0 : decide ((a1.size : Int) ≤ (a0.size : Int)) = true := decide_eq_true c3
    have c3b1 : decide (a1.size ≤ a0.size) = true := decide_eq_true (Int.ofNat_le.mp c3)
    clear c3
    by_cases c4 : 0 ≤ (a1.size : Int)
    · rw [if_pos c4] at H
      have c4b0 := eq_true c4
      have c4b1 : decide (0 ≤ (a1.size : Int)) = true := decide_eq_true c4
      clear c4
      by_cases c5 : (a1.size : Int) ≤ (a0.size : Int)
      · rw [if_pos c5] at H
        have c5b0 := eq_true c5
        have c5b1 : decide ((a1.size : Int) ≤ (a0.size : Int)) = true := decide_eq_true c5
        clear c5
        obtain rfl := Option.some.inj H
        go_enter Try.func141, Try.ntmps141
        go_wp2
        go_ret
        exact ⟨by first | rfl | (simp; done) | (simp [*]; done), by repeat (first | exact Drawn0.refl _ | apply Drawn0.step)⟩
      · rw [if_neg c5] at H
        exact absurd H (by simp)
    · rw [if_neg c4] at H
      exact absurd H (by simp)
  · rw [if_neg c3] at H
    have c3b0 : decide ((a1.size : Int) ≤ (a0.size : Int)) = false := decide_eq_false c3
    have c3b1 : decide (a1.size ≤ a0.size) = false := decide_eq_false (fun h => c3 (Int.ofNat_le.mpr h))
    clear c3
    obtain rfl := Option.some.inj H
    go_enter Try.func141, Try.ntmps141
    go_wp2
    go_ret
    exact ⟨by first | rfl | (simp; done) | (simp [*]; done), by repeat (first | exact Drawn0.refl _ | apply Drawn0.step)⟩

end Go.Proofs.Ytfdemnefkfkghaa.X
/- Functions of the program as Lean functions, and that their calls come to them: written by xprint.py of this session, out of the kit's print program. -/
namespace Go.Proofs.Ytfdemnefkfkghaa.X
open Go.RowKit Go.Proofs.YtfdemnefkfkghaaW.PrintWords Go.Proofs.YtfdemnefkfkghaaW.PrintLast Go.Proofs.YtfdemnefkfkghaaW.PrintMore
attribute [local go_sem] max2_int min2_int max_two min_two max_three min_three max_four min_four   -- for this text's walks alone
attribute [local go_sem high] Go.Proofs.Ytfdemnefkfkghaa.XW.leq Go.Proofs.Ytfdemnefkfkghaa.XW.gtr Go.Proofs.Ytfdemnefkfkghaa.XW.geq
set_option linter.unusedVariables false
set_option linter.unusedSimpArgs false

/-! ### strings_HasPrefix: function 74 -/
def strings_HasPrefix.f (a0 : ByteArray) (a1 : ByteArray) : Option (Bool) := (stringslite_HasPrefix.f a0 a1).bind fun t101 => (some t101)
set_option maxHeartbeats 8000000 in
set_option maxRecDepth 100000 in
theorem strings_HasPrefix.calls (a0 : ByteArray) (a1 : ByteArray) (r : Bool) (w : World) (h : strings_HasPrefix.f a0 a1 = some r) :
    Calls Try.prog 74 #[.string a0, .string a1] w fun e w' => e = .returned (.bool r) ∧ Drawn0 w w' := by
  have H : ((stringslite_HasPrefix.f a0 a1).bind fun t101 => (some t101)) = some r := h
  clear h
  replace H := Option.bind_eq_some_iff.mp H
  obtain ⟨t101, A30, H⟩ := H
  replace H : (some t101) = some r := H
  have A3 := Aside0.mk A30
  clear A30
  obtain rfl := Option.some.inj H
  go_enter Try.func74, Try.ntmps74
  go_wp2_with (first | ((with_reducible refine gate_callee (f := 141) rfl ?_); refine goesL_ (some 7) rfl rfl Try.func141 (by kernel_rfl) rfl #[.string a0, .string a1] rfl (by (try simp only [List.map_toArray, List.map_cons, List.map_nil]); first | done | rfl | (simp only [List.length_drop, List.length_take]; rfl)) ?_; (with_reducible refine (stringslite_HasPrefix.calls a0 a1 t101 _ A3.out).mono ?_); rintro e w' ⟨rfl, ⟨nd, rfl⟩⟩; refine ⟨_, rfl, ?_⟩))
  go_ret
  exact ⟨by first | rfl | (simp; done) | (simp [*]; done), by repeat (first | exact Drawn0.refl _ | apply Drawn0.step)⟩

end Go.Proofs.Ytfdemnefkfkghaa.X
/- A reader is made; the volumes of a dump are read. -/
namespace Go.Proofs.Ytfdemnefkfkghaa.X
open Go.RowKit Go.Proofs.YtfdemnefkfkghaaW.PrintWords Go.Proofs.YtfdemnefkfkghaaW.PrintLast Go.Proofs.YtfdemnefkfkghaaW.PrintMore
set_option linter.unusedVariables false
set_option linter.unusedSimpArgs false

set_option maxHeartbeats 4000000 in
set_option maxRecDepth 100000 in
/-- A reader is made. -/
theorem pack_New_own (A0 : Option Addr) (c0 : Nat) (l0 : List Int) (w : World) (hr0 : Kd.C (Kd.int .u8) w A0 l0.length l0) (hc0 : l0.length ≤ c0) (hl : l0.length < 140737488355328) :
    Calls Try.prog 75 #[.slice A0 l0.length c0] w fun e w' => ∃ (g : Nat) (w0 : World), e = .returned (.pointer (some ⟨g, 0, none⟩)) ∧ IsS206 w0 w' g l0 0 0 ∧ Below w0.heap.size w0 w' ∧ Below w.heap.size w w0 ∧ w.heap.size ≤ w0.heap.size := by
  have HR0 := Aside0.mk hr0
  have HC0 := Aside0.mk hc0
  have HT : Aside0 (slices_Clone_byte_byte.f l0 = some l0) := ⟨by unfold slices_Clone_byte_byte.f; rw [if_pos hl]⟩
  have hu206 := Try.underlying206
  clear hr0 hc0 hl
  go_enter Try.func75, Try.ntmps75
  go_wp2_with (first | (go_at_call 142; (with_reducible refine (slices_Clone_byte_byte.calls A0 c0 l0 l0 _ HR0.out HC0.out HT.out).mono ?_); rintro e w1 ⟨v, rfl, hR, hb⟩; have HRV := Aside0.mk hR; have HB := Aside0.mk hb; obtain ⟨A, c, ev, hc, hC⟩ := Kd.R_reads hR; subst ev; have HCV := Aside0.mk hc; have HRC := Aside0.mk hC; clear hR hb hc hC))
  go_ret
  exact ⟨_, w1, rfl, by simpa using IsS206.new w1 w1 A c l0 0 0 (Below.refl _ _) HRC.out HCV.out, below_alloc (Below.refl _ _) _, HB.out, HB.out.size⟩

theorem blk_of {w0 W : World} {g : Nat} {f0 : List Int} {f1 f2 : Int} (h : IsS206 w0 W g f0 f1 f2) : W.heap[g]? = some (.cells #[.slice (Classical.choose h) f0.length (Classical.choose (Classical.choose_spec h)), .int .i64 f1, .int .i64 f2] 206 (0, 0)) := (Classical.choose_spec (Classical.choose_spec h)).1
set_option maxHeartbeats 8000000 in
set_option maxRecDepth 100000 in
theorem Get_kind (k : Nat) (ad : Addr) (c0 m : Nat) (l0 : List Int) (w : World) (hm : m + 4 ≤ c0) (hmx : m + 4 ≤ 9223372036854775807) (hF : ∀ W, Below w.heap.size w W → Calls Try.prog 73 #[.slice (some ad) (m + 4) c0] W fun e w' => e = .returned (.bool true) ∧ Below w.heap.size w w') (hcv : ∀ W, Below w.heap.size w W → (convert 31 9 (.slice (some ad) m c0)).run Try.prog W = .ok (.string (strOfNums (l0.take m))) W) (hp : strings_HasPrefix.f (strOfNums (l0.take m)) (⟨#[109, 114, 99, 116]⟩ : ByteArray) = some false) :
    Calls Try.prog 22 #[.slice (some ad) (m + 4) c0] w fun e w' => ∃ v0_ : Value, e = .returned (.tuple #[v0_, .int .i64 7]) ∧ Kd.S k136 136 w' w.heap.size (fun _ => True) v0_ [] ∧ Below w.heap.size w w' := by
  have HFITS := Aside0.mk hF
  have HCV := Aside0.mk hcv
  have q1 : (m ≤ c0) = True := eq_true (by omega)
  have q2 : ((m : Int) ≤ (c0 : Int)) = True := eq_true (by omega)
  have HP := Aside0.mk hp
  clear hp hF hcv
  go_enter Try.func22, Try.ntmps22
  go_wp2_with (first | (go_at_call 73; (with_reducible refine (HFITS.out _ (Below.refl _ _)).mono ?_); rintro e w1 ⟨rfl, hb⟩; have HB := Aside0.mk hb; have hcv := HCV.out _ hb; clear hb) | (go_at_call 74; (with_reducible refine (strings_HasPrefix.calls (strOfNums (l0.take m)) (⟨#[109, 114, 99, 116]⟩ : ByteArray) _ _ HP.out).mono ?_); rintro e w' ⟨rfl, ⟨nd, rfl⟩⟩; have HB2 := Aside0.mk (pw_below_drewN HB.out nd); clear HB; have HB := HB2; clear HB2))
  go_ret2
  exact ⟨_, rfl, Kd.S_nil _ _ _ _ _, (by repeat (first | (with_reducible first | exact HB.out | apply below_alloc | apply pw_below_drewN | apply below_drew1) | exact HB.out))⟩
set_option maxHeartbeats 8000000 in
set_option maxRecDepth 100000 in
theorem Get_sum (c0 len : Nat) (A0 : Option Addr) (w : World) (HB : Aside0 (Below w.heap.size w w)) (HFITS : Aside0 (∀ W, Below w.heap.size w W → Calls Try.prog 73 #[.slice A0 len c0] W fun e w' => e = .returned (.bool false) ∧ Below w.heap.size w w')) :
    Calls Try.prog 22 #[.slice A0 len c0] w fun e w' => ∃ v0_ : Value, e = .returned (.tuple #[v0_, .int .i64 5]) ∧ Kd.S k136 136 w' w.heap.size (fun _ => True) v0_ [] ∧ Below w.heap.size w w' := by
  go_enter Try.func22, Try.ntmps22
  go_wp2_with (first | (go_at_call 73; (with_reducible refine (HFITS.out _ HB.out).mono ?_); rintro e w1 ⟨rfl, hb⟩; clear HB; have HB := Aside0.mk hb; clear hb))
  go_ret2
  exact ⟨_, rfl, Kd.S_nil _ _ _ _ _, (by repeat (first | (with_reducible first | exact HB.out | apply below_alloc | apply pw_below_drewN | apply below_drew1) | exact HB.out))⟩
set_option maxHeartbeats 8000000 in
set_option maxRecDepth 100000 in
theorem Get_end (k : Nat) (ad : Addr) (c0 n : Nat) (l0 seg : List Int) (w : World) (vs : List S136) (at1 e1 e2 at2 e3 : Int) (hm : n + 4 + 4 ≤ c0) (hmx : n + 4 + 4 ≤ 9223372036854775807) (hF : ∀ W, Below w.heap.size w W → Calls Try.prog 73 #[.slice (some ad) (n + 4 + 4) c0] W fun e w' => e = .returned (.bool true) ∧ Below w.heap.size w w') (hcv : ∀ W, Below w.heap.size w W → (convert 31 9 (.slice (some ad) (n + 4) c0)).run Try.prog W = .ok (.string (strOfNums (l0.take (n + 4)))) W) (hp : strings_HasPrefix.f (strOfNums (l0.take (n + 4))) (⟨#[109, 114, 99, 116]⟩ : ByteArray) = some true) (hnew : ∀ W, Below w.heap.size w W → Calls Try.prog 75 #[.slice (some ⟨ad.block, ad.off + 4, none⟩) n (c0 - 4)] W fun e w' => ∃ (g : Nat) (w0 : World), e = .returned (.pointer (some ⟨g, 0, none⟩)) ∧ IsS206 w0 w' g seg 0 0 ∧ Below w0.heap.size w0 w' ∧ Below W.heap.size W w0 ∧ W.heap.size ≤ w0.heap.size) (hV : dump_volumes.f k seg 0 0 = some (vs, at1, e1)) (hE : pack_Reader_End.f seg at1 e1 = some (e2, at2, e3)) (he2 : (e2 != 0) = true) :
    Calls Try.prog 22 #[.slice (some ad) (n + 4 + 4) c0] w fun e w' => ∃ v0_ : Value, e = .returned (.tuple #[v0_, .int .i64 e2]) ∧ Kd.S k136 136 w' w.heap.size (fun _ => True) v0_ [] ∧ Below w.heap.size w w' := by
  have HFITS := Aside0.mk hF
  have HCV := Aside0.mk hcv
  have q1 : (n + 4 ≤ c0) = True := eq_true (by omega)
  have q2 : (((n + 4 : Nat) : Int) ≤ (c0 : Int)) = True := eq_true (by omega)
  have HP := Aside0.mk hp
  have HV := Aside0.mk hV
  have HE := Aside0.mk hE
  have q3 : (c0 = 4) = False := eq_false (by omega)
  have q4 : (n + 4 - 4) = n := by omega
  have HNEW := Aside0.mk hnew
  clear hp hF hcv hnew hV hE
  go_enter Try.func22, Try.ntmps22
  go_wp2_with (first | (go_at_call 73; (with_reducible refine (HFITS.out _ (Below.refl _ _)).mono ?_); rintro e w1 ⟨rfl, hb⟩; have HB := Aside0.mk hb; have hcv := HCV.out _ hb; clear hb) | (go_at_call 74; (with_reducible refine (strings_HasPrefix.calls (strOfNums (l0.take (n + 4))) (⟨#[109, 114, 99, 116]⟩ : ByteArray) _ _ HP.out).mono ?_); rintro e w' ⟨rfl, ⟨nd, rfl⟩⟩; have HB2 := Aside0.mk (pw_below_drewN HB.out nd); clear HB; have HB := HB2; clear HB2) | (go_at_call 75; (with_reducible refine (HNEW.out _ (by exact HB.out)).mono ?_); rintro e w2 ⟨g, wn, rfl, hI, hBn, hBw, hle⟩; have HI := Aside0.mk hI; have HBN := Aside0.mk hBn; have HBW := Aside0.mk (below_then HB.out HB.out.size hBw); have HLE := Aside0.mk (Nat.le_trans HB.out.size hle); have HG := Aside0.mk (Nat.le_trans (Nat.le_trans HB.out.size hle) (IsS206.ge hI)); clear hI hBn hBw hle HB) | (go_at_call 76; (with_reducible refine (dump_volumes.calls k g seg 0 0 vs at1 e1 wn _ HI.out HBN.out HV.out).mono ?_); rintro e w3 ⟨v3, rfl, hS, hI, hBn, hK⟩; have hS2 := Kd.S_lower (Kd.S_newB hS (blk_of HI.out)) (below_then HBW.out HLE.out HBN.out).size; have HS := Aside0.mk hS2; clear HI HBN; have HI := Aside0.mk hI; have HBN := Aside0.mk hBn; clear hS hS2 hI hBn hK) | (go_at_call 77; (with_reducible refine (pack_Reader_End.calls g seg at1 e1 e2 at2 e3 wn _ HI.out HBN.out HE.out).mono ?_); rintro e w4 ⟨rfl, hI, hBn, hK⟩; have HS2 := Aside0.mk (Kd.S_keep HS.out hK (fun _ h => h.2)); clear HI HBN HS; have HS := HS2; clear HS2; have HI := Aside0.mk hI; have HBN := Aside0.mk hBn; have HB := Aside0.mk (below_then HBW.out HLE.out hBn); clear hI hBn hK; obtain ⟨A3, c3, ev3, hc3, hC3⟩ := Kd.S_reads HS.out; subst ev3; have HC3 := Aside0.mk hc3; have HR3 := Aside0.mk hC3; clear hc3 hC3))
  go_ret2
  exact ⟨_, rfl, Kd.S_nil _ _ _ _ _, (by repeat (first | (with_reducible first | exact HB.out | apply below_alloc | apply pw_below_drewN | apply below_drew1) | exact HB.out))⟩
set_option maxHeartbeats 8000000 in
set_option maxRecDepth 100000 in
theorem Get_put (k : Nat) (ad : Addr) (c0 n : Nat) (l0 seg : List Int) (w : World) (vs : List S136) (at1 e1 at2 e3 : Int) (hm : n + 4 + 4 ≤ c0) (hmx : n + 4 + 4 ≤ 9223372036854775807) (hF : ∀ W, Below w.heap.size w W → Calls Try.prog 73 #[.slice (some ad) (n + 4 + 4) c0] W fun e w' => e = .returned (.bool true) ∧ Below w.heap.size w w') (hcv : ∀ W, Below w.heap.size w W → (convert 31 9 (.slice (some ad) (n + 4) c0)).run Try.prog W = .ok (.string (strOfNums (l0.take (n + 4)))) W) (hp : strings_HasPrefix.f (strOfNums (l0.take (n + 4))) (⟨#[109, 114, 99, 116]⟩ : ByteArray) = some true) (hnew : ∀ W, Below w.heap.size w W → Calls Try.prog 75 #[.slice (some ⟨ad.block, ad.off + 4, none⟩) n (c0 - 4)] W fun e w' => ∃ (g : Nat) (w0 : World), e = .returned (.pointer (some ⟨g, 0, none⟩)) ∧ IsS206 w0 w' g seg 0 0 ∧ Below w0.heap.size w0 w' ∧ Below W.heap.size W w0 ∧ W.heap.size ≤ w0.heap.size) (hV : dump_volumes.f k seg 0 0 = some (vs, at1, e1)) (hE : pack_Reader_End.f seg at1 e1 = some (0, at2, e3)) (ag : List Int) (e4 : Int) (hQ : dump_Put.f k vs = some (ag, e4)) (he4 : (e4 != 0) = true) :
    Calls Try.prog 22 #[.slice (some ad) (n + 4 + 4) c0] w fun e w' => ∃ v0_ : Value, e = .returned (.tuple #[v0_, .int .i64 3]) ∧ Kd.S k136 136 w' w.heap.size (fun _ => True) v0_ [] ∧ Below w.heap.size w w' := by
  have HFITS := Aside0.mk hF
  have HCV := Aside0.mk hcv
  have q1 : (n + 4 ≤ c0) = True := eq_true (by omega)
  have q2 : (((n + 4 : Nat) : Int) ≤ (c0 : Int)) = True := eq_true (by omega)
  have HP := Aside0.mk hp
  have HV := Aside0.mk hV
  have HE := Aside0.mk hE
  have q3 : (c0 = 4) = False := eq_false (by omega)
  have q4 : (n + 4 - 4) = n := by omega
  have HNEW := Aside0.mk hnew
  clear hp hF hcv hnew hV hE
  have HQ := Aside0.mk hQ
  clear hQ
  go_enter Try.func22, Try.ntmps22
  go_wp2_with (first | (go_at_call 73; (with_reducible refine (HFITS.out _ (Below.refl _ _)).mono ?_); rintro e w1 ⟨rfl, hb⟩; have HB := Aside0.mk hb; have hcv := HCV.out _ hb; clear hb) | (go_at_call 74; (with_reducible refine (strings_HasPrefix.calls (strOfNums (l0.take (n + 4))) (⟨#[109, 114, 99, 116]⟩ : ByteArray) _ _ HP.out).mono ?_); rintro e w' ⟨rfl, ⟨nd, rfl⟩⟩; have HB2 := Aside0.mk (pw_below_drewN HB.out nd); clear HB; have HB := HB2; clear HB2) | (go_at_call 75; (with_reducible refine (HNEW.out _ (by exact HB.out)).mono ?_); rintro e w2 ⟨g, wn, rfl, hI, hBn, hBw, hle⟩; have HI := Aside0.mk hI; have HBN := Aside0.mk hBn; have HBW := Aside0.mk (below_then HB.out HB.out.size hBw); have HLE := Aside0.mk (Nat.le_trans HB.out.size hle); have HG := Aside0.mk (Nat.le_trans (Nat.le_trans HB.out.size hle) (IsS206.ge hI)); clear hI hBn hBw hle HB) | (go_at_call 76; (with_reducible refine (dump_volumes.calls k g seg 0 0 vs at1 e1 wn _ HI.out HBN.out HV.out).mono ?_); rintro e w3 ⟨v3, rfl, hS, hI, hBn, hK⟩; have hS2 := Kd.S_lower (Kd.S_newB hS (blk_of HI.out)) (below_then HBW.out HLE.out HBN.out).size; have HS := Aside0.mk hS2; clear HI HBN; have HI := Aside0.mk hI; have HBN := Aside0.mk hBn; clear hS hS2 hI hBn hK) | (go_at_call 77; (with_reducible refine (pack_Reader_End.calls g seg at1 e1 0 at2 e3 wn _ HI.out HBN.out HE.out).mono ?_); rintro e w4 ⟨rfl, hI, hBn, hK⟩; have HS2 := Aside0.mk (Kd.S_keep HS.out hK (fun _ h => h.2)); clear HI HBN HS; have HS := HS2; clear HS2; have HI := Aside0.mk hI; have HBN := Aside0.mk hBn; have HB := Aside0.mk (below_then HBW.out HLE.out hBn); clear hI hBn hK; obtain ⟨A3, c3, ev3, hc3, hC3⟩ := Kd.S_reads HS.out; subst ev3; have HC3 := Aside0.mk hc3; have HR3 := Aside0.mk hC3; clear hc3 hC3) | (go_at_call 25; (with_reducible refine (dump_Put.calls k A3 c3 vs ag e4 _ HR3.out HC3.out HQ.out).mono ?_); rintro e w5 ⟨v5, rfl, hR, hb⟩; have HS2 := Aside0.mk (Kd.S_below HS.out hb); have HB2 := Aside0.mk (below_then HB.out HB.out.size hb); clear HS HB; have HS := HS2; have HB := HB2; clear HS2 HB2; obtain ⟨A5, c5, ev5, hc5, hC5⟩ := Kd.R_reads hR; subst ev5; have HC5 := Aside0.mk hc5; have HR5 := Aside0.mk hC5; clear hR hb hc5 hC5))
  go_ret2
  exact ⟨_, rfl, Kd.S_nil _ _ _ _ _, (by repeat (first | (with_reducible first | exact HB.out | apply below_alloc | apply pw_below_drewN | apply below_drew1) | exact HB.out))⟩
set_option maxHeartbeats 8000000 in
set_option maxRecDepth 100000 in
theorem Get_apart (k : Nat) (ad : Addr) (c0 n : Nat) (l0 seg : List Int) (w : World) (vs : List S136) (at1 e1 at2 e3 : Int) (hm : n + 4 + 4 ≤ c0) (hmx : n + 4 + 4 ≤ 9223372036854775807) (hF : ∀ W, Below w.heap.size w W → Calls Try.prog 73 #[.slice (some ad) (n + 4 + 4) c0] W fun e w' => e = .returned (.bool true) ∧ Below w.heap.size w w') (hcv : ∀ W, Below w.heap.size w W → (convert 31 9 (.slice (some ad) (n + 4) c0)).run Try.prog W = .ok (.string (strOfNums (l0.take (n + 4)))) W) (hp : strings_HasPrefix.f (strOfNums (l0.take (n + 4))) (⟨#[109, 114, 99, 116]⟩ : ByteArray) = some true) (hnew : ∀ W, Below w.heap.size w W → Calls Try.prog 75 #[.slice (some ⟨ad.block, ad.off + 4, none⟩) n (c0 - 4)] W fun e w' => ∃ (g : Nat) (w0 : World), e = .returned (.pointer (some ⟨g, 0, none⟩)) ∧ IsS206 w0 w' g seg 0 0 ∧ Below w0.heap.size w0 w' ∧ Below W.heap.size W w0 ∧ W.heap.size ≤ w0.heap.size) (hV : dump_volumes.f k seg 0 0 = some (vs, at1, e1)) (hE : pack_Reader_End.f seg at1 e1 = some (0, at2, e3)) (ag : List Int) (hQ : dump_Put.f k vs = some (ag, 0)) (heq : ∀ A5 c5 W, Below w.heap.size w W → Kd.C (Kd.int .u8) W A5 ag.length ag → ag.length ≤ c5 → Calls Try.prog 78 #[.slice A5 ag.length c5, .slice (some ad) (n + 4 + 4) c0] W fun e w' => e = .returned (.bool false) ∧ Drawn0 W w') :
    Calls Try.prog 22 #[.slice (some ad) (n + 4 + 4) c0] w fun e w' => ∃ v0_ : Value, e = .returned (.tuple #[v0_, .int .i64 3]) ∧ Kd.S k136 136 w' w.heap.size (fun _ => True) v0_ [] ∧ Below w.heap.size w w' := by
  have HFITS := Aside0.mk hF
  have HCV := Aside0.mk hcv
  have q1 : (n + 4 ≤ c0) = True := eq_true (by omega)
  have q2 : (((n + 4 : Nat) : Int) ≤ (c0 : Int)) = True := eq_true (by omega)
  have HP := Aside0.mk hp
  have HV := Aside0.mk hV
  have HE := Aside0.mk hE
  have q3 : (c0 = 4) = False := eq_false (by omega)
  have q4 : (n + 4 - 4) = n := by omega
  have HNEW := Aside0.mk hnew
  clear hp hF hcv hnew hV hE
  have HQ := Aside0.mk hQ
  have HEQ := Aside0.mk heq
  clear hQ heq
  go_enter Try.func22, Try.ntmps22
  go_wp2_with (first | (go_at_call 73; (with_reducible refine (HFITS.out _ (Below.refl _ _)).mono ?_); rintro e w1 ⟨rfl, hb⟩; have HB := Aside0.mk hb; have hcv := HCV.out _ hb; clear hb) | (go_at_call 74; (with_reducible refine (strings_HasPrefix.calls (strOfNums (l0.take (n + 4))) (⟨#[109, 114, 99, 116]⟩ : ByteArray) _ _ HP.out).mono ?_); rintro e w' ⟨rfl, ⟨nd, rfl⟩⟩; have HB2 := Aside0.mk (pw_below_drewN HB.out nd); clear HB; have HB := HB2; clear HB2) | (go_at_call 75; (with_reducible refine (HNEW.out _ (by exact HB.out)).mono ?_); rintro e w2 ⟨g, wn, rfl, hI, hBn, hBw, hle⟩; have HI := Aside0.mk hI; have HBN := Aside0.mk hBn; have HBW := Aside0.mk (below_then HB.out HB.out.size hBw); have HLE := Aside0.mk (Nat.le_trans HB.out.size hle); have HG := Aside0.mk (Nat.le_trans (Nat.le_trans HB.out.size hle) (IsS206.ge hI)); clear hI hBn hBw hle HB) | (go_at_call 76; (with_reducible refine (dump_volumes.calls k g seg 0 0 vs at1 e1 wn _ HI.out HBN.out HV.out).mono ?_); rintro e w3 ⟨v3, rfl, hS, hI, hBn, hK⟩; have hS2 := Kd.S_lower (Kd.S_newB hS (blk_of HI.out)) (below_then HBW.out HLE.out HBN.out).size; have HS := Aside0.mk hS2; clear HI HBN; have HI := Aside0.mk hI; have HBN := Aside0.mk hBn; clear hS hS2 hI hBn hK) | (go_at_call 77; (with_reducible refine (pack_Reader_End.calls g seg at1 e1 0 at2 e3 wn _ HI.out HBN.out HE.out).mono ?_); rintro e w4 ⟨rfl, hI, hBn, hK⟩; have HS2 := Aside0.mk (Kd.S_keep HS.out hK (fun _ h => h.2)); clear HI HBN HS; have HS := HS2; clear HS2; have HI := Aside0.mk hI; have HBN := Aside0.mk hBn; have HB := Aside0.mk (below_then HBW.out HLE.out hBn); clear hI hBn hK; obtain ⟨A3, c3, ev3, hc3, hC3⟩ := Kd.S_reads HS.out; subst ev3; have HC3 := Aside0.mk hc3; have HR3 := Aside0.mk hC3; clear hc3 hC3) | (go_at_call 25; (with_reducible refine (dump_Put.calls k A3 c3 vs ag 0 _ HR3.out HC3.out HQ.out).mono ?_); rintro e w5 ⟨v5, rfl, hR, hb⟩; have HS2 := Aside0.mk (Kd.S_below HS.out hb); have HB2 := Aside0.mk (below_then HB.out HB.out.size hb); clear HS HB; have HS := HS2; have HB := HB2; clear HS2 HB2; obtain ⟨A5, c5, ev5, hc5, hC5⟩ := Kd.R_reads hR; subst ev5; have HC5 := Aside0.mk hc5; have HR5 := Aside0.mk hC5; clear hR hb hc5 hC5) | (go_at_call 78; (with_reducible refine (HEQ.out A5 c5 _ (by exact HB.out) HR5.out HC5.out).mono ?_); rintro e w' ⟨rfl, ⟨nd2, rfl⟩⟩; have HS2 := Aside0.mk (Kd.S_drewN HS.out nd2); have HB2 := Aside0.mk (pw_below_drewN HB.out nd2); clear HS HB; have HS := HS2; have HB := HB2; clear HS2 HB2))
  go_ret2
  exact ⟨_, rfl, Kd.S_nil _ _ _ _ _, (by repeat (first | (with_reducible first | exact HB.out | apply below_alloc | apply pw_below_drewN | apply below_drew1) | exact HB.out))⟩
set_option maxHeartbeats 8000000 in
set_option maxRecDepth 100000 in
theorem Get_same (k : Nat) (ad : Addr) (c0 n : Nat) (l0 seg : List Int) (w : World) (vs : List S136) (at1 e1 at2 e3 : Int) (hm : n + 4 + 4 ≤ c0) (hmx : n + 4 + 4 ≤ 9223372036854775807) (hF : ∀ W, Below w.heap.size w W → Calls Try.prog 73 #[.slice (some ad) (n + 4 + 4) c0] W fun e w' => e = .returned (.bool true) ∧ Below w.heap.size w w') (hcv : ∀ W, Below w.heap.size w W → (convert 31 9 (.slice (some ad) (n + 4) c0)).run Try.prog W = .ok (.string (strOfNums (l0.take (n + 4)))) W) (hp : strings_HasPrefix.f (strOfNums (l0.take (n + 4))) (⟨#[109, 114, 99, 116]⟩ : ByteArray) = some true) (hnew : ∀ W, Below w.heap.size w W → Calls Try.prog 75 #[.slice (some ⟨ad.block, ad.off + 4, none⟩) n (c0 - 4)] W fun e w' => ∃ (g : Nat) (w0 : World), e = .returned (.pointer (some ⟨g, 0, none⟩)) ∧ IsS206 w0 w' g seg 0 0 ∧ Below w0.heap.size w0 w' ∧ Below W.heap.size W w0 ∧ W.heap.size ≤ w0.heap.size) (hV : dump_volumes.f k seg 0 0 = some (vs, at1, e1)) (hE : pack_Reader_End.f seg at1 e1 = some (0, at2, e3)) (ag : List Int) (hQ : dump_Put.f k vs = some (ag, 0)) (heq : ∀ A5 c5 W, Below w.heap.size w W → Kd.C (Kd.int .u8) W A5 ag.length ag → ag.length ≤ c5 → Calls Try.prog 78 #[.slice A5 ag.length c5, .slice (some ad) (n + 4 + 4) c0] W fun e w' => e = .returned (.bool true) ∧ Drawn0 W w') :
    Calls Try.prog 22 #[.slice (some ad) (n + 4 + 4) c0] w fun e w' => ∃ v0_ : Value, e = .returned (.tuple #[v0_, .int .i64 0]) ∧ Kd.S k136 136 w' w.heap.size (fun _ => True) v0_ vs ∧ Below w.heap.size w w' := by
  have HFITS := Aside0.mk hF
  have HCV := Aside0.mk hcv
  have q1 : (n + 4 ≤ c0) = True := eq_true (by omega)
  have q2 : (((n + 4 : Nat) : Int) ≤ (c0 : Int)) = True := eq_true (by omega)
  have HP := Aside0.mk hp
  have HV := Aside0.mk hV
  have HE := Aside0.mk hE
  have q3 : (c0 = 4) = False := eq_false (by omega)
  have q4 : (n + 4 - 4) = n := by omega
  have HNEW := Aside0.mk hnew
  clear hp hF hcv hnew hV hE
  have HQ := Aside0.mk hQ
  have HEQ := Aside0.mk heq
  clear hQ heq
  go_enter Try.func22, Try.ntmps22
  go_wp2_with (first | (go_at_call 73; (with_reducible refine (HFITS.out _ (Below.refl _ _)).mono ?_); rintro e w1 ⟨rfl, hb⟩; have HB := Aside0.mk hb; have hcv := HCV.out _ hb; clear hb) | (go_at_call 74; (with_reducible refine (strings_HasPrefix.calls (strOfNums (l0.take (n + 4))) (⟨#[109, 114, 99, 116]⟩ : ByteArray) _ _ HP.out).mono ?_); rintro e w' ⟨rfl, ⟨nd, rfl⟩⟩; have HB2 := Aside0.mk (pw_below_drewN HB.out nd); clear HB; have HB := HB2; clear HB2) | (go_at_call 75; (with_reducible refine (HNEW.out _ (by exact HB.out)).mono ?_); rintro e w2 ⟨g, wn, rfl, hI, hBn, hBw, hle⟩; have HI := Aside0.mk hI; have HBN := Aside0.mk hBn; have HBW := Aside0.mk (below_then HB.out HB.out.size hBw); have HLE := Aside0.mk (Nat.le_trans HB.out.size hle); have HG := Aside0.mk (Nat.le_trans (Nat.le_trans HB.out.size hle) (IsS206.ge hI)); clear hI hBn hBw hle HB) | (go_at_call 76; (with_reducible refine (dump_volumes.calls k g seg 0 0 vs at1 e1 wn _ HI.out HBN.out HV.out).mono ?_); rintro e w3 ⟨v3, rfl, hS, hI, hBn, hK⟩; have hS2 := Kd.S_lower (Kd.S_newB hS (blk_of HI.out)) (below_then HBW.out HLE.out HBN.out).size; have HS := Aside0.mk hS2; clear HI HBN; have HI := Aside0.mk hI; have HBN := Aside0.mk hBn; clear hS hS2 hI hBn hK) | (go_at_call 77; (with_reducible refine (pack_Reader_End.calls g seg at1 e1 0 at2 e3 wn _ HI.out HBN.out HE.out).mono ?_); rintro e w4 ⟨rfl, hI, hBn, hK⟩; have HS2 := Aside0.mk (Kd.S_keep HS.out hK (fun _ h => h.2)); clear HI HBN HS; have HS := HS2; clear HS2; have HI := Aside0.mk hI; have HBN := Aside0.mk hBn; have HB := Aside0.mk (below_then HBW.out HLE.out hBn); clear hI hBn hK; obtain ⟨A3, c3, ev3, hc3, hC3⟩ := Kd.S_reads HS.out; subst ev3; have HC3 := Aside0.mk hc3; have HR3 := Aside0.mk hC3; clear hc3 hC3) | (go_at_call 25; (with_reducible refine (dump_Put.calls k A3 c3 vs ag 0 _ HR3.out HC3.out HQ.out).mono ?_); rintro e w5 ⟨v5, rfl, hR, hb⟩; have HS2 := Aside0.mk (Kd.S_below HS.out hb); have HB2 := Aside0.mk (below_then HB.out HB.out.size hb); clear HS HB; have HS := HS2; have HB := HB2; clear HS2 HB2; obtain ⟨A5, c5, ev5, hc5, hC5⟩ := Kd.R_reads hR; subst ev5; have HC5 := Aside0.mk hc5; have HR5 := Aside0.mk hC5; clear hR hb hc5 hC5) | (go_at_call 78; (with_reducible refine (HEQ.out A5 c5 _ (by exact HB.out) HR5.out HC5.out).mono ?_); rintro e w' ⟨rfl, ⟨nd2, rfl⟩⟩; have HS2 := Aside0.mk (Kd.S_drewN HS.out nd2); have HB2 := Aside0.mk (pw_below_drewN HB.out nd2); clear HS HB; have HS := HS2; have HB := HB2; clear HS2 HB2))
  go_ret2
  exact ⟨_, rfl, Kd.S_mono HS.out (fun _ _ => trivial), HB.out⟩

def dump_Get.f (k : Nat) (l0 : List Int) : Option (List S136 × Int) := (crc_Fits.f k l0).bind fun b => if b = false then some ([], 5) else if 4 ≤ l0.length then ((strings_HasPrefix.f (strOfNums (l0.take (l0.length - 4))) (⟨#[109, 114, 99, 116]⟩ : ByteArray)).bind fun p => if p = false then some ([], 7) else if 8 ≤ l0.length ∧ l0.length < 140737488355328 then ((dump_volumes.f k ((l0.take (l0.length - 4)).drop 4) 0 0).bind fun q => (pack_Reader_End.f ((l0.take (l0.length - 4)).drop 4) q.2.1 q.2.2).bind fun t => if t.1 != 0 then some ([], t.1) else ((dump_Put.f k q.1).bind fun u => if u.2 != 0 then some ([], 3) else ((slices_Equal_byte_byte.f k u.1 l0).bind fun v => if v = true then some (q.1, 0) else some ([], 3)))) else none) else none
theorem dump_Get.mono : ∀ a0 k, LeO (dump_Get.f k a0) (dump_Get.f (k + 1) a0) := by
  intro a0 k
  unfold dump_Get.f
  repeat' first
      | (with_reducible exact crc_Fits.mono _ _)
      | (with_reducible exact dump_volumes.mono _ _ _ _)
      | (with_reducible exact dump_Put.mono _ _)
      | (with_reducible exact slices_Equal_byte_byte.mono _ _ _)
      | (with_reducible exact LeO.refl _)
      | (with_reducible exact LeO.none _)
      | (with_reducible refine LeO.ite ?_ ?_)
      | (with_reducible refine LeO.bind ?_ (fun _ => ?_))

theorem dump_Get.calls (k : Nat) (A0 : Option Addr) (c0 : Nat) (l0 : List Int) (r1 : List (S136)) (r2 : Int) (w : World) (hr0 : Kd.C (Kd.int .u8) w A0 l0.length l0) (hc0 : l0.length ≤ c0) (h : dump_Get.f k l0 = some (r1, r2)) :
    Calls Try.prog 22 #[.slice A0 l0.length c0] w fun e w' => ∃ v0_ : Value, e = .returned (.tuple #[v0_, .int .i64 r2]) ∧ Kd.S k136 136 w' w.heap.size (fun _ => True) v0_ r1 ∧ Below w.heap.size w w' := by
  have HBW : ∀ W, Below w.heap.size w W → Kd.C (Kd.int .u8) W A0 l0.length l0 := fun W hb => Kd.C_below hr0 hb
  have fb : ∀ {W W' : World}, Below w.heap.size w W → Below W.heap.size W W' → Below w.heap.size w W' := fun hb h2 => below_then hb hb.size h2
  unfold dump_Get.f at h
  obtain ⟨b, hb, h⟩ := Option.bind_eq_some_iff.mp h
  have hF : ∀ W, Below w.heap.size w W → Calls Try.prog 73 #[.slice A0 l0.length c0] W fun e w' => e = .returned (.bool b) ∧ Below w.heap.size w w' := by
    intro W hW
    refine (crc_Fits.calls k A0 c0 l0 b W (HBW W hW) hc0 hb).mono ?_
    rintro e w' ⟨rfl, h2⟩
    exact ⟨rfl, fb hW h2⟩
  cases b with
  | false =>
    rw [if_pos rfl] at h
    simp only [Option.some.injEq, Prod.mk.injEq] at h
    obtain ⟨rfl, rfl⟩ := h
    exact Get_sum c0 l0.length A0 w ⟨Below.refl _ _⟩ ⟨hF⟩
  | true =>
  rw [if_neg (by decide)] at h
  by_cases h4 : 4 ≤ l0.length
  · rw [if_pos h4] at h
    obtain ⟨ad, rfl⟩ : ∃ ad, A0 = some ad := by
      cases A0 with
      | some ad => exact ⟨ad, rfl⟩
      | none => obtain ⟨ad, he, _⟩ := hr0.2.2 (by omega); cases he
    obtain ⟨p, hp, h⟩ := Option.bind_eq_some_iff.mp h
    have hmx := Kd.C_max hr0
    have htk : (l0.take (l0.length - 4)).length = l0.length - 4 := by rw [List.length_take]; omega
    have hcv : ∀ W, Below w.heap.size w W → (convert 31 9 (.slice (some ad) (l0.length - 4) c0)).run Try.prog W = .ok (.string (strOfNums (l0.take (l0.length - 4)))) W := by
      intro W hW
      have := Kd.C_take (m := l0.length - 4) (HBW W hW) (by omega)
      rw [htk] at this
      exact Kd.C_string Try.underlying31 Try.underlying5 Try.underlying9 this
    cases p with
    | false =>
      rw [if_pos rfl] at h
      simp only [Option.some.injEq, Prod.mk.injEq] at h
      obtain ⟨rfl, rfl⟩ := h
      have e4 : l0.length - 4 + 4 = l0.length := by omega
      have := Get_kind k ad c0 (l0.length - 4) l0 w (by omega) (by omega) (by rw [e4]; exact hF) hcv hp
      rw [e4] at this
      exact this
    | true =>
    rw [if_neg (by decide)] at h
    by_cases h8 : 8 ≤ l0.length ∧ l0.length < 140737488355328
    · rw [if_pos h8] at h
      obtain ⟨h8, hbig⟩ := h8
      obtain ⟨⟨vs, at1, e1⟩, hV, h⟩ := Option.bind_eq_some_iff.mp h
      obtain ⟨⟨e2, at2, e3⟩, hE, h⟩ := Option.bind_eq_some_iff.mp h
      dsimp only at hE h
      generalize hn : l0.length - 8 = n
      have e8 : l0.length = n + 4 + 4 := by omega
      have e5 : l0.length - 4 = n + 4 := by omega
      have hnew : ∀ W, Below w.heap.size w W → Calls Try.prog 75 #[.slice (some ⟨ad.block, ad.off + 4, none⟩) n (c0 - 4)] W fun e w' => ∃ (g : Nat) (w0 : World), e = .returned (.pointer (some ⟨g, 0, none⟩)) ∧ IsS206 w0 w' g ((l0.take (l0.length - 4)).drop 4) 0 0 ∧ Below w0.heap.size w0 w' ∧ Below W.heap.size W w0 ∧ W.heap.size ≤ w0.heap.size := by
        intro W hW
        have hl : ((l0.take (l0.length - 4)).drop 4).length = n := by rw [List.length_drop, htk]; omega
        have hc := Kd.C_mid (lo := 4) (hi := l0.length - 4) (HBW W hW) (by omega) (by omega) hc0
        rw [if_neg (by omega)] at hc
        have := pack_New_own _ (c0 - 4) ((l0.take (l0.length - 4)).drop 4) W hc (by rw [hl]; omega) (by rw [hl]; omega)
        rw [hl] at this

        exact this
      rw [e5] at hcv hp hV hE hnew
      rw [e8] at hF
      by_cases he2 : (e2 != 0) = true
      · rw [if_pos he2] at h
        simp only [Option.some.injEq, Prod.mk.injEq] at h
        obtain ⟨rfl, rfl⟩ := h
        rw [e8]
        exact Get_end k ad c0 n l0 _ w vs at1 e1 e2 at2 e3 (by omega) (by omega) hF hcv hp hnew hV hE he2
      · rw [if_neg he2] at h
        have : e2 = 0 := by simpa using he2
        subst this
        obtain ⟨⟨ag, e4⟩, hQ, h⟩ := Option.bind_eq_some_iff.mp h
        dsimp only at h
        by_cases he4 : (e4 != 0) = true
        · rw [if_pos he4] at h
          simp only [Option.some.injEq, Prod.mk.injEq] at h
          obtain ⟨rfl, rfl⟩ := h
          rw [e8]
          exact Get_put k ad c0 n l0 _ w vs at1 e1 at2 e3 (by omega) (by omega) hF hcv hp hnew hV hE ag e4 hQ he4
        · rw [if_neg he4] at h
          have : e4 = 0 := by simpa using he4
          subst this
          obtain ⟨v, hv, h⟩ := Option.bind_eq_some_iff.mp h
          have heq : ∀ A5 c5 W, Below w.heap.size w W → Kd.C (Kd.int .u8) W A5 ag.length ag → ag.length ≤ c5 → Calls Try.prog 78 #[.slice A5 ag.length c5, .slice (some ad) (n + 4 + 4) c0] W fun e w' => e = .returned (.bool v) ∧ Drawn0 W w' := by
            intro A5 c5 W hW hC hc
            have := slices_Equal_byte_byte.calls k A5 c5 ag (some ad) c0 l0 v W hC hc (HBW W hW) hc0 hv
            rw [e8] at this
            exact this
          cases v with
          | false =>
            rw [if_neg (by decide)] at h
            simp only [Option.some.injEq, Prod.mk.injEq] at h
            obtain ⟨rfl, rfl⟩ := h
            rw [e8]
            exact Get_apart k ad c0 n l0 _ w vs at1 e1 at2 e3 (by omega) (by omega) hF hcv hp hnew hV hE ag hQ heq
          | true =>
            rw [if_pos rfl] at h
            simp only [Option.some.injEq, Prod.mk.injEq] at h
            obtain ⟨rfl, rfl⟩ := h
            rw [e8]
            exact Get_same k ad c0 n l0 _ w vs at1 e1 at2 e3 (by omega) (by omega) hF hcv hp hnew hV hE ag hQ heq
    · rw [if_neg h8] at h
      cases h
  · rw [if_neg h4] at h
    cases h
end Go.Proofs.Ytfdemnefkfkghaa.X
/- Functions of the program as Lean functions, and that their calls come to them: written by xprint.py of this session, out of the kit's print program. -/
namespace Go.Proofs.Ytfdemnefkfkghaa.X
open Go.RowKit Go.Proofs.YtfdemnefkfkghaaW.PrintWords Go.Proofs.YtfdemnefkfkghaaW.PrintLast Go.Proofs.YtfdemnefkfkghaaW.PrintMore
attribute [local go_sem] max2_int min2_int max_two min_two max_three min_three max_four min_four   -- for this text's walks alone
attribute [local go_sem high] Go.Proofs.Ytfdemnefkfkghaa.XW.leq Go.Proofs.Ytfdemnefkfkghaa.XW.gtr Go.Proofs.Ytfdemnefkfkghaa.XW.geq
set_option linter.unusedVariables false
set_option linter.unusedSimpArgs false

/-! ### marcotlaw32_DumpSpoilt: function 6 -/
mutual
def marcotlaw32_DumpSpoilt.j0 : Nat → List (S136) → Int → Int → Bool → Option (Bool)
  | 0, _, _, _, _ => none
  | k + 1, x0, x1, x2, x18 => if x18 = true then ((marcotlaw32_awake.f k).bind fun t102 => (some t102)) else ((dump_Put.f k x0).bind fun bt103 => (if bt103.2 = 0 then (marcotlaw32_DumpSpoilt.j1 k x1 x2 bt103.1 bt103.2 (decide ((bt103.1.length : Int) < 4))) else (marcotlaw32_DumpSpoilt.j1 k x1 x2 bt103.1 bt103.2 true)))
def marcotlaw32_DumpSpoilt.j1 : Nat → Int → Int → List Int → Int → Bool → Option (Bool)
  | 0, _, _, _, _, _ => none
  | k + 1, x1, x2, x7, x8, x31 => if x31 = true then (if x8 = 0 then (some false) else ((marcotlaw32_awake.f k).bind fun t107 => (some t107))) else (if x1 < 0 then (marcotlaw32_DumpSpoilt.j2 k x1 x2 x7 true) else (marcotlaw32_DumpSpoilt.j2 k x1 x2 x7 (decide (x1 > (wrap64 ((x7.length : Int) - 4))))))
def marcotlaw32_DumpSpoilt.j2 : Nat → Int → Int → List Int → Bool → Option (Bool)
  | 0, _, _, _, _ => none
  | k + 1, x1, x2, x7, x45 => if x45 = true then ((marcotlaw32_awake.f k).bind fun t108 => (some t108)) else (marcotlaw32_DumpSpoilt.l0 k x1 x7 x2 0)
def marcotlaw32_DumpSpoilt.l0 : Nat → Int → List Int → Int → Int → Option (Bool)
  | 0, _, _, _, _ => none
  | k + 1, x1, x7, x9, x10 => if x10 < 4 then (if 0 ≤ (wrap64 (x1 + x10)) then (if (wrap64 (x1 + x10)) < (x7.length : Int) then (marcotlaw32_DumpSpoilt.l0 k x1 (x7.set ((wrap64 (x1 + x10)) : Int).toNat (Go.bits .xor .u8 (rd x7 (wrap64 (x1 + x10))) ((Int.tmod x9 256) % 256))) ((Int.tdiv x9 256) % 4294967296) (wrap64 (x10 + 1))) else (none)) else (none)) else ((dump_Get.f k x7).bind fun bt111 => (if (bt111.1.length : Int) = 0 then (if bt111.2 = 5 then ((marcotlaw32_awake.f k).bind fun t115 => (some t115)) else (some false)) else (some false)))
end
def marcotlaw32_DumpSpoilt.f (k : Nat) (l0 : List (S136)) (a1 : Int) (a2 : Int) : Option (Bool) := (marcotref32_Great.f k l0).bind fun t101 => (if t101 = true then (marcotlaw32_DumpSpoilt.j0 k l0 a1 a2 true) else (marcotlaw32_DumpSpoilt.j0 k l0 a1 a2 (a2 == 0)))
theorem marcotlaw32_DumpSpoilt.mono_l : ∀ k, (∀ y0 y1 y2 y3, LeO (marcotlaw32_DumpSpoilt.j0 k y0 y1 y2 y3) (marcotlaw32_DumpSpoilt.j0 (k + 1) y0 y1 y2 y3)) ∧ (∀ y0 y1 y2 y3 y4, LeO (marcotlaw32_DumpSpoilt.j1 k y0 y1 y2 y3 y4) (marcotlaw32_DumpSpoilt.j1 (k + 1) y0 y1 y2 y3 y4)) ∧ (∀ y0 y1 y2 y3, LeO (marcotlaw32_DumpSpoilt.j2 k y0 y1 y2 y3) (marcotlaw32_DumpSpoilt.j2 (k + 1) y0 y1 y2 y3)) ∧ (∀ y0 y1 y2 y3, LeO (marcotlaw32_DumpSpoilt.l0 k y0 y1 y2 y3) (marcotlaw32_DumpSpoilt.l0 (k + 1) y0 y1 y2 y3))
  | 0 => ⟨fun _ _ _ _ r h => by simp [marcotlaw32_DumpSpoilt.j0] at h, fun _ _ _ _ _ r h => by simp [marcotlaw32_DumpSpoilt.j1] at h, fun _ _ _ _ r h => by simp [marcotlaw32_DumpSpoilt.j2] at h, fun _ _ _ _ r h => by simp [marcotlaw32_DumpSpoilt.l0] at h⟩
  | k + 1 => by
    obtain ⟨ih0, ih1, ih2, ih3⟩ := marcotlaw32_DumpSpoilt.mono_l k
    refine ⟨?_, ?_, ?_, ?_⟩
    · intro y0 y1 y2 y3
      unfold marcotlaw32_DumpSpoilt.j0
      repeat' first
      | (with_reducible exact ih0 _ _ _ _)
      | (with_reducible exact ih1 _ _ _ _ _)
      | (with_reducible exact ih2 _ _ _ _)
      | (with_reducible exact ih3 _ _ _ _)
      | (with_reducible exact dump_Get.mono _ _)
      | (with_reducible exact dump_Put.mono _ _)
      | (with_reducible exact marcotlaw32_awake.mono _)
      | (with_reducible exact marcotref32_Great.mono _ _)
      | (with_reducible exact LeO.refl _)
      | (with_reducible exact LeO.none _)
      | (with_reducible refine LeO.ite ?_ ?_)
      | (with_reducible refine LeO.bind ?_ (fun _ => ?_))
      | exact ih0 _ _ _ _
      | exact ih1 _ _ _ _ _
      | exact ih2 _ _ _ _
      | exact ih3 _ _ _ _
      | exact dump_Get.mono _ _
      | exact dump_Put.mono _ _
      | exact marcotlaw32_awake.mono _
      | exact marcotref32_Great.mono _ _
      | exact LeO.none _
      | refine LeO.ite ?_ ?_
      | refine LeO.bind ?_ (fun _ => ?_)
    · intro y0 y1 y2 y3 y4
      unfold marcotlaw32_DumpSpoilt.j1
      repeat' first
      | (with_reducible exact ih0 _ _ _ _)
      | (with_reducible exact ih1 _ _ _ _ _)
      | (with_reducible exact ih2 _ _ _ _)
      | (with_reducible exact ih3 _ _ _ _)
      | (with_reducible exact dump_Get.mono _ _)
      | (with_reducible exact dump_Put.mono _ _)
      | (with_reducible exact marcotlaw32_awake.mono _)
      | (with_reducible exact marcotref32_Great.mono _ _)
      | (with_reducible exact LeO.refl _)
      | (with_reducible exact LeO.none _)
      | (with_reducible refine LeO.ite ?_ ?_)
      | (with_reducible refine LeO.bind ?_ (fun _ => ?_))
      | exact ih0 _ _ _ _
      | exact ih1 _ _ _ _ _
      | exact ih2 _ _ _ _
      | exact ih3 _ _ _ _
      | exact dump_Get.mono _ _
      | exact dump_Put.mono _ _
      | exact marcotlaw32_awake.mono _
      | exact marcotref32_Great.mono _ _
      | exact LeO.none _
      | refine LeO.ite ?_ ?_
      | refine LeO.bind ?_ (fun _ => ?_)
    · intro y0 y1 y2 y3
      unfold marcotlaw32_DumpSpoilt.j2
      repeat' first
      | (with_reducible exact ih0 _ _ _ _)
      | (with_reducible exact ih1 _ _ _ _ _)
      | (with_reducible exact ih2 _ _ _ _)
      | (with_reducible exact ih3 _ _ _ _)
      | (with_reducible exact dump_Get.mono _ _)
      | (with_reducible exact dump_Put.mono _ _)
      | (with_reducible exact marcotlaw32_awake.mono _)
      | (with_reducible exact marcotref32_Great.mono _ _)
      | (with_reducible exact LeO.refl _)
      | (with_reducible exact LeO.none _)
      | (with_reducible refine LeO.ite ?_ ?_)
      | (with_reducible refine LeO.bind ?_ (fun _ => ?_))
      | exact ih0 _ _ _ _
      | exact ih1 _ _ _ _ _
      | exact ih2 _ _ _ _
      | exact ih3 _ _ _ _
      | exact dump_Get.mono _ _
      | exact dump_Put.mono _ _
      | exact marcotlaw32_awake.mono _
      | exact marcotref32_Great.mono _ _
      | exact LeO.none _
      | refine LeO.ite ?_ ?_
      | refine LeO.bind ?_ (fun _ => ?_)
    · intro y0 y1 y2 y3
      unfold marcotlaw32_DumpSpoilt.l0
      repeat' first
      | (with_reducible exact ih0 _ _ _ _)
      | (with_reducible exact ih1 _ _ _ _ _)
      | (with_reducible exact ih2 _ _ _ _)
      | (with_reducible exact ih3 _ _ _ _)
      | (with_reducible exact dump_Get.mono _ _)
      | (with_reducible exact dump_Put.mono _ _)
      | (with_reducible exact marcotlaw32_awake.mono _)
      | (with_reducible exact marcotref32_Great.mono _ _)
      | (with_reducible exact LeO.refl _)
      | (with_reducible exact LeO.none _)
      | (with_reducible refine LeO.ite ?_ ?_)
      | (with_reducible refine LeO.bind ?_ (fun _ => ?_))
      | exact ih0 _ _ _ _
      | exact ih1 _ _ _ _ _
      | exact ih2 _ _ _ _
      | exact ih3 _ _ _ _
      | exact dump_Get.mono _ _
      | exact dump_Put.mono _ _
      | exact marcotlaw32_awake.mono _
      | exact marcotref32_Great.mono _ _
      | exact LeO.none _
      | refine LeO.ite ?_ ?_
      | refine LeO.bind ?_ (fun _ => ?_)
theorem marcotlaw32_DumpSpoilt.mono : ∀ a0 a1 a2 k, LeO (marcotlaw32_DumpSpoilt.f k a0 a1 a2) (marcotlaw32_DumpSpoilt.f (k + 1) a0 a1 a2) := by
  intro a0 a1 a2 k
  obtain ⟨ih0, ih1, ih2, ih3⟩ := marcotlaw32_DumpSpoilt.mono_l k
  unfold marcotlaw32_DumpSpoilt.f
  repeat' first
      | (with_reducible exact ih0 _ _ _ _)
      | (with_reducible exact ih1 _ _ _ _ _)
      | (with_reducible exact ih2 _ _ _ _)
      | (with_reducible exact ih3 _ _ _ _)
      | (with_reducible exact dump_Get.mono _ _)
      | (with_reducible exact dump_Put.mono _ _)
      | (with_reducible exact marcotlaw32_awake.mono _)
      | (with_reducible exact marcotref32_Great.mono _ _)
      | (with_reducible exact LeO.refl _)
      | (with_reducible exact LeO.none _)
      | (with_reducible refine LeO.ite ?_ ?_)
      | (with_reducible refine LeO.bind ?_ (fun _ => ?_))
      | exact ih0 _ _ _ _
      | exact ih1 _ _ _ _ _
      | exact ih2 _ _ _ _
      | exact ih3 _ _ _ _
      | exact dump_Get.mono _ _
      | exact dump_Put.mono _ _
      | exact marcotlaw32_awake.mono _
      | exact marcotref32_Great.mono _ _
      | exact LeO.none _
      | refine LeO.ite ?_ ?_
      | refine LeO.bind ?_ (fun _ => ?_)
set_option maxHeartbeats 8000000 in
set_option maxRecDepth 100000 in
theorem marcotlaw32_DumpSpoilt.calls (k : Nat) (A0 : Option Addr) (c0 : Nat) (l0 : List (S136)) (a1 : Int) (a2 : Int) (r : Bool) (w : World) (hr0 : Kd.C k136 w A0 l0.length l0) (hc0 : l0.length ≤ c0) (h : marcotlaw32_DumpSpoilt.f k l0 a1 a2 = some r) :
    Calls Try.prog 6 #[.slice A0 l0.length c0, .int .i64 a1, .int .u32 a2] w fun e w' => e = .returned (.bool r) ∧ Below w.heap.size w w' := by
  have HR0 := Aside0.mk hr0
  have HC0 := Aside0.mk hc0
  clear hr0 hc0
  have HB := Aside0.mk (Below.refl w.heap.size w)
  have H : ((marcotref32_Great.f k l0).bind fun t101 => (if t101 = true then (marcotlaw32_DumpSpoilt.j0 k l0 a1 a2 true) else (marcotlaw32_DumpSpoilt.j0 k l0 a1 a2 (a2 == 0)))) = some r := h
  clear h
  have HC4 := Aside0.mk H
  clear H
  go_enter Try.func6, Try.ntmps6
  go_upto_region 1 with (fail)
  go_cut [18] (fun v18 wc => ∃ (kq : Nat) (x18_3 : Bool), v18 = .bool x18_3 ∧ Aside0 (marcotlaw32_DumpSpoilt.j0 kq l0 a1 a2 x18_3 = some r) ∧ Aside0 (kq ≤ k) ∧ Aside0 (Below w.heap.size w wc))
  case first =>
    have H := HC4.out
    clear HC4
    replace H := Option.bind_eq_some_iff.mp H
    obtain ⟨t101, A50, H⟩ := H
    replace H : (if t101 = true then (marcotlaw32_DumpSpoilt.j0 k l0 a1 a2 true) else (marcotlaw32_DumpSpoilt.j0 k l0 a1 a2 (a2 == 0))) = some r := H
    have A5 := Aside0.mk A50
    clear A50
    by_cases c6 : t101 = true
    · subst c6
      have H1 : (marcotlaw32_DumpSpoilt.j0 k l0 a1 a2 true) = some r := by rw [if_pos rfl] at H; exact H
      clear H
      have H := H1
      clear H1
      have H' := Aside0.mk H
      clear H
      go_wp2_with (first | ((with_reducible refine gate_callee (f := 26) rfl ?_); refine goesL_ (some 14) rfl rfl Try.func26 (by kernel_rfl) rfl #[.slice A0 l0.length c0] rfl (by (try simp only [List.map_toArray, List.map_cons, List.map_nil]); first | done | rfl | (simp only [List.length_drop, List.length_take]; rfl)) ?_; (with_reducible refine (marcotref32_Great.calls k _ _ l0 true _ ?side1 ?side2 A5.out).mono ?_); (case side1 => repeat (first | exact (Kd.C_below HR0.out HB.out) | (with_reducible refine Kd.C_alloc ?_ _) | (with_reducible refine Kd.C_drewN ?_ _) | (with_reducible refine Kd.C_drew ?_))); (case side2 => exact HC0.out); rintro e w' ⟨rfl, ⟨nd, rfl⟩⟩; refine ⟨_, rfl, ?_⟩))
      go_meet
      case rel => exact ⟨_, (true), (by first | rfl | (simp; done) | (simp [*]; done)), H', ⟨by first | omega | exact Nat.le_refl _⟩, ⟨by repeat (first | (with_reducible first | exact HB.out | apply below_alloc | apply pw_below_drewN | apply below_drew1) | exact HB.out)⟩⟩
    · replace c6 := Bool.eq_false_iff.mpr c6
      subst c6
      have H1 : (marcotlaw32_DumpSpoilt.j0 k l0 a1 a2 (a2 == 0)) = some r := by rw [if_neg (show ¬ (false = true) by decide)] at H; exact H
      clear H
      have H := H1
      clear H1
      have H' := Aside0.mk H
      clear H
      go_wp2_with (first | ((with_reducible refine gate_callee (f := 26) rfl ?_); refine goesL_ (some 14) rfl rfl Try.func26 (by kernel_rfl) rfl #[.slice A0 l0.length c0] rfl (by (try simp only [List.map_toArray, List.map_cons, List.map_nil]); first | done | rfl | (simp only [List.length_drop, List.length_take]; rfl)) ?_; (with_reducible refine (marcotref32_Great.calls k _ _ l0 false _ ?side1 ?side2 A5.out).mono ?_); (case side1 => repeat (first | exact (Kd.C_below HR0.out HB.out) | (with_reducible refine Kd.C_alloc ?_ _) | (with_reducible refine Kd.C_drewN ?_ _) | (with_reducible refine Kd.C_drew ?_))); (case side2 => exact HC0.out); rintro e w' ⟨rfl, ⟨nd, rfl⟩⟩; refine ⟨_, rfl, ?_⟩))
      go_meet
      case rel => exact ⟨_, ((a2 == 0)), (by first | rfl | (simp; done) | (simp [*]; done)), H', ⟨by first | omega | exact Nat.le_refl _⟩, ⟨by repeat (first | (with_reducible first | exact HB.out | apply below_alloc | apply pw_below_drewN | apply below_drew1) | exact HB.out)⟩⟩
  case rest =>
    clear HC4
    try clear c2
    try clear p2
    try clear c6
    obtain ⟨kq, x18_3, rfl, HA, HJ3, HB⟩ := hcut
    cases kq with
    | zero => exact absurd HA.out (by simp [marcotlaw32_DumpSpoilt.j0])
    | succ kj3 =>
      have H := HA.out
      clear HA
      simp only [marcotlaw32_DumpSpoilt.j0] at H
      by_cases c7 : x18_3 = true
      · subst c7
        have H1 : ((marcotlaw32_awake.f kj3).bind fun t102 => (some t102)) = some r := by rw [if_pos rfl] at H; exact H
        clear H
        have H := H1
        clear H1
        replace H := Option.bind_eq_some_iff.mp H
        obtain ⟨t102, A80, H⟩ := H
        replace H : (some t102) = some r := H
        have A8 := Aside0.mk A80
        clear A80
        obtain rfl := Option.some.inj H
        go_wp2_with (first | ((with_reducible refine gate_callee (f := 20) rfl ?_); refine goesL_ (some 19) rfl rfl Try.func20 (by kernel_rfl) rfl #[] rfl (by (try simp only [List.map_toArray, List.map_cons, List.map_nil]); first | done | rfl | (simp only [List.length_drop, List.length_take]; rfl)) ?_; (with_reducible refine (marcotlaw32_awake.calls kj3  t102 _ A8.out).mono ?_); rintro e w9 ⟨rfl, hb⟩; refine ⟨_, rfl, ?_⟩; have n0_ := Aside0.mk (below_step (by repeat (first | (with_reducible first | exact HB.out | apply below_alloc | apply pw_below_drewN | apply below_drew1) | exact HB.out)) hb); clear HB; have HB := n0_; clear n0_; (try clear hb); (try clear hb2); (try clear hk); (try clear hi)))
        go_ret
        exact ⟨by first | rfl | (simp [errW_none, errW_some] <;> rfl) | (simp [*, errW_none, errW_some] <;> rfl), by repeat (first | (with_reducible first | exact HB.out | apply below_alloc | apply pw_below_drewN | apply below_drew1) | exact HB.out)⟩
      · replace c7 := Bool.eq_false_iff.mpr c7
        subst c7
        have H1 : ((dump_Put.f kj3 l0).bind fun bt103 => (if bt103.2 = 0 then (marcotlaw32_DumpSpoilt.j1 kj3 a1 a2 bt103.1 bt103.2 (decide ((bt103.1.length : Int) < 4))) else (marcotlaw32_DumpSpoilt.j1 kj3 a1 a2 bt103.1 bt103.2 true))) = some r := by rw [if_neg (show ¬ (false = true) by decide)] at H; exact H
        clear H
        have H := H1
        clear H1
        replace H := Option.bind_eq_some_iff.mp H
        obtain ⟨⟨t103, t104⟩, A100, H⟩ := H
        replace H : (if t104 = 0 then (marcotlaw32_DumpSpoilt.j1 kj3 a1 a2 t103 t104 (decide ((t103.length : Int) < 4))) else (marcotlaw32_DumpSpoilt.j1 kj3 a1 a2 t103 t104 true)) = some r := H
        have A10 := Aside0.mk A100
        clear A100
        have HC11 := Aside0.mk H
        clear H
        go_upto_region 4 with (first | ((with_reducible refine gate_callee (f := 25) rfl ?_); refine goesL_ (some 22) rfl rfl Try.func25 (by kernel_rfl) rfl #[.slice A0 l0.length c0] rfl (by (try simp only [List.map_toArray, List.map_cons, List.map_nil]); first | done | rfl | (simp only [List.length_drop, List.length_take]; rfl)) ?_; (with_reducible refine (dump_Put.calls kj3 _ _ l0 t103 t104 _ ?side1 ?side2 A10.out).mono ?_); (case side1 => repeat (first | exact (Kd.C_below HR0.out HB.out) | (with_reducible refine Kd.C_alloc ?_ _) | (with_reducible refine Kd.C_drewN ?_ _) | (with_reducible refine Kd.C_drew ?_))); (case side2 => exact HC0.out); rintro e w12 ⟨v105, rfl, ho0, hb⟩; refine ⟨_, rfl, ?_⟩; have n0_ := Aside0.mk (Kd.R_lower ho0 (below_size (by repeat (first | (with_reducible first | exact HB.out | apply below_alloc | apply pw_below_drewN | apply below_drew1) | exact HB.out)))); have n1_ := Aside0.mk (below_step (by repeat (first | (with_reducible first | exact HB.out | apply below_alloc | apply pw_below_drewN | apply below_drew1) | exact HB.out)) hb); clear HB; have HO106 := n0_; have HB := n1_; clear n0_ n1_; (try clear hb); (try clear hb2); (try clear hk); (try clear hi); (try clear ho0)))
        (try simp only [Act.put, List.setIfInBounds_toArray, List.set_cons_zero, List.set_cons_succ])
        go_cut [31] (fun v31 wc => ∃ (kq : Nat) (x31_10 : Bool), v31 = .bool x31_10 ∧ Aside0 (marcotlaw32_DumpSpoilt.j1 kq a1 a2 t103 t104 x31_10 = some r) ∧ Aside0 (kq ≤ kj3) ∧ Aside0 (Kd.R (Kd.int .u8) 5 wc w.heap.size (fun _ => True) v105 t103) ∧ Aside0 (Below w.heap.size w wc))
        case first =>
          have H := HC11.out
          clear HC11
          by_cases c13 : t104 = 0
          · rw [if_pos c13] at H
            have c13b0 : (t104 == 0) = true := beq_iff_eq.mpr c13
            have c13b1 : (t104 != 0) = false := bne_eq_false_iff_eq.mpr c13
            clear c13
            (first | rw [c13b0] | (simp only [i64_w, i32_w]; rw [c13b0]) | skip)
            have H' := Aside0.mk H
            clear H
            obtain ⟨Ao14, co14, eo14⟩ := Kd.R_slice HO106.out
            subst eo14
            go_wp2
            go_meet
            case rel => exact ⟨_, (decide ((t103.length : Int) < 4)), (by first | rfl | (simp; done) | (simp [*]; done)), H', ⟨by have := HJ3.out; first | omega | exact Nat.le_refl _⟩, ⟨by (with_reducible repeat (first | apply Kd.R_alloc | apply Kd.R_drewN | apply Kd.R_drew)); exact HO106.out⟩, ⟨by repeat (first | (with_reducible first | exact HB.out | apply below_alloc | apply pw_below_drewN | apply below_drew1) | exact HB.out)⟩⟩
          · rw [if_neg c13] at H
            have c13b0 : (t104 == 0) = false := beq_eq_false_iff_ne.mpr c13
            have c13b1 : (t104 != 0) = true := bne_iff_ne.mpr c13
            (first | rw [c13b0] | (simp only [i64_w, i32_w]; rw [c13b0]) | skip)
            have H' := Aside0.mk H
            clear H
            go_wp2
            go_meet
            case rel => exact ⟨_, (true), (by first | rfl | (simp; done) | (simp [*]; done)), H', ⟨by have := HJ3.out; first | omega | exact Nat.le_refl _⟩, ⟨by (with_reducible repeat (first | apply Kd.R_alloc | apply Kd.R_drewN | apply Kd.R_drew)); exact HO106.out⟩, ⟨by repeat (first | (with_reducible first | exact HB.out | apply below_alloc | apply pw_below_drewN | apply below_drew1) | exact HB.out)⟩⟩
        case rest =>
          clear HC11
          try clear c1
          try clear c2
          try clear p2
          try clear c6
          try clear c7
          try clear c13
          try clear c13b0
          try clear c13b1
          try clear p2
          obtain ⟨kq, x31_10, rfl, HA, HJ10, HO_7, HB⟩ := hcut
          cases kq with
          | zero => exact absurd HA.out (by simp [marcotlaw32_DumpSpoilt.j1])
          | succ kj10 =>
            have H := HA.out
            clear HA
            simp only [marcotlaw32_DumpSpoilt.j1] at H
            by_cases c15 : x31_10 = true
            · subst c15
              have H1 : (if t104 = 0 then (some false) else ((marcotlaw32_awake.f kj10).bind fun t107 => (some t107))) = some r := by rw [if_pos rfl] at H; exact H
              clear H
              have H := H1
              clear H1
              by_cases c16 : t104 = 0
              · rw [if_pos c16] at H
                have c16b0 : (t104 == 0) = true := beq_iff_eq.mpr c16
                have c16b1 : (t104 != 0) = false := bne_eq_false_iff_eq.mpr c16
                clear c16
                obtain rfl := Option.some.inj H
                go_wp2
                go_ret
                exact ⟨by first | rfl | (simp [errW_none, errW_some] <;> rfl) | (simp [*, errW_none, errW_some] <;> rfl), by repeat (first | (with_reducible first | exact HB.out | apply below_alloc | apply pw_below_drewN | apply below_drew1) | exact HB.out)⟩
              · rw [if_neg c16] at H
                have c16b0 : (t104 == 0) = false := beq_eq_false_iff_ne.mpr c16
                have c16b1 : (t104 != 0) = true := bne_iff_ne.mpr c16
                replace H := Option.bind_eq_some_iff.mp H
                obtain ⟨t107, A170, H⟩ := H
                replace H : (some t107) = some r := H
                have A17 := Aside0.mk A170
                clear A170
                obtain rfl := Option.some.inj H
                go_wp2_with (first | (go_at_call 20; (with_reducible refine (marcotlaw32_awake.calls kj10  t107 _ A17.out).mono ?_); rintro e w18 ⟨rfl, hb⟩; have n0_ := Aside0.mk (Kd.R_below (by (with_reducible repeat (first | apply Kd.R_alloc | apply Kd.R_drewN | apply Kd.R_drew)); exact HO_7.out) hb); have n1_ := Aside0.mk (below_step (by repeat (first | (with_reducible first | exact HB.out | apply below_alloc | apply pw_below_drewN | apply below_drew1) | exact HB.out)) hb); clear HO_7; clear HB; have HO_7 := n0_; have HB := n1_; clear n0_ n1_; (try clear hb); (try clear hb2); (try clear hk); (try clear hi)))
                go_ret
                exact ⟨by first | rfl | (simp [errW_none, errW_some] <;> rfl) | (simp [*, errW_none, errW_some] <;> rfl), by repeat (first | (with_reducible first | exact HB.out | apply below_alloc | apply pw_below_drewN | apply below_drew1) | exact HB.out)⟩
            · replace c15 := Bool.eq_false_iff.mpr c15
              subst c15
              have H1 : (if a1 < 0 then (marcotlaw32_DumpSpoilt.j2 kj10 a1 a2 t103 true) else (marcotlaw32_DumpSpoilt.j2 kj10 a1 a2 t103 (decide (a1 > (wrap64 ((t103.length : Int) - 4)))))) = some r := by rw [if_neg (show ¬ (false = true) by decide)] at H; exact H
              clear H
              have H := H1
              clear H1
              have HC19 := Aside0.mk H
              clear H
              go_upto_region 6 with (fail)
              go_cut [45] (fun v45 wc => ∃ (kq : Nat) (x45_18 : Bool), v45 = .bool x45_18 ∧ Aside0 (marcotlaw32_DumpSpoilt.j2 kq a1 a2 t103 x45_18 = some r) ∧ Aside0 (kq ≤ kj10) ∧ Aside0 (Kd.R (Kd.int .u8) 5 wc w.heap.size (fun _ => True) v105 t103) ∧ Aside0 (Below w.heap.size w wc))
              case first =>
                have H := HC19.out
                clear HC19
                by_cases c20 : a1 < 0
                · rw [if_pos c20] at H
                  have c20b0 : decide (a1 < 0) = true := decide_eq_true c20
                  clear c20
                  (first | rw [c20b0] | (simp only [i64_w, i32_w]; rw [c20b0]) | skip)
                  have H' := Aside0.mk H
                  clear H
                  go_wp2
                  go_meet
                  case rel => exact ⟨_, (true), (by first | rfl | (simp; done) | (simp [*]; done)), H', ⟨by have := HJ3.out; have := HJ10.out; first | omega | exact Nat.le_refl _⟩, ⟨by (with_reducible repeat (first | apply Kd.R_alloc | apply Kd.R_drewN | apply Kd.R_drew)); exact HO_7.out⟩, ⟨by repeat (first | (with_reducible first | exact HB.out | apply below_alloc | apply pw_below_drewN | apply below_drew1) | exact HB.out)⟩⟩
                · rw [if_neg c20] at H
                  have c20b0 : decide (a1 < 0) = false := decide_eq_false c20
                  clear c20
                  (first | rw [c20b0] | (simp only [i64_w, i32_w]; rw [c20b0]) | skip)
                  have H' := Aside0.mk H
                  clear H
                  obtain ⟨Ao21, co21, eo21⟩ := Kd.R_slice HO_7.out
                  subst eo21
                  go_wp2
                  go_meet
                  case rel => exact ⟨_, (decide (a1 > (wrap64 ((t103.length : Int) - 4)))), (by first | rfl | (simp; done) | (simp [*]; done)), H', ⟨by have := HJ3.out; have := HJ10.out; first | omega | exact Nat.le_refl _⟩, ⟨by (with_reducible repeat (first | apply Kd.R_alloc | apply Kd.R_drewN | apply Kd.R_drew)); exact HO_7.out⟩, ⟨by repeat (first | (with_reducible first | exact HB.out | apply below_alloc | apply pw_below_drewN | apply below_drew1) | exact HB.out)⟩⟩
              case rest =>
                clear HC19
                try clear c1
                try clear c2
                try clear p2
                try clear c6
                try clear p6
                try clear c7
                try clear c13
                try clear c13b0
                try clear c13b1
                try clear c15
                try clear c16
                try clear c16b0
                try clear c16b1
                try clear c20
                try clear c20b0
                try clear p2
                obtain ⟨kq, x45_18, rfl, HA, HJ18, HO_7, HB⟩ := hcut
                cases kq with
                | zero => exact absurd HA.out (by simp [marcotlaw32_DumpSpoilt.j2])
                | succ kj18 =>
                  have H := HA.out
                  clear HA
                  simp only [marcotlaw32_DumpSpoilt.j2] at H
                  by_cases c22 : x45_18 = true
                  · subst c22
                    have H1 : ((marcotlaw32_awake.f kj18).bind fun t108 => (some t108)) = some r := by rw [if_pos rfl] at H; exact H
                    clear H
                    have H := H1
                    clear H1
                    replace H := Option.bind_eq_some_iff.mp H
                    obtain ⟨t108, A230, H⟩ := H
                    replace H : (some t108) = some r := H
                    have A23 := Aside0.mk A230
                    clear A230
                    obtain rfl := Option.some.inj H
                    go_wp2_with (first | ((with_reducible refine gate_callee (f := 20) rfl ?_); refine goesL_ (some 46) rfl rfl Try.func20 (by kernel_rfl) rfl #[] rfl (by (try simp only [List.map_toArray, List.map_cons, List.map_nil]); first | done | rfl | (simp only [List.length_drop, List.length_take]; rfl)) ?_; (with_reducible refine (marcotlaw32_awake.calls kj18  t108 _ A23.out).mono ?_); rintro e w24 ⟨rfl, hb⟩; refine ⟨_, rfl, ?_⟩; have n0_ := Aside0.mk (Kd.R_below (by (with_reducible repeat (first | apply Kd.R_alloc | apply Kd.R_drewN | apply Kd.R_drew)); exact HO_7.out) hb); have n1_ := Aside0.mk (below_step (by repeat (first | (with_reducible first | exact HB.out | apply below_alloc | apply pw_below_drewN | apply below_drew1) | exact HB.out)) hb); clear HO_7; clear HB; have HO_7 := n0_; have HB := n1_; clear n0_ n1_; (try clear hb); (try clear hb2); (try clear hk); (try clear hi)))
                    go_ret
                    exact ⟨by first | rfl | (simp [errW_none, errW_some] <;> rfl) | (simp [*, errW_none, errW_some] <;> rfl), by repeat (first | (with_reducible first | exact HB.out | apply below_alloc | apply pw_below_drewN | apply below_drew1) | exact HB.out)⟩
                  · replace c22 := Bool.eq_false_iff.mpr c22
                    subst c22
                    have H1 : (marcotlaw32_DumpSpoilt.l0 kj18 a1 t103 a2 0) = some r := by rw [if_neg (show ¬ (false = true) by decide)] at H; exact H
                    clear H
                    have H := H1
                    clear H1
                    have H' := Aside0.mk H
                    clear H
                    go_wp2
                    go_loopg [9, 10] kj18 (fun kq v9 v10 w' => ∃ (x7_4 : List Int) (x9_4 : Int) (x10_4 : Int), v9 = .int .u32 x9_4 ∧ v10 = .int .i64 x10_4 ∧ Aside0 (marcotlaw32_DumpSpoilt.l0 kq a1 x7_4 x9_4 x10_4 = some r) ∧ Aside0 (kq ≤ kj18) ∧ Aside0 (Kd.R (Kd.int .u8) 5 w' w.heap.size (fun _ => True) v105 x7_4) ∧ Aside0 (Below w.heap.size w w'))
                    case atStart => exact ⟨(t103), (a2), (0), (by first | rfl | (simp; done) | (simp [*]; done)), (by first | rfl | (simp; done) | (simp [*]; done)), H', ⟨Nat.le_refl _⟩, ⟨by (with_reducible repeat (first | apply Kd.R_alloc | apply Kd.R_drewN | apply Kd.R_drew)); exact HO_7.out⟩, ⟨by repeat (first | (with_reducible first | exact HB.out | apply below_alloc | apply pw_below_drewN | apply below_drew1) | exact HB.out)⟩⟩
                    case round =>
                      clear H'
                      try clear c1
                      try clear c2
                      try clear p2
                      try clear c6
                      try clear p6
                      try clear c7
                      try clear c13
                      try clear c13b0
                      try clear c13b1
                      try clear c15
                      try clear c16
                      try clear c16b0
                      try clear c16b1
                      try clear c20
                      try clear c20b0
                      try clear c22
                      try clear p2
                      try clear p6
                      obtain ⟨x7_4, x9_4, x10_4, rfl, rfl, HA, HK4, HO_7, HB⟩ := hrel
                      cases gk with
                      | zero => exact absurd HA.out (by simp [marcotlaw32_DumpSpoilt.l0])
                      | succ k4 =>
                        have H := HA.out
                        clear HA
                        simp only [marcotlaw32_DumpSpoilt.l0] at H
                        by_cases c25 : x10_4 < 4
                        · rw [if_pos c25] at H
                          have c25b0 : decide (x10_4 < 4) = true := decide_eq_true c25
                          clear c25
                          obtain ⟨ji26, hji26⟩ : ∃ j_ : Int, (wrap64 (a1 + x10_4)) = j_ := ⟨_, rfl⟩
                          replace H : (if 0 ≤ (ji26) then (if (ji26) < (x7_4.length : Int) then (marcotlaw32_DumpSpoilt.l0 k4 a1 (x7_4.set ((ji26) : Int).toNat (Go.bits .xor .u8 (rd x7_4 (ji26)) ((Int.tmod x9_4 256) % 256))) ((Int.tdiv x9_4 256) % 4294967296) (wrap64 (x10_4 + 1))) else (none)) else (none)) = some r := by first | (rw [hji26] at H; exact H) | (simp only [hji26] at H ⊢; exact H)
                          have hji26w : (IntKind.i64.wrap (a1 + x10_4)) = ji26 := (i64_w _).trans hji26
                          by_cases c27 : 0 ≤ (ji26)
                          · rw [if_pos c27] at H
                            have c27b0 : decide (0 ≤ (ji26)) = true := decide_eq_true c27
                            clear c27
                            by_cases c28 : (ji26) < (x7_4.length : Int)
                            · rw [if_pos c28] at H
                              have c28b0 : decide ((ji26) < (x7_4.length : Int)) = true := decide_eq_true c28
                              clear c28
                              obtain ⟨y110, hy110⟩ : ∃ y_ : List Int, y_ = (x7_4.set ((ji26) : Int).toNat (Go.bits .xor .u8 (rd x7_4 (ji26)) ((Int.tmod x9_4 256) % 256))) := ⟨_, rfl⟩
                              replace H : (marcotlaw32_DumpSpoilt.l0 k4 a1 y110 ((Int.tdiv x9_4 256) % 4294967296) (wrap64 (x10_4 + 1))) = some r := by first | (rw [hy110]; with_reducible exact H) | (have H2_ := (Option.bind_some _ _).symm.trans H; rw [hy110]; with_reducible exact H2_) | (have H2_ := (Option.bind_some _ _).symm.trans H; with_reducible exact H2_) | with_reducible exact H | (rw [hy110]; exact H) | exact H
                              have Ny110 := Aside0.mk hy110
                              clear hy110
                              have H' := Aside0.mk H
                              clear H
                              obtain ⟨Ao30, co30, eo30⟩ := Kd.R_slice HO_7.out
                              subst eo30
                              have p109 : 0 ≤ ((ji26) : Int) := of_decide_eq_true (by first | (with_reducible assumption) | assumption)
                              have q109 : (ji26) < (x7_4.length : Int) := of_decide_eq_true (by first | (with_reducible assumption) | assumption)
                              obtain ⟨ad109, e109, hx109_0⟩ := Kd.at_int (Kd.R_reads' HO_7.out).2.2 (ji26) p109 q109
                              cases e109
                              replace p109 := eq_true p109
                              replace q109 := eq_true q109
                              have p29 : 0 ≤ ((ji26) : Int) := of_decide_eq_true (by first | (with_reducible assumption) | assumption)
                              have q29 : ((ji26) : Int) < ((x7_4.length : Int) : Int) := of_decide_eq_true (by first | (with_reducible assumption) | assumption)
                              obtain ⟨go29, co29, eo29, gb29, gl29, cl29, HG29⟩ := Kd.R_form HO_7.out (by omega)
                              (first | cases eo29 | (injection eo29 with ea_ en_ ec_; (first | subst ea_ | (injection ea_ with ea_; subst ea_)); subst ec_; clear en_))
                              have GB29 := Aside0.mk gb29
                              have GG29 := Aside0.mk HG29
                              clear gb29 gl29 HG29
                              (first | simp only [add_plain] at hx109_0 | skip)
                              obtain ⟨hx29_0, hf29_0⟩ := Kd.R_celln 0 HO_7.out ((ji26) : Int) p29 q29
                              replace p29 := eq_true p29
                              replace q29 := eq_true q29
                              have HP31 := Kd.R_putg HO_7.out ((ji26) : Int) (Go.bits .xor .u8 (rd x7_4 (ji26)) ((Int.tmod x9_4 256) % 256))
                              go_wp2_with (first | ((with_reducible refine gate_store (t := 5) (p := 66) rfl ?_); refine store_event (t := 5) (p := 66) (v := ?vo_w32) (w1 := (wr.setCell ⟨go29, ((ji26) : Int).toNat, none⟩ (.int .u8 (Go.bits .xor .u8 (rd x7_4 (ji26)) ((Int.tmod x9_4 256) % 256))))) ?hg ?ho ?hn ?hr ?_; (case ho => rfl); (case hg => rfl); (case hn => rfl); (case hr => first | (go_simp; done) | (go_simp; rfl)); intro w32 hw; have hg : wr.grownBy w32 (some go29) := (by rw [hw]; exact HP31.2); have hp_ : Kd.R (Kd.int .u8) 5 w32 w.heap.size (fun _ => True) (.slice (some ⟨go29, 0, none⟩) x7_4.length co30) y110 := (by rw [hw, Ny110.out]; exact HP31.1); clear HP31; have n0_ := Aside0.mk (hp_); have n1_ := Aside0.mk ((by rw [hw]; exact below_set (HB.out) GB29.out : Below w.heap.size w w32)); clear HO_7; clear HB; have HO_7 := n0_; have HB := n1_; clear n0_ n1_; clear hg hw hp_))
                              go_roundg k4
                              case measure => have := HJ3.out; have := HJ10.out; have := HJ18.out; have := HK4.out; omega
                              case rel => exact ⟨(y110), ((Int.tdiv x9_4 256) % 4294967296), (wrap64 (x10_4 + 1)), (by first | rfl | (simp; done) | (simp [*]; done)), (by first | rfl | (simp; done) | (simp [*]; done)), H', ⟨by have := HJ3.out; have := HJ10.out; have := HJ18.out; have := HK4.out; omega⟩, ⟨by (with_reducible repeat (first | apply Kd.R_alloc | apply Kd.R_drewN | apply Kd.R_drew)); exact HO_7.out⟩, ⟨by repeat (first | (with_reducible first | exact HB.out | apply below_alloc | apply pw_below_drewN | apply below_drew1) | exact HB.out)⟩⟩
                            · rw [if_neg c28] at H
                              exact absurd H (by simp)
                          · rw [if_neg c27] at H
                            exact absurd H (by simp)
                        · rw [if_neg c25] at H
                          have c25b0 : decide (x10_4 < 4) = false := decide_eq_false c25
                          clear c25
                          replace H := Option.bind_eq_some_iff.mp H
                          obtain ⟨⟨t111, t112⟩, A330, H⟩ := H
                          replace H : (if (t111.length : Int) = 0 then (if t112 = 5 then ((marcotlaw32_awake.f k4).bind fun t115 => (some t115)) else (some false)) else (some false)) = some r := H
                          have A33 := Aside0.mk A330
                          clear A330
                          by_cases c34 : (t111.length : Int) = 0
                          · rw [if_pos c34] at H
                            have c34b0 : ((t111.length : Int) == 0) = true := beq_iff_eq.mpr c34
                            have c34b1 : ((t111.length : Int) != 0) = false := bne_eq_false_iff_eq.mpr c34
                            clear c34
                            by_cases c35 : t112 = 5
                            · rw [if_pos c35] at H
                              have c35b0 : (t112 == 5) = true := beq_iff_eq.mpr c35
                              have c35b1 : (t112 != 5) = false := bne_eq_false_iff_eq.mpr c35
                              clear c35
                              replace H := Option.bind_eq_some_iff.mp H
                              obtain ⟨t115, A360, H⟩ := H
                              replace H : (some t115) = some r := H
                              have A36 := Aside0.mk A360
                              clear A360
                              obtain rfl := Option.some.inj H
                              obtain ⟨Ao37, co37, eo37⟩ := Kd.R_slice HO_7.out
                              subst eo37
                              go_wp2_with (first | ((with_reducible refine gate_callee (f := 22) rfl ?_); refine goesL_ (some 71) rfl rfl Try.func22 (by kernel_rfl) rfl #[.slice Ao37 x7_4.length co37] rfl (by (try simp only [List.map_toArray, List.map_cons, List.map_nil]); first | done | rfl | (simp only [List.length_drop, List.length_take]; rfl)) ?_; (with_reducible refine (dump_Get.calls k4 _ _ x7_4 t111 t112 _ ?side1 ?side2 A33.out).mono ?_); (case side1 => repeat (first | exact (Kd.R_reads' HO_7.out).2.2 | (with_reducible refine Kd.C_alloc ?_ _) | (with_reducible refine Kd.C_drewN ?_ _) | (with_reducible refine Kd.C_drew ?_))); (case side2 => exact (Kd.R_reads' HO_7.out).2.1); rintro e w38 ⟨v113, rfl, ho0, hb⟩; refine ⟨_, rfl, ?_⟩; have n0_ := Aside0.mk (Kd.R_below (by (with_reducible repeat (first | apply Kd.R_alloc | apply Kd.R_drewN | apply Kd.R_drew)); exact HO_7.out) hb); have n1_ := Aside0.mk (Kd.S_lower ho0 (below_size (by repeat (first | (with_reducible first | exact HB.out | apply below_alloc | apply pw_below_drewN | apply below_drew1) | exact HB.out)))); have n2_ := Aside0.mk (below_step (by repeat (first | (with_reducible first | exact HB.out | apply below_alloc | apply pw_below_drewN | apply below_drew1) | exact HB.out)) hb); clear HO_7; clear HB; have HO_7 := n0_; have HO114 := n1_; have HB := n2_; clear n0_ n1_ n2_; (try clear hb); (try clear hb2); (try clear hk); (try clear hi); (try clear ho0); obtain ⟨Ao39, co39, eo39⟩ := Kd.S_slice HO114.out; subst eo39) | (go_at_call 20; (with_reducible refine (marcotlaw32_awake.calls k4  t115 _ A36.out).mono ?_); rintro e w40 ⟨rfl, hb⟩; have n0_ := Aside0.mk (Kd.R_below (by (with_reducible repeat (first | apply Kd.R_alloc | apply Kd.R_drewN | apply Kd.R_drew)); exact HO_7.out) hb); have n1_ := Aside0.mk (Kd.S_below (by (with_reducible repeat (first | apply Kd.S_alloc | apply Kd.S_drewN | apply Kd.S_drew)); exact HO114.out) hb); have n2_ := Aside0.mk (below_step (by repeat (first | (with_reducible first | exact HB.out | apply below_alloc | apply pw_below_drewN | apply below_drew1) | exact HB.out)) hb); clear HO_7; clear HO114; clear HB; have HO_7 := n0_; have HO114 := n1_; have HB := n2_; clear n0_ n1_ n2_; (try clear hb); (try clear hb2); (try clear hk); (try clear hi)))
                              go_ret
                              exact ⟨by first | rfl | (simp [errW_none, errW_some] <;> rfl) | (simp [*, errW_none, errW_some] <;> rfl), by repeat (first | (with_reducible first | exact HB.out | apply below_alloc | apply pw_below_drewN | apply below_drew1) | exact HB.out)⟩
                            · rw [if_neg c35] at H
                              have c35b0 : (t112 == 5) = false := beq_eq_false_iff_ne.mpr c35
                              have c35b1 : (t112 != 5) = true := bne_iff_ne.mpr c35
                              obtain rfl := Option.some.inj H
                              obtain ⟨Ao41, co41, eo41⟩ := Kd.R_slice HO_7.out
                              subst eo41
                              go_wp2_with (first | ((with_reducible refine gate_callee (f := 22) rfl ?_); refine goesL_ (some 71) rfl rfl Try.func22 (by kernel_rfl) rfl #[.slice Ao41 x7_4.length co41] rfl (by (try simp only [List.map_toArray, List.map_cons, List.map_nil]); first | done | rfl | (simp only [List.length_drop, List.length_take]; rfl)) ?_; (with_reducible refine (dump_Get.calls k4 _ _ x7_4 t111 t112 _ ?side1 ?side2 A33.out).mono ?_); (case side1 => repeat (first | exact (Kd.R_reads' HO_7.out).2.2 | (with_reducible refine Kd.C_alloc ?_ _) | (with_reducible refine Kd.C_drewN ?_ _) | (with_reducible refine Kd.C_drew ?_))); (case side2 => exact (Kd.R_reads' HO_7.out).2.1); rintro e w42 ⟨v113, rfl, ho0, hb⟩; refine ⟨_, rfl, ?_⟩; have n0_ := Aside0.mk (Kd.R_below (by (with_reducible repeat (first | apply Kd.R_alloc | apply Kd.R_drewN | apply Kd.R_drew)); exact HO_7.out) hb); have n1_ := Aside0.mk (Kd.S_lower ho0 (below_size (by repeat (first | (with_reducible first | exact HB.out | apply below_alloc | apply pw_below_drewN | apply below_drew1) | exact HB.out)))); have n2_ := Aside0.mk (below_step (by repeat (first | (with_reducible first | exact HB.out | apply below_alloc | apply pw_below_drewN | apply below_drew1) | exact HB.out)) hb); clear HO_7; clear HB; have HO_7 := n0_; have HO114 := n1_; have HB := n2_; clear n0_ n1_ n2_; (try clear hb); (try clear hb2); (try clear hk); (try clear hi); (try clear ho0); obtain ⟨Ao43, co43, eo43⟩ := Kd.S_slice HO114.out; subst eo43))
                              go_ret
                              exact ⟨by first | rfl | (simp [errW_none, errW_some] <;> rfl) | (simp [*, errW_none, errW_some] <;> rfl), by repeat (first | (with_reducible first | exact HB.out | apply below_alloc | apply pw_below_drewN | apply below_drew1) | exact HB.out)⟩
                          · rw [if_neg c34] at H
                            have c34b0 : ((t111.length : Int) == 0) = false := beq_eq_false_iff_ne.mpr c34
                            have c34b1 : ((t111.length : Int) != 0) = true := bne_iff_ne.mpr c34
                            have c34b2 : ¬ (t111 = []) := fun h_ => c34 (by rw [h_]; rfl)
                            obtain rfl := Option.some.inj H
                            obtain ⟨Ao44, co44, eo44⟩ := Kd.R_slice HO_7.out
                            subst eo44
                            go_wp2_with (first | ((with_reducible refine gate_callee (f := 22) rfl ?_); refine goesL_ (some 71) rfl rfl Try.func22 (by kernel_rfl) rfl #[.slice Ao44 x7_4.length co44] rfl (by (try simp only [List.map_toArray, List.map_cons, List.map_nil]); first | done | rfl | (simp only [List.length_drop, List.length_take]; rfl)) ?_; (with_reducible refine (dump_Get.calls k4 _ _ x7_4 t111 t112 _ ?side1 ?side2 A33.out).mono ?_); (case side1 => repeat (first | exact (Kd.R_reads' HO_7.out).2.2 | (with_reducible refine Kd.C_alloc ?_ _) | (with_reducible refine Kd.C_drewN ?_ _) | (with_reducible refine Kd.C_drew ?_))); (case side2 => exact (Kd.R_reads' HO_7.out).2.1); rintro e w45 ⟨v113, rfl, ho0, hb⟩; refine ⟨_, rfl, ?_⟩; have n0_ := Aside0.mk (Kd.R_below (by (with_reducible repeat (first | apply Kd.R_alloc | apply Kd.R_drewN | apply Kd.R_drew)); exact HO_7.out) hb); have n1_ := Aside0.mk (Kd.S_lower ho0 (below_size (by repeat (first | (with_reducible first | exact HB.out | apply below_alloc | apply pw_below_drewN | apply below_drew1) | exact HB.out)))); have n2_ := Aside0.mk (below_step (by repeat (first | (with_reducible first | exact HB.out | apply below_alloc | apply pw_below_drewN | apply below_drew1) | exact HB.out)) hb); clear HO_7; clear HB; have HO_7 := n0_; have HO114 := n1_; have HB := n2_; clear n0_ n1_ n2_; (try clear hb); (try clear hb2); (try clear hk); (try clear hi); (try clear ho0); obtain ⟨Ao46, co46, eo46⟩ := Kd.S_slice HO114.out; subst eo46))
                            go_ret
                            exact ⟨by first | rfl | (simp [errW_none, errW_some] <;> rfl) | (simp [*, errW_none, errW_some] <;> rfl), by repeat (first | (with_reducible first | exact HB.out | apply below_alloc | apply pw_below_drewN | apply below_drew1) | exact HB.out)⟩

end Go.Proofs.Ytfdemnefkfkghaa.X
/- A dump of which some bytes in a row of four are other ones is none: plainly. -/
namespace Go.Proofs.Ytfdemnefkfkghaa.Q
open Go.RowKit Go.Proofs.YtfdemnefkfkghaaW.PrintWords Go.Proofs.YtfdemnefkfkghaaW.PrintLast Go.Proofs.YtfdemnefkfkghaaW.PrintMore
open Go.Proofs.Ytfdemnefkfkghaa.X
set_option linter.unusedVariables false

theorem set_at {α : Type} (pre ys : List α) (j : Nat) (v : α) : (pre ++ ys).set (pre.length + j) v = pre ++ ys.set j v := by
  rw [List.set_append_right _ _ (by omega)]
  congr 1
  congr 1
  omega
theorem rd_app (pre ys : List Int) (j : Nat) (h : j < ys.length) : rd (pre ++ ys) ((pre.length + j : Nat) : Int) = rd ys (j : Int) := by
  rw [rd_at (by simp; omega), rd_at h, List.getElem_append_right (by omega)]
  congr 1
  omega
theorem tm (v : Nat) : Int.tmod (v : Int) 256 % 256 = ((v % 256 : Nat) : Int) := by
  rw [Int.tmod_eq_emod_of_nonneg (by omega)]
  omega
theorem td (v : Nat) (h : v < 4294967296) : Int.tdiv (v : Int) 256 % 4294967296 = ((v / 256 : Nat) : Int) := by
  rw [Int.tdiv_eq_ediv_of_nonneg (by omega)]
  omega
theorem spoil_step (k v i : Nat) (pre ys : List Int) (hy : 4 ≤ ys.length) (hlen : (pre ++ ys).length < 100000000) (hb : Bytes ys) (hi : i < 4) (hv : v < 4294967296) :
    marcotlaw32_DumpSpoilt.l0 (k + 1) (pre.length : Int) (pre ++ ys) (v : Int) (i : Int) = marcotlaw32_DumpSpoilt.l0 k (pre.length : Int) (pre ++ ys.set i (((rd ys (i : Int)).toNat ^^^ v % 256 : Nat) : Int)) ((v / 256 : Nat) : Int) ((i + 1 : Nat) : Int) := by
  rw [List.length_append] at hlen
  have e : wrap64 ((pre.length : Int) + (i : Int)) = ((pre.length + i : Nat) : Int) := by rw [wr (by omega) (by omega)]; omega
  have hr := hb (rd ys (i : Int)) (by rw [rd_at (by omega)]; exact List.getElem_mem _)
  rw [marcotlaw32_DumpSpoilt.l0, if_pos (by omega), e, if_pos (by omega), if_pos (by rw [List.length_append]; omega), rd_app _ _ _ (by omega), tm, td _ hv, Int.toNat_natCast, set_at, wr (by omega) (by omega)]
  rw [u8_xor _ _ hr.1 hr.2 (by omega) (by omega), Int.toNat_natCast]
  rfl
theorem spoil_end (pre ys : List Int) (v : Nat) (hg : Ev (fun k => dump_Get.f k (pre ++ ys)) ([], 5)) : Ev (fun k => marcotlaw32_DumpSpoilt.l0 k (pre.length : Int) (pre ++ ys) (v : Int) ((4 : Nat) : Int)) true := by
  refine Ev.step (f := fun k => (dump_Get.f k (pre ++ ys)).bind fun bt111 => (if (bt111.1.length : Int) = 0 then (if bt111.2 = 5 then ((marcotlaw32_awake.f k).bind fun t115 => (some t115)) else (some false)) else (some false))) ?_ (Ev.bind hg ?_)
  · intro k
    rw [marcotlaw32_DumpSpoilt.l0, if_neg (by decide)]
  · refine Ev.congr (f := fun k => (marcotlaw32_awake.f k).bind fun t115 => some t115) ?_ (Ev.bind awake (Ev.now _))
    intro k
    simp
theorem get_sum {l : List Int} (hb : Bytes l) (hlen : l.length < 100000000) (h4 : 4 ≤ l.length) (h : l.drop (l.length - 4) ≠ le4 (sum (l.take (l.length - 4)))) : Ev (fun k => dump_Get.f k l) ([], 5) := by
  have hf : Ev (fun k => crc_Fits.f k l) false := Ev.of (crc_Fits.mono _) ((fits_ev l hb hlen 0 h4).trans (congrArg some (decide_eq_false h)))
  refine Ev.bind hf ?_
  exact Ev.congr (fun k => by rw [if_pos rfl]) (Ev.now _)
theorem marked_run {b : List Int} (hb : Bytes b) : run F (marked b) = run F [0, 0, 0, 0] := run_marked hb
theorem xor_lt8 {a b : Nat} (ha : a < 256) (hb : b < 256) : a ^^^ b < 256 := Nat.xor_lt_two_pow (n := 8) ha hb
theorem xor_self_zero {a b : Nat} (h : a ^^^ b = a) : b = 0 := by
  have : a ^^^ (a ^^^ b) = 0 := by rw [h, Nat.xor_self]
  rwa [← Nat.xor_assoc, Nat.xor_self, Nat.zero_xor] at this
theorem spoils (pre post : List Int) (b0 b1 b2 b3 : Int) (v : Nat) (hv : v < 4294967296) (h0 : v ≠ 0) (hb : Bytes (pre ++ [b0, b1, b2, b3] ++ post)) (hlen : (pre ++ [b0, b1, b2, b3] ++ post).length < 100000000)
    (hr : run F (pre ++ [b0, b1, b2, b3] ++ post) = run F [0, 0, 0, 0]) : Ev (fun k => marcotlaw32_DumpSpoilt.l0 k (pre.length : Int) (pre ++ [b0, b1, b2, b3] ++ post) (v : Int) ((0 : Nat) : Int)) true := by
  have hb0 := hb b0 (by simp)
  have hb1 := hb b1 (by simp)
  have hb2 := hb b2 (by simp)
  have hb3 := hb b3 (by simp)
  have hpre : Bytes pre := fun c hc => hb c (by simp [hc])
  have hpost : Bytes post := fun c hc => hb c (by simp [hc])
  have nb : ∀ (b : Int) (u : Nat), 0 ≤ b ∧ b < 256 → u < 256 → 0 ≤ ((b.toNat ^^^ u : Nat) : Int) ∧ ((b.toNat ^^^ u : Nat) : Int) < 256 := by
    intro b u h hu
    have := xor_lt8 (show b.toNat < 256 by omega) hu
    omega
  have hlen' := hlen
  simp only [List.length_append, List.length_cons, List.length_nil] at hlen'
  have n0 := nb b0 (v % 256) hb0 (by omega)
  have n1 := nb b1 (v / 256 % 256) hb1 (by omega)
  have n2 := nb b2 (v / 256 / 256 % 256) hb2 (by omega)
  have n3 := nb b3 (v / 256 / 256 / 256 % 256) hb3 (by omega)
  have by5 : ∀ {x0 x1 x2 x3 : Int}, (0 ≤ x0 ∧ x0 < 256) → (0 ≤ x1 ∧ x1 < 256) → (0 ≤ x2 ∧ x2 < 256) → (0 ≤ x3 ∧ x3 < 256) → Bytes (x0 :: x1 :: x2 :: x3 :: post) := by
    intro x0 x1 x2 x3 g0 g1 g2 g3 c hc
    simp only [List.mem_cons] at hc
    rcases hc with rfl | rfl | rfl | rfl | hc
    · exact g0
    · exact g1
    · exact g2
    · exact g3
    · exact hpost c hc
  rw [List.append_assoc, show [b0, b1, b2, b3] ++ post = b0 :: b1 :: b2 :: b3 :: post from rfl]
  refine Ev.step (fun k => spoil_step k v 0 pre (b0 :: b1 :: b2 :: b3 :: post) (by simp) (by simp; omega) (by5 hb0 hb1 hb2 hb3) (by decide) hv) ?_
  refine Ev.step (fun k => spoil_step k (v / 256) 1 pre (((b0.toNat ^^^ v % 256 : Nat) : Int) :: b1 :: b2 :: b3 :: post) (by simp) (by simp; omega) (by5 n0 hb1 hb2 hb3) (by decide) (by omega)) ?_
  refine Ev.step (fun k => spoil_step k (v / 256 / 256) 2 pre (((b0.toNat ^^^ v % 256 : Nat) : Int) :: ((b1.toNat ^^^ v / 256 % 256 : Nat) : Int) :: b2 :: b3 :: post) (by simp) (by simp; omega) (by5 n0 n1 hb2 hb3) (by decide) (by omega)) ?_
  refine Ev.step (fun k => spoil_step k (v / 256 / 256 / 256) 3 pre (((b0.toNat ^^^ v % 256 : Nat) : Int) :: ((b1.toNat ^^^ v / 256 % 256 : Nat) : Int) :: ((b2.toNat ^^^ v / 256 / 256 % 256 : Nat) : Int) :: b3 :: post) (by simp) (by simp; omega) (by5 n0 n1 n2 hb3) (by decide) (by omega)) ?_
  refine spoil_end pre (((b0.toNat ^^^ v % 256 : Nat) : Int) :: ((b1.toNat ^^^ v / 256 % 256 : Nat) : Int) :: ((b2.toNat ^^^ v / 256 / 256 % 256 : Nat) : Int) :: ((b3.toNat ^^^ v / 256 / 256 / 256 % 256 : Nat) : Int) :: post) (v / 256 / 256 / 256 / 256) ?_
  have hall : Bytes (pre ++ (((b0.toNat ^^^ v % 256 : Nat) : Int) :: ((b1.toNat ^^^ v / 256 % 256 : Nat) : Int) :: ((b2.toNat ^^^ v / 256 / 256 % 256 : Nat) : Int) :: ((b3.toNat ^^^ v / 256 / 256 / 256 % 256 : Nat) : Int) :: post)) := by
    intro c hc
    rcases List.mem_append.mp hc with hc | hc
    · exact hpre c hc
    · exact by5 n0 n1 n2 n3 c hc
  refine get_sum hall (by simp; omega) (by simp; omega) fun hf => ?_
  have hr2 := fits_run hall hf
  have hs := spoilt (pre := pre) (post := post) (b0 := b0) (b1 := b1) (b2 := b2) (b3 := b3) (c0 := ((b0.toNat ^^^ v % 256 : Nat) : Int)) (c1 := ((b1.toNat ^^^ v / 256 % 256 : Nat) : Int)) (c2 := ((b2.toNat ^^^ v / 256 / 256 % 256 : Nat) : Int)) (c3 := ((b3.toNat ^^^ v / 256 / 256 / 256 % 256 : Nat) : Int))
    (by intro c hc; simp only [List.mem_cons, List.not_mem_nil, or_false] at hc; omega) (by intro c hc; simp only [List.mem_cons, List.not_mem_nil, or_false] at hc; omega)
    (by rw [hr, List.append_assoc]; exact hr2.symm)
  simp only [List.cons.injEq, and_true] at hs
  obtain ⟨z0, z1, z2, z3⟩ := hs
  have z0 := xor_self_zero (a := b0.toNat) (b := v % 256) (by omega)
  have z1 := xor_self_zero (a := b1.toNat) (b := v / 256 % 256) (by omega)
  have z2 := xor_self_zero (a := b2.toNat) (b := v / 256 / 256 % 256) (by omega)
  have z3 := xor_self_zero (a := b3.toNat) (b := v / 256 / 256 / 256 % 256) (by omega)
  omega

theorem split4 (l : List Int) (n : Nat) (h : n + 4 ≤ l.length) : ∃ b0 b1 b2 b3, l = l.take n ++ [b0, b1, b2, b3] ++ l.drop (n + 4) := by
  refine ⟨l[n], l[n + 1], l[n + 2], l[n + 3], ?_⟩
  have h1 := List.drop_eq_getElem_cons (show n < l.length by omega)
  have h2 := List.drop_eq_getElem_cons (show n + 1 < l.length by omega)
  have h3 := List.drop_eq_getElem_cons (show n + 2 < l.length by omega)
  have h4 := List.drop_eq_getElem_cons (show n + 3 < l.length by omega)
  conv => lhs; rw [← List.take_append_drop n l, h1, h2, h3, h4]
  simp
theorem awake2 : Ev (fun k => (marcotlaw32_awake.f k).bind fun t => some t) true := Ev.bind awake (Ev.now _)

theorem dumpSpoilt (l : List S136) (a1 a2 : Int) (h1 : -9223372036854775808 ≤ a1) (h2 : a1 ≤ 9223372036854775807) (h3 : 0 ≤ a2) (h4 : a2 ≤ 4294967295) : ∃ k, marcotlaw32_DumpSpoilt.f k l a1 a2 = some true := by
  refine Ev.rounds ?_
  obtain ⟨r, hr, hs⟩ := great l
  have yes : Ev (fun k => marcotlaw32_DumpSpoilt.j0 k l a1 a2 true) true := by
    refine Ev.step (f := fun k => (marcotlaw32_awake.f k).bind fun t => some t) ?_ awake2
    intro k
    rw [marcotlaw32_DumpSpoilt.j0, if_pos rfl]
  refine Ev.bind hr ?_
  cases r with
  | true => exact Ev.congr (fun k => by rw [if_pos rfl]) yes
  | false =>
  refine Ev.congr (f := fun k => marcotlaw32_DumpSpoilt.j0 k l a1 a2 (a2 == 0)) (fun k => by rw [if_neg (by decide)]) ?_
  have hs := hs rfl
  by_cases h0 : a2 = 0
  · subst h0
    exact yes
  · have e0 : (a2 == 0) = false := by simpa using h0
    rw [e0]
    refine Ev.step (f := fun k => (dump_Put.f k l).bind fun bt103 => (if bt103.2 = 0 then (marcotlaw32_DumpSpoilt.j1 k a1 a2 bt103.1 bt103.2 (decide ((bt103.1.length : Int) < 4))) else (marcotlaw32_DumpSpoilt.j1 k a1 a2 bt103.1 bt103.2 true))) (fun k => by rw [marcotlaw32_DumpSpoilt.j0, if_neg (by decide)]) (Ev.bind (put hs) ?_)
    unfold putOf
    by_cases hm : mayB l = true
    · rw [if_pos hm]
      obtain ⟨hl, hw⟩ := may_all hs hm
      have hbb := bodyOf_bytes hw (by omega)
      have hln : (marked (bodyOf l)).length = (bodyOf l).length + 4 := by simp [marked, le4]
      have hbl : (bodyOf l).length ≤ 5 + 4000 * l.length := by
        unfold bodyOf
        rw [List.length_append]
        have : ∀ x : List S136, (∀ w ∈ x, OkW w) → (x.flatMap oneOf).length ≤ 4000 * x.length := by
          intro x hx
          induction x with
          | nil => simp
          | cons w x ih =>
            have := oneOf_length (hx w (by simp))
            have := ih (fun y hy => hx y (by simp [hy]))
            rw [List.flatMap_cons, List.length_append, List.length_cons]
            omega
        have := this l hw
        simp only [List.length_cons, List.length_nil]
        omega
      have hmb : Bytes (marked (bodyOf l)) := by
        intro c hc
        rcases List.mem_append.mp hc with hc | hc
        · exact hbb c hc
        · exact le4_bytes _ c hc
      have hmr := marked_run hbb
      generalize marked (bodyOf l) = b at hln hmb hmr
      refine Ev.congr (f := fun k => marcotlaw32_DumpSpoilt.j1 k a1 a2 b 0 false) (fun k => by rw [if_pos rfl, decide_eq_false (by dsimp only; omega)]) ?_
      have j2t : Ev (fun k => marcotlaw32_DumpSpoilt.j2 k a1 a2 b true) true := Ev.step (f := fun k => (marcotlaw32_awake.f k).bind fun t => some t) (fun k => by rw [marcotlaw32_DumpSpoilt.j2, if_pos rfl]) awake2
      refine Ev.step (f := fun k => if a1 < 0 then marcotlaw32_DumpSpoilt.j2 k a1 a2 b true else marcotlaw32_DumpSpoilt.j2 k a1 a2 b (decide (a1 > (b.length : Int) - 4))) (fun k => by rw [marcotlaw32_DumpSpoilt.j1, if_neg (by decide), wr (by omega) (by omega)]) ?_
      by_cases hn : a1 < 0
      · exact Ev.congr (fun k => by rw [if_pos hn]) j2t
      · refine Ev.congr (f := fun k => marcotlaw32_DumpSpoilt.j2 k a1 a2 b (decide (a1 > (b.length : Int) - 4))) (fun k => by rw [if_neg hn]) ?_
        by_cases hg : a1 > (b.length : Int) - 4
        · rw [decide_eq_true hg]
          exact j2t
        · rw [decide_eq_false hg]
          refine Ev.step (f := fun k => marcotlaw32_DumpSpoilt.l0 k a1 b a2 0) (fun k => by rw [marcotlaw32_DumpSpoilt.j2, if_neg (by decide)]) ?_
          obtain ⟨b0, b1, b2, b3, hx⟩ := split4 b a1.toNat (by omega)
          have ha : a1 = ((b.take a1.toNat).length : Int) := by rw [List.length_take]; omega
          have hv : a2 = ((a2.toNat : Nat) : Int) := by omega
          have := spoils (b.take a1.toNat) (b.drop (a1.toNat + 4)) b0 b1 b2 b3 a2.toNat (by omega) (by omega) (by rw [← hx]; exact hmb) (by rw [← hx]; omega) (by rw [← hx]; exact hmr)
          rw [← hx, ← ha, ← hv] at this
          exact this
    · rw [if_neg hm]
      refine Ev.congr (f := fun k => marcotlaw32_DumpSpoilt.j1 k a1 a2 [] 1 true) (fun k => by rw [if_neg (by decide)]) ?_
      refine Ev.step (f := fun k => (marcotlaw32_awake.f k).bind fun t => some t) (fun k => by rw [marcotlaw32_DumpSpoilt.j1, if_pos rfl, if_neg (by decide)]) awake2
end Go.Proofs.Ytfdemnefkfkghaa.Q
/- The walk of DumpSpoilt, for the answer true. -/
namespace Go.Proofs.Ytfdemnefkfkghaa.DumpSpoiltWalk
set_option linter.unusedVariables false
open Go.RowKit Go.Proofs.YtfdemnefkfkghaaW.PrintWords Go.Proofs.Ytfdemnefkfkghaa.KDumpSpoilt Go.Proofs.Ytfdemnefkfkghaa.X
theorem walk (W : World) (x0 : (List S136)) (gx0 : g33 x0) (a0 : Option Addr) (c0 : Nat) (l0 : x0.length ≤ c0) (h0 : k136.C W a0 x0.length x0) (x1 : Int) (gx1 : g3 x1) (x2 : Int) (gx2 : g42 x2) :
    Calls Try.prog 6 #[.slice a0 x0.length c0, .int .i64 x1, .int .u32 x2] W fun e W' => e = .returned (.bool true) ∧ Below W.heap.size W W' := by
  have b1 : -9223372036854775808 ≤ x1 ∧ x1 ≤ 9223372036854775807 := by
    have h : (Lit.int .i64 x1).wf = true := gx1
    simp [Lit.wf, IntKind.min, IntKind.max, IntKind.signed, IntKind.bits] at h
    omega
  have b2 : 0 ≤ x2 ∧ x2 ≤ 4294967295 := by
    have h : (Lit.int .u32 x2).wf = true := gx2
    simp [Lit.wf, IntKind.min, IntKind.max, IntKind.signed, IntKind.bits] at h
    omega
  obtain ⟨k, h⟩ := Go.Proofs.Ytfdemnefkfkghaa.Q.dumpSpoilt x0 x1 x2 b1.1 b1.2 b2.1 b2.2
  exact marcotlaw32_DumpSpoilt.calls k a0 c0 x0 x1 x2 true W h0 l0 h
end Go.Proofs.Ytfdemnefkfkghaa.DumpSpoiltWalk
/- The row of marcot/marcotlaw32.DumpSpoilt: the given statement, out of the walk. -/
namespace Go.Proofs.Ytfdemnefkfkghaa.dumpSpoiltLaw
open Go.ChangeShapes Go.WideShapes Go.ChangeAt Go.RowKit
open Go.ChangeMaps (open_string shut_string)
open Go.Proofs.Ytfdemnefkfkghaa.Opn Go.Proofs.Ytfdemnefkfkghaa.KDumpSpoilt Go.Proofs.YtfdemnefkfkghaaW.PrintWords Go.Proofs.Ytfdemnefkfkghaa.X
set_option linter.unusedVariables false
theorem own : ownKnob Try.prog.godebug = none := by kernel_rfl
theorem laidOut : laidOutB Try.prog = true := by kernel_rfl
set_option maxRecDepth 100000 in
theorem contract (H : Type) (enc : TypeId × Value → H) (W : World) (base : Nat) (args : Array Value) (ds gs : List (DataW H)) (before : List MemPlace)
    (hval0 : ∀ (j : Nat) t v, Try.f6.params[j]? = some t → args[j]? = some v → Value.okWide Try.prog W .any base t v)
    (hW : DataW.Whole enc Try.prog Try.f6.params.toList Rows.dumpSpoiltSpec.vars false W args.toList ds gs before)
    (hsz0 : (DataW.weightsEach Try.prog (Try.f6.params.toList ++ Rows.dumpSpoiltSpec.plain.varTypes Try.prog) (ds ++ gs)).all (· ≤ reachBytes) = true) :
    Calls Try.prog 6 args W fun e W' => ∃ v, e = .returned v ∧ Rows.dumpSpoiltSpec.post enc Try.prog Try.f6 false true false false W args v W' := by
  have hsz := hsz0
  have hval : ∀ (j : Nat) t v, Try.f6.params[j]? = some t → args[j]? = some v → Value.okWide Try.prog W .any base t v := hval0
  have hW' := hW
  obtain ⟨p, q, hA0, hV, rfl, hfz, hnd⟩ := hW
  have hA : DataW.TrodAll enc Try.prog W 0 (fun _ => true) true Try.f6.params.toList args.toList ds p := hA0
  rw [Try.params6] at hA hval hsz
  obtain ⟨v0, vs0, d0, ds0, p0, q0, hargs, rfl, rfl, h0, r0⟩ := trodAll_cons hA
  obtain ⟨v1, vs1, d1, ds1, p1, q1, rfl, rfl, rfl, h1, r1⟩ := trodAll_cons r0
  obtain ⟨v2, vs2, d2, ds2, p2, q2, rfl, rfl, rfl, h2, r2⟩ := trodAll_cons r1
  obtain ⟨rfl, rfl, rfl⟩ := trodAll_nil r2
  obtain rfl : args = #[v0, v1, v2] := by cases args; simp_all
  obtain ⟨rfl, rfl⟩ := trodVars_none hV
  have lt0 : ∀ x ∈ p0, x.block < W.heap.size := by obtain ⟨m, hm⟩ := h0; exact DataW.trod_lt m _ _ _ hm
  obtain ⟨x0, hk0, gd0, hm0⟩ := arg_opens o33 h0 hsz (j := 0) rfl rfl
  obtain ⟨a0, len0, cap0, rfl⟩ := okWide_slice Try.underlying33 (hval 0 33 v0 rfl rfl)
  obtain ⟨a0', c0', he0, hl0, hc0⟩ := hk0
  obtain ⟨rfl, rfl, rfl⟩ := slice_cells he0
  have lt1 : ∀ x ∈ p1, x.block < W.heap.size := by obtain ⟨m, hm⟩ := h1; exact DataW.trod_lt m _ _ _ hm
  obtain ⟨x1, hk1, gd1, hm1⟩ := arg_opens o3 h1 hsz (j := 1) rfl rfl
  obtain ⟨y1, rfl⟩ := int_of Try.underlying3 (hval 1 3 v1 rfl rfl) h1
  obtain rfl : x1 = y1 := int_cells hk1
  have lt2 : ∀ x ∈ p2, x.block < W.heap.size := by obtain ⟨m, hm⟩ := h2; exact DataW.trod_lt m _ _ _ hm
  obtain ⟨x2, hk2, gd2, hm2⟩ := arg_opens o42 h2 hsz (j := 2) rfl rfl
  obtain ⟨y2, rfl⟩ := int_of Try.underlying42 (hval 2 42 v2 rfl rfl) h2
  obtain rfl : x2 = y2 := int_cells hk2
  refine (Go.Proofs.Ytfdemnefkfkghaa.DumpSpoiltWalk.walk W x0 gd0 _ _ hl0 hc0 x1 gd1 x2 gd2).mono fun e W' ⟨he, bel⟩ => ?_
  subst he
  exact ⟨_, rfl, _, _, _, [], _, [], hW', trodAll_mk1 (shut_bool Try.underlying4 _), (trodAll_cons_mk (Below.trod laidOut (by kernel_rfl) (of_decide_eq_true (by kernel_rfl)) h0 bel lt0) (trodAll_cons_mk (Below.trod laidOut (by kernel_rfl) (of_decide_eq_true (by kernel_rfl)) h1 bel lt1) (trodAll_cons_mk (Below.trod laidOut (by kernel_rfl) (of_decide_eq_true (by kernel_rfl)) h2 bel lt2) trodAll_mk0))), rfl, bel.frame _, fun h => by cases h⟩
set_option maxRecDepth 100000 in
theorem lifted (os : Os) (started : os.Started) (H : Type) (enc : TypeId × Value → H) :
    ReturnsInHanded {} Try.checked os 6 .any (Rows.dumpSpoiltSpec.pre6 enc Try.prog Try.f6 Rows.dumpSpoiltRow.domain false) (Rows.dumpSpoiltSpec.post enc Try.prog Try.f6 false true false false) := by
  refine returnsInHanded_of_change_sized (C := Try.checked) own started (by kernel_rfl) Try.func6
    (ChangeSpec.witness6 (enc := enc) (C := Try.checked) false ⟨#[], #[.slice none 0 0, .int .i64 0, .int .u32 0], []⟩ 8 (by kernel_rfl) (by kernel_rfl) (by kernel_rfl) (by kernel_rfl)) ?_
  intro W base args ds gs before hval hW _ hsz _
  exact contract H enc W base args ds gs before hval hW hsz
theorem over : Rows.dumpSpoiltRow.holds Try.pinned (OpenSpec.ofChange Rows.dumpSpoiltSpec) :=
  OpenClaim.holds_of_wide 6 Try.f6 rfl rfl rfl rfl rfl rfl rfl ⟨rfl, rfl, rfl, rfl, rfl⟩ rfl rfl rfl rfl rfl (by kernel_rfl) Try.func6 (by kernel_rfl)
    (of_decide_eq_true (by kernel_rfl)) (by unfold Func.isWrapper; first | (rw [if_pos (by decide +kernel)]; kernel_rfl) | (rw [if_neg (by decide +kernel)]; exact ⟨rfl, rfl⟩))
    (fun os started H enc _ => lifted os started H enc)
theorem proved : Rows.DumpSpoiltSaid := over
#print axioms proved
end Go.Proofs.Ytfdemnefkfkghaa.dumpSpoiltLaw
namespace Go.Proofs.Ytfdemnefkfkghaa
/-- The row, under a short name, for the claim. -/
theorem dumpSpoilt_holds : Rows.DumpSpoiltSaid := dumpSpoiltLaw.proved
end Go.Proofs.Ytfdemnefkfkghaa
