/- Parts of the proof of YtfdemnefkfkghaaRowDumpWrites, one behind the other: HTake, XF143, XF144, XF146, XF147, HGetText, HPair, XF76, XF77, XF78, XF141, XF74, HGet. -/
import Derived.Test.YtfdemnefkfkghaaDW0
import Derived.Test.YtfdemnefkfkghaaDW1
import Derived.Test.YtfdemnefkfkghaaDW2
import Derived.Test.YtfdemnefkfkghaaDW3
namespace Go.Proofs.Ytfdemnefkfkghaa.X
open Go.RowKit Go.Proofs.YtfdemnefkfkghaaW.PrintWords Go.Proofs.YtfdemnefkfkghaaW.PrintLast Go.Proofs.YtfdemnefkfkghaaW.PrintMore
set_option linter.unusedVariables false
set_option linter.unusedSimpArgs false

def beNum : List Int → Int → Int
  | [], n => n
  | c :: r, n => beNum r (n * 256 + c)

theorem pow_le (j : Nat) (h : j ≤ 6) : (256 : Int) ^ j ≤ 281474976710656 := by
  have h9 : j = 0 ∨ j = 1 ∨ j = 2 ∨ j = 3 ∨ j = 4 ∨ j = 5 ∨ j = 6 := by omega
  rcases h9 with rfl | rfl | rfl | rfl | rfl | rfl | rfl <;> decide
theorem or_byte (x c : Int) (h0 : 0 ≤ x) (h1 : x < 72057594037927936) (c0 : 0 ≤ c) (c1 : c ≤ 255) : bits .or .u64 (IntKind.u64.wrap (x * 256)) (IntKind.u64.wrap c) = x * 256 + c := by
  have hw : ∀ n : Int, 0 ≤ n → n < 2 ^ 64 → IntKind.u64.wrap n = n := fun n a b => by simp [IntKind.wrap, IntKind.bits, IntKind.signed]; omega
  rw [hw _ (by omega) (by omega), hw _ (by omega) (by omega)]
  exact bits_join .u64 64 (by decide) hw 8 _ _ (by omega) (by omega) (by omega) (by omega) (by omega) (by omega)

def pack_Reader_take.f (s0_0 : List Int) (s0_1 : Int) (s0_2 : Int) (a1 : Int) : Option (Int × Int × Int) :=
  if 0 ≤ s0_1 ∧ s0_1 ≤ s0_0.length ∧ 0 ≤ a1 ∧ a1 ≤ 7 then
    (if s0_2 = 0 then (if a1 > s0_0.length - s0_1 then some (0, s0_1, 2) else if ∀ c ∈ s0_0, 0 ≤ c ∧ c ≤ 255 then some (beNum ((s0_0.take (s0_1 + a1).toNat).drop s0_1.toNat) 0, s0_1 + a1, s0_2) else none)
    else some (0, s0_1, s0_2))
  else none

set_option maxHeartbeats 8000000 in
set_option maxRecDepth 100000 in
theorem pack_Reader_take.calls (g : Nat) (s0_0 : List Int) (s0_1 : Int) (s0_2 : Int) (a1 : Int) (r0 : Int) (r1 : Int) (r2 : Int) (w0 w : World) (hI : IsS206 w0 w g s0_0 s0_1 s0_2) (hB : Below w0.heap.size w0 w) (h : pack_Reader_take.f s0_0 s0_1 s0_2 a1 = some (r0, r1, r2)) :
    Calls Try.prog 193 #[.pointer (some ⟨g, 0, none⟩), .int .i64 a1] w fun e w' => e = .returned (.int .u64 r0) ∧ IsS206 w0 w' g s0_0 r1 r2 ∧ Below w0.heap.size w0 w' ∧ KeepBut w w' g none := by
  have HI0 := Aside0.mk hI
  have HK := Aside0.mk (KeepBut.refl w g none)
  have HB := Aside0.mk hB
  obtain ⟨A, c, HG, hg, HS⟩ := hI
  have hcz0 := cellS206_0 HG
  have hcz1 := cellS206_1 HG
  have hcz2 := cellS206_2 HG
  have hfz1 := blk_frozen HG 1
  have hfz2 := blk_frozen HG 2
  have hC := Aside0.mk (Kd.C_below HS.1 hB)
  have HCAP : Aside0 (s0_0.length ≤ c) := ⟨HS.2⟩
  unfold pack_Reader_take.f at h
  by_cases hr : 0 ≤ s0_1 ∧ s0_1 ≤ s0_0.length ∧ 0 ≤ a1 ∧ a1 ≤ 7
  · rw [if_pos hr] at h
    obtain ⟨h0, h1, h2, h3⟩ := hr
    have hlen : s0_0.length ≤ 9223372036854775807 := HS.1.2.1
    clear HG hg HS hB
    by_cases he : s0_2 = 0
    · rw [if_pos he] at h
      subst he
      by_cases hn : a1 > s0_0.length - s0_1
      · rw [if_pos hn] at h
        simp only [Option.some.injEq, Prod.mk.injEq] at h
        obtain ⟨rfl, rfl, rfl⟩ := h
        have hd : decide ((s0_0.length : Int) - s0_1 < a1) = true := decide_eq_true hn
        clear hn
        go_enter Try.func193, Try.ntmps193
        go_wp2
        repeat (go_quiet (fail); try go_wp2)
        go_ret
        exact ⟨rfl, by repeat (first | (with_reducible first | exact HI0.out | apply IsS206.alloc | apply IsS206.drewN | apply IsS206.drew | apply IsS206.set_1 | apply IsS206.set_2) | exact HI0.out), by repeat (first | (with_reducible first | exact HB.out | apply below_alloc | apply pw_below_drewN | apply below_drew1 | refine below_set ?_ (IsS206.ge HI0.out)) | exact HB.out), by repeat (first | (with_reducible first | exact HK.out | apply KeepBut.set_ | apply keep_drewN | apply keep_drew | apply keep_alloc) | exact HK.out)⟩
      · rw [if_neg hn] at h
        have hd : decide ((s0_0.length : Int) - s0_1 < a1) = false := decide_eq_false (by omega)
        by_cases hb : ∀ c ∈ s0_0, 0 ≤ c ∧ c ≤ 255
        · rw [if_pos hb] at h
          simp only [Option.some.injEq, Prod.mk.injEq] at h
          obtain ⟨hr0, rfl, rfl⟩ := h
          obtain ⟨i0, hi, hzz⟩ := Option.map_eq_some_iff.1 info5
          simp only [Prod.mk.injEq] at hzz
          obtain ⟨A', hsl, hre, hcap⟩ := print_mid_int (k := .u8) (P := Try.prog) 31 5 Try.underlying31 hi hzz.2.1 A c s0_0 s0_1 (s0_1 + a1) h0 (by omega) (by omega) HCAP.out
          have hR := hre w (Kd.reads_of_C (enc := Value.int .u8) (d := (0 : Int)) (h1 := fun _ => rfl) hC.out)
          have hseg : ((s0_0.take (s0_1 + a1).toNat).drop s0_1.toNat).length = a1.toNat := by
            simp only [List.length_drop, List.length_take]
            omega
          have hsb : ∀ c ∈ (s0_0.take (s0_1 + a1).toNat).drop s0_1.toNat, 0 ≤ c ∧ c ≤ 255 := fun c hc => hb c (List.mem_of_mem_take (List.mem_of_mem_drop hc))
          obtain ⟨seg, es⟩ : ∃ seg, (s0_0.take (s0_1 + a1).toNat).drop s0_1.toNat = seg := ⟨_, rfl⟩
          rw [es] at hsl hR hseg hsb hr0
          obtain ⟨m, rfl⟩ := Int.eq_ofNat_of_zero_le h2
          rw [Int.toNat_natCast] at hseg
          rw [hseg] at hsl hR
          obtain ⟨cc, ec⟩ : ∃ cc, c - s0_1.toNat = cc := ⟨_, rfl⟩
          rw [ec] at hsl
          have hle : s0_1 + (m : Int) ≤ (s0_0.length : Int) := by omega
          have hw : wrap64 (s0_1 + (m : Int)) = s0_1 + (m : Int) := by unfold wrap64; omega
          have HRD := Aside0.mk hR
          have HSB := Aside0.mk hsb
          have HSEG := Aside0.mk hseg
          have HR0 := Aside0.mk hr0
          clear hi hzz hre hcap hR hsb hseg hr0 es ec hb hn hC
          go_enter Try.func193, Try.ntmps193
          go_wp2
          go_quiet (fail)
          go_wp2
          refine start_ (n := 17) (S := fun w' => w'.cell? ⟨g, 0, none⟩ = some (.slice A s0_0.length c) ∧ w'.cell? ⟨g, 1, none⟩ = some (.int .i64 s0_1)) (ds := []) #[false, false, false, false, false, false, false, false, false, false, false, false, false, false, false, false, false] (by kernel_rfl) rfl rfl ⟨hcz0, hcz1⟩ (fun hHeld => ?_)
          refine pure_ (i := 0) (N := some 32) (v := ?_) (a' := ?_) #[true, false, false, false, false, false, false, false, false, false, false, false, false, false, false, false, false] rfl rfl (by kernel_rfl) (fun _ _ _ h => h) (Or.inl ⟨by rfl, ?_⟩) ?_ ?_
          rotate_left
          · intro w'
            go_simp
            with_reducible rfl
          rotate_left
          · simp only [Act.put, List.setIfInBounds_toArray, List.set_cons_zero, List.set_cons_succ, i64_w, i32_w]
            rfl
          refine pure_ (i := 1) (N := some 33) (v := ?_) (a' := ?_) #[true, true, false, false, false, false, false, false, false, false, false, false, false, false, false, false, false] rfl rfl (by kernel_rfl) (fun _ _ _ h => h) (Or.inl ⟨by rfl, ?_⟩) ?_ ?_
          rotate_left
          · intro w'
            go_simp
            with_reducible rfl
          rotate_left
          · simp only [Act.put, List.setIfInBounds_toArray, List.set_cons_zero, List.set_cons_succ, i64_w, i32_w]
            rfl
          refine pure_ (i := 2) (N := some 34) (v := ?_) (a' := ?_) #[true, true, true, false, false, false, false, false, false, false, false, false, false, false, false, false, false] rfl rfl (by kernel_rfl) (fun _ _ _ h => h) (Or.inl ⟨by rfl, ?_⟩) ?_ ?_
          rotate_left
          · intro w'
            go_simp
            with_reducible rfl
          rotate_left
          · simp only [Act.put, List.setIfInBounds_toArray, List.set_cons_zero, List.set_cons_succ, i64_w, i32_w]
            rfl
          refine pure_ (i := 4) (N := some 36) (v := ?_) (a' := ?_) #[true, true, true, false, true, false, false, false, false, false, false, false, false, false, false, false, false] rfl rfl (by kernel_rfl) (fun _ _ _ h => h) (Or.inl ⟨by rfl, ?_⟩) ?_ ?_
          rotate_left
          · intro w'
            go_simp
            with_reducible rfl
          rotate_left
          · simp only [Act.put, List.setIfInBounds_toArray, List.set_cons_zero, List.set_cons_succ, i64_w, i32_w]
            rfl
          refine pure_ (i := 5) (N := some 37) (v := ?_) (a' := ?_) #[true, true, true, false, true, true, false, false, false, false, false, false, false, false, false, false, false] rfl rfl (by kernel_rfl) (fun _ _ _ h => h) (Or.inl ⟨by rfl, ?_⟩) ?_ ?_
          rotate_left
          · intro w'
            go_simp
            with_reducible rfl
          rotate_left
          · simp only [Act.put, List.setIfInBounds_toArray, List.set_cons_zero, List.set_cons_succ, i64_w, i32_w]
            rfl
          refine pure_ (i := 6) (N := some 38) (v := ?_) (a' := ?_) #[true, true, true, false, true, true, true, false, false, false, false, false, false, false, false, false, false] rfl rfl (by kernel_rfl) (fun _ _ _ h => h) (Or.inl ⟨by rfl, ?_⟩) ?_ ?_
          rotate_left
          · intro w'
            go_simp
            with_reducible rfl
          rotate_left
          · simp only [Act.put, List.setIfInBounds_toArray, List.set_cons_zero, List.set_cons_succ, i64_w, i32_w]
            rfl
          refine pure_ (i := 8) (N := some 40) (v := ?_) (a' := ?_) #[true, true, true, false, true, true, true, false, true, false, false, false, false, false, false, false, false] rfl rfl (by kernel_rfl) (fun _ _ _ h => h) (Or.inl ⟨by rfl, ?_⟩) ?_ ?_
          rotate_left
          · intro w'
            go_simp
            with_reducible rfl
          rotate_left
          · simp only [Act.put, List.setIfInBounds_toArray, List.set_cons_zero, List.set_cons_succ, i64_w, i32_w]
            rfl
          refine pure_ (i := 9) (N := some 41) (v := ?_) (a' := ?_) #[true, true, true, false, true, true, true, false, true, true, false, false, false, false, false, false, false] rfl rfl (by kernel_rfl) (fun _ _ _ h => h) (Or.inl ⟨by rfl, ?_⟩) ?_ ?_
          rotate_left
          · intro w'
            go_simp
            with_reducible rfl
          rotate_left
          · simp only [Act.put, List.setIfInBounds_toArray, List.set_cons_zero, List.set_cons_succ, i64_w, i32_w]
            rfl
          refine pure_ (i := 10) (N := some 42) (v := ?_) (a' := ?_) #[true, true, true, false, true, true, true, false, true, true, true, false, false, false, false, false, false] rfl rfl (by kernel_rfl) (fun _ _ _ h => h) (Or.inl ⟨by rfl, ?_⟩) ?_ ?_
          rotate_left
          · intro w'
            go_simp
            with_reducible rfl
          rotate_left
          · simp only [Act.put, List.setIfInBounds_toArray, List.set_cons_zero, List.set_cons_succ, i64_w, i32_w]
            rfl
          refine pure_ (i := 12) (N := some 44) (v := ?_) (a' := ?_) #[true, true, true, false, true, true, true, false, true, true, true, false, true, false, false, false, false] rfl rfl (by kernel_rfl) (fun _ _ _ h => h) (Or.inl ⟨by rfl, ?_⟩) ?_ ?_
          rotate_left
          · intro w'
            go_simp
            with_reducible rfl
          rotate_left
          · simp only [Act.put, List.setIfInBounds_toArray, List.set_cons_zero, List.set_cons_succ, i64_w, i32_w]
            rfl
          refine pure_ (i := 16) (N := some 48) (v := ?_) (a' := ?_) #[true, true, true, false, true, true, true, false, true, true, true, false, true, false, false, false, true] rfl rfl (by kernel_rfl) (fun _ _ _ h => h) (Or.inl ⟨by rfl, ?_⟩) ?_ ?_
          rotate_left
          · intro w'
            go_simp
            with_reducible rfl
          rotate_left
          · simp only [Act.put, List.setIfInBounds_toArray, List.set_cons_zero, List.set_cons_succ, i64_w, i32_w]
            rfl
          refine take_ (i := 3) (N := some 35) (v := ?_) (a' := ?_) #[true, true, true, true, true, true, true, false, true, true, true, false, true, false, false, false, true] rfl rfl (by kernel_rfl) (fun _ _ _ h => h) (Or.inl ⟨by rfl, ?_⟩) hHeld ?_ ?_
          rotate_left
          · rintro w' ⟨s0, s1⟩
            go_simp
            with_reducible rfl
          rotate_left
          · simp only [Act.put, List.setIfInBounds_toArray, List.set_cons_zero, List.set_cons_succ, i64_w, i32_w]
            rfl
          refine take_ (i := 7) (N := some 39) (v := ?_) (a' := ?_) #[true, true, true, true, true, true, true, true, true, true, true, false, true, false, false, false, true] rfl rfl (by kernel_rfl) (fun _ _ _ h => h) (Or.inl ⟨by rfl, ?_⟩) hHeld ?_ ?_
          rotate_left
          · rintro w' ⟨s0, s1⟩
            go_simp
            with_reducible rfl
          rotate_left
          · simp only [Act.put, List.setIfInBounds_toArray, List.set_cons_zero, List.set_cons_succ, i64_w, i32_w]
            rfl
          refine take_ (i := 11) (N := some 43) (v := ?_) (a' := ?_) #[true, true, true, true, true, true, true, true, true, true, true, true, true, false, false, false, true] rfl rfl (by kernel_rfl) (fun _ _ _ h => h) (Or.inl ⟨by rfl, ?_⟩) hHeld ?_ ?_
          rotate_left
          · rintro w' ⟨s0, s1⟩
            go_simp
            with_reducible rfl
          rotate_left
          · simp only [Act.put, List.setIfInBounds_toArray, List.set_cons_zero, List.set_cons_succ, i64_w, i32_w]
            rfl
          refine pure_ (i := 13) (N := some 45) (v := ?_) (a' := ?_) #[true, true, true, true, true, true, true, true, true, true, true, true, true, true, false, false, true] rfl rfl (by kernel_rfl) (fun _ _ _ h => h) (Or.inl ⟨by rfl, ?_⟩) ?_ ?_
          rotate_left
          · intro w'
            go_simp
            with_reducible rfl
          rotate_left
          · simp only [Act.put, List.setIfInBounds_toArray, List.set_cons_zero, List.set_cons_succ, i64_w, i32_w]
            rfl
          refine pure_ (i := 14) (N := some 46) (v := ?_) (a' := ?_) #[true, true, true, true, true, true, true, true, true, true, true, true, true, true, true, false, true] rfl rfl (by kernel_rfl) (fun _ _ _ h => h) (Or.inl ⟨by rfl, ?_⟩) ?_ ?_
          rotate_left
          · intro w'
            go_simp
            with_reducible rfl
          rotate_left
          · simp only [Act.put, List.setIfInBounds_toArray, List.set_cons_zero, List.set_cons_succ, i64_w, i32_w]
            rfl
          refine pure_ (i := 15) (N := some 47) (v := ?_) (a' := ?_) #[true, true, true, true, true, true, true, true, true, true, true, true, true, true, true, true, true] rfl rfl (by kernel_rfl) (fun _ _ _ h => h) (Or.inl ⟨by rfl, ?_⟩) ?_ ?_
          rotate_left
          · intro w'
            go_simp
            with_reducible rfl
          rotate_left
          · simp only [Act.put, List.setIfInBounds_toArray, List.set_cons_zero, List.set_cons_succ, i64_w, i32_w]
            rfl
          refine done_ (by kernel_rfl) ?_

          go_wp2_with fail
          go_loopg [5, 7, 48] m (fun kq v5 v7 v48 w' => ∃ (j : Nat) (x : Int), v5 = .int .u64 x ∧ v48 = .int .i64 (j : Int) ∧ j ≤ m ∧ Aside0 (kq = m - j) ∧ 0 ≤ x ∧ Aside0 (x < 256 ^ j) ∧ Aside0 (beNum (seg.drop j) x = r0) ∧ Aside0 (Drawn0 w w'))
          case atStart => exact ⟨0, 0, rfl, rfl, Nat.zero_le _, ⟨rfl⟩, Int.le_refl _, ⟨by decide⟩, ⟨HR0.out⟩, ⟨⟨nq + 1, rfl⟩⟩⟩
          case round =>
            obtain ⟨j, x, rfl, rfl, hj, hk, hx0, hx1, hx, hw'⟩ := hrel
            obtain ⟨nd, rfl⟩ := hw'.out
            by_cases hlt : j < m
            · obtain ⟨ad, hA, hcell⟩ := HRD.out.2.2 (by omega)
              subst hA
              have hc1 : (w.drewN nd).cell? (ad.add j) = some (.int .u8 (seg.getD j 0)) := hcell j hlt
              obtain ⟨cb, ecb⟩ : ∃ cb, seg.getD j 0 = cb := ⟨_, rfl⟩
              rw [ecb] at hc1
              clear hcell
              go_wp2
              go_roundg (m - (j + 1))
              case measure => have := hk.out; omega
              case rel =>
                have hcb : 0 ≤ cb ∧ cb ≤ 255 := by
                  rw [← ecb, List.getD_eq_getElem?_getD, List.getElem?_eq_getElem (by have := HSEG.out; omega)]
                  exact HSB.out _ (List.getElem_mem _)
                have hx2 : x < 281474976710656 := Int.lt_of_lt_of_le hx1.out (pow_le j (by omega))
                have ho := or_byte x cb hx0 (by omega) hcb.1 hcb.2
                refine ⟨j + 1, x * 256 + cb, by rw [ho], by simp, by omega, ⟨rfl⟩, by omega, ⟨?_⟩, ⟨?_⟩, ⟨⟨nd, rfl⟩⟩⟩
                · have h9 := hx1.out
                  rw [Int.pow_succ]
                  omega
                · have h9 := hx.out
                  rw [List.drop_eq_getElem_cons (by have := HSEG.out; omega)] at h9
                  have e9 : seg[j]'(by have := HSEG.out; omega) = cb := by
                    rw [← ecb, List.getD_eq_getElem?_getD, List.getElem?_eq_getElem (by have := HSEG.out; omega)]
                    rfl
                  rw [e9] at h9
                  exact h9
            · obtain rfl : j = m := by omega
              have hr9 : x = r0 := by
                have h9 := hx.out
                rw [List.drop_of_length_le (by have := HSEG.out; omega)] at h9
                exact h9
              subst hr9
              clear hlt
              have h9 : decide ((j : Int) < (j : Int)) = false := by simp
              go_wp2
              go_ret
              exact ⟨rfl, by repeat (first | (with_reducible first | exact HI0.out | apply IsS206.alloc | apply IsS206.drewN | apply IsS206.drew | apply IsS206.set_1 | apply IsS206.set_2) | exact HI0.out), by repeat (first | (with_reducible first | exact HB.out | apply below_alloc | apply pw_below_drewN | apply below_drew1 | refine below_set ?_ (IsS206.ge HI0.out)) | exact HB.out), by repeat (first | (with_reducible first | exact HK.out | apply KeepBut.set_ | apply keep_drewN | apply keep_drew | apply keep_alloc) | exact HK.out)⟩
        · rw [if_neg hb] at h
          cases h
    · rw [if_neg he] at h
      simp only [Option.some.injEq, Prod.mk.injEq] at h
      obtain ⟨rfl, rfl, rfl⟩ := h
      have hd : (s0_2 != 0) = true := bne_iff_ne.mpr he
      have hd1 : (s0_2 == 0) = false := beq_eq_false_iff_ne.mpr he
      clear he
      go_enter Try.func193, Try.ntmps193
      go_wp2
      repeat (go_quiet (fail); try go_wp2)
      go_ret
      exact ⟨rfl, by repeat (first | (with_reducible first | exact HI0.out | apply IsS206.alloc | apply IsS206.drewN | apply IsS206.drew) | exact HI0.out), by repeat (first | (with_reducible first | exact HB.out | apply below_alloc | apply pw_below_drewN | apply below_drew1) | exact HB.out), by repeat (first | (with_reducible first | exact HK.out | apply KeepBut.set_ | apply keep_drewN | apply keep_drew | apply keep_alloc) | exact HK.out)⟩
  · rw [if_neg hr] at h
    cases h
end Go.Proofs.Ytfdemnefkfkghaa.X
namespace Go.Proofs.Ytfdemnefkfkghaa.X
open Go.RowKit Go.Proofs.YtfdemnefkfkghaaW.PrintWords Go.Proofs.YtfdemnefkfkghaaW.PrintLast Go.Proofs.YtfdemnefkfkghaaW.PrintMore
attribute [local go_sem] max2_int min2_int max_two min_two max_three min_three max_four min_four   -- for this text's walks alone
attribute [local go_sem high] Go.Proofs.Ytfdemnefkfkghaa.XW.leq Go.Proofs.Ytfdemnefkfkghaa.XW.gtr Go.Proofs.Ytfdemnefkfkghaa.XW.geq
set_option linter.unusedVariables false
set_option linter.unusedSimpArgs false

def pack_Reader_Get8.f (s0_0 : List Int) (s0_1 : Int) (s0_2 : Int) : Option (Int × Int × Int) := (pack_Reader_take.f s0_0 s0_1 s0_2 1).bind fun bt101 => (some ((bt101.1) % 256, bt101.2.1, bt101.2.2))
set_option maxHeartbeats 8000000 in
set_option maxRecDepth 100000 in
theorem pack_Reader_Get8.calls (g : Nat) (s0_0 : List Int) (s0_1 : Int) (s0_2 : Int) (r1 : Int) (r2 : Int) (r3 : Int) (w0 w : World) (hI : IsS206 w0 w g s0_0 s0_1 s0_2) (hB : Below w0.heap.size w0 w) (h : pack_Reader_Get8.f s0_0 s0_1 s0_2 = some (r1, r2, r3)) :
    Calls Try.prog 143 #[.pointer (some ⟨g, 0, none⟩)] w fun e w' => e = .returned (.int .u8 r1) ∧ IsS206 w0 w' g s0_0 r2 r3 ∧ Below w0.heap.size w0 w' ∧ KeepBut w w' g none := by
  have HI0 := Aside0.mk hI
  have HK := Aside0.mk (KeepBut.refl w g none)
  have HL := Aside0.mk hB.size
  clear hI
  have HW0 := Aside0.mk hB.size
  have HB := Aside0.mk hB
  clear hB
  have H : ((pack_Reader_take.f s0_0 s0_1 s0_2 1).bind fun bt101 => (some ((bt101.1) % 256, bt101.2.1, bt101.2.2))) = some (r1, r2, r3) := h
  clear h
  replace H := Option.bind_eq_some_iff.mp H
  obtain ⟨⟨t101, t102, t103⟩, A20, H⟩ := H
  replace H : (some ((t101) % 256, t102, t103)) = some (r1, r2, r3) := H
  have A2 := Aside0.mk A20
  clear A20
  simp only [Option.some.injEq, Prod.mk.injEq] at H
  obtain ⟨rfl, rfl, rfl⟩ := H
  go_enter Try.func143, Try.ntmps143
  go_wp2_with (first | ((with_reducible refine gate_callee (f := 193) rfl ?_); refine goesL_ (some 4) rfl rfl Try.func193 (by kernel_rfl) rfl #[.pointer (some ⟨g, 0, none⟩), .int .i64 1] rfl (by (try simp only [List.map_toArray, List.map_cons, List.map_nil]); first | done | rfl | (simp only [List.length_drop, List.length_take]; rfl)) ?_; (with_reducible refine (pack_Reader_take.calls g s0_0 s0_1 s0_2 1 t101 t102 t103 w0 _ ?side1 ?side2 A2.out).mono ?_); (case side1 => repeat (first | (with_reducible first | exact HI0.out | apply IsS206.alloc | apply IsS206.drewN | apply IsS206.drew | apply IsS206.set_1 | apply IsS206.set_2) | exact HI0.out)); (case side2 => repeat (first | (with_reducible first | exact HB.out | apply below_alloc | apply pw_below_drewN | apply below_drew1 | refine below_set ?_ (IsS206.ge HI0.out)) | exact HB.out)); rintro e w3 ⟨rfl, hi, hb, hk⟩; refine ⟨_, rfl, ?_⟩; have n0_ := Aside0.mk (KeepBut.trans (by repeat (first | (with_reducible first | exact HK.out | apply KeepBut.set_ | apply keep_drewN | apply keep_drew | apply keep_alloc) | exact HK.out)) hk (.inl rfl)); have n1_ := Aside0.mk (hb); have n2_ := Aside0.mk (hi); clear HK; clear HB; clear HI0; have HK := n0_; have HB := n1_; have HI0 := n2_; clear n0_ n1_ n2_; (try clear hb); (try clear hb2); (try clear hk); (try clear hi)))
  go_ret
  exact ⟨by first | rfl | (simp [errW_none, errW_some] <;> rfl) | (simp [*, errW_none, errW_some] <;> rfl), by repeat (first | (with_reducible first | exact HI0.out | apply IsS206.alloc | apply IsS206.drewN | apply IsS206.drew | apply IsS206.set_1 | apply IsS206.set_2) | exact HI0.out), by repeat (first | (with_reducible first | exact HB.out | apply below_alloc | apply pw_below_drewN | apply below_drew1 | refine below_set ?_ (IsS206.ge HI0.out)) | exact HB.out), by repeat (first | (with_reducible first | exact HK.out | apply KeepBut.set_ | apply keep_drewN | apply keep_drew | apply keep_alloc) | exact HK.out)⟩

end Go.Proofs.Ytfdemnefkfkghaa.X
namespace Go.Proofs.Ytfdemnefkfkghaa.X
open Go.RowKit Go.Proofs.YtfdemnefkfkghaaW.PrintWords Go.Proofs.YtfdemnefkfkghaaW.PrintLast Go.Proofs.YtfdemnefkfkghaaW.PrintMore
attribute [local go_sem] max2_int min2_int max_two min_two max_three min_three max_four min_four   -- for this text's walks alone
attribute [local go_sem high] Go.Proofs.Ytfdemnefkfkghaa.XW.leq Go.Proofs.Ytfdemnefkfkghaa.XW.gtr Go.Proofs.Ytfdemnefkfkghaa.XW.geq
set_option linter.unusedVariables false
set_option linter.unusedSimpArgs false

def pack_Reader_Fail.f (s0_0 : List Int) (s0_1 : Int) (s0_2 : Int) (a1 : Int) : Option (Int × Int) := if s0_2 = 0 then (some (s0_1, a1)) else (some (s0_1, s0_2))
set_option maxHeartbeats 8000000 in
set_option maxRecDepth 100000 in
theorem pack_Reader_Fail.calls (g : Nat) (s0_0 : List Int) (s0_1 : Int) (s0_2 : Int) (a1 : Int) (r1 : Int) (r2 : Int) (w0 w : World) (hI : IsS206 w0 w g s0_0 s0_1 s0_2) (hB : Below w0.heap.size w0 w) (h : pack_Reader_Fail.f s0_0 s0_1 s0_2 a1 = some (r1, r2)) :
    Calls Try.prog 144 #[.pointer (some ⟨g, 0, none⟩), .int .i64 a1] w fun e w' => e = .returned (.tuple #[]) ∧ IsS206 w0 w' g s0_0 r1 r2 ∧ Below w0.heap.size w0 w' ∧ KeepBut w w' g none := by
  have HI0 := Aside0.mk hI
  have HK := Aside0.mk (KeepBut.refl w g none)
  have HL := Aside0.mk hB.size
  clear hI
  have HW0 := Aside0.mk hB.size
  have HB := Aside0.mk hB
  clear hB
  have H : (if s0_2 = 0 then (some (s0_1, a1)) else (some (s0_1, s0_2))) = some (r1, r2) := h
  clear h
  by_cases c3 : s0_2 = 0
  · rw [if_pos c3] at H
    have c3b0 : (s0_2 == 0) = true := beq_iff_eq.mpr c3
    have c3b1 : (s0_2 != 0) = false := bne_eq_false_iff_eq.mpr c3
    clear c3
    simp only [Option.some.injEq, Prod.mk.injEq] at H
    obtain ⟨rfl, rfl⟩ := H
    obtain ⟨ASz4_0, cSz4_0, HGz4, hgz4, HSz4_0⟩ := HI0.out
    have hcz4_0 := cellS206_0 HGz4
    have hcz4_1 := cellS206_1 HGz4
    have hcz4_2 := cellS206_2 HGz4
    have hfz4_1 := blk_frozen HGz4 1
    have hfz4_2 := blk_frozen HGz4 2
    clear HGz4 hgz4
    go_enter Try.func144, Try.ntmps144
    go_wp2
    first | go_end0 | ((try simp only [Exit.inBlock, Exit.then]); refine bodyPost_ret (results_none rfl _ _ _) rfl ?_)
    exact ⟨by first | rfl | (simp [errW_none, errW_some] <;> rfl) | (simp [*, errW_none, errW_some] <;> rfl), by repeat (first | (with_reducible first | exact HI0.out | apply IsS206.alloc | apply IsS206.drewN | apply IsS206.drew | apply IsS206.set_1 | apply IsS206.set_2) | exact HI0.out), by repeat (first | (with_reducible first | exact HB.out | apply below_alloc | apply pw_below_drewN | apply below_drew1 | refine below_set ?_ (IsS206.ge HI0.out)) | exact HB.out), by repeat (first | (with_reducible first | exact HK.out | apply KeepBut.set_ | apply keep_drewN | apply keep_drew | apply keep_alloc) | exact HK.out)⟩
  · rw [if_neg c3] at H
    have c3b0 : (s0_2 == 0) = false := beq_eq_false_iff_ne.mpr c3
    have c3b1 : (s0_2 != 0) = true := bne_iff_ne.mpr c3
    simp only [Option.some.injEq, Prod.mk.injEq] at H
    obtain ⟨rfl, rfl⟩ := H
    obtain ⟨ASz5_0, cSz5_0, HGz5, hgz5, HSz5_0⟩ := HI0.out
    have hcz5_0 := cellS206_0 HGz5
    have hcz5_1 := cellS206_1 HGz5
    have hcz5_2 := cellS206_2 HGz5
    have hfz5_1 := blk_frozen HGz5 1
    have hfz5_2 := blk_frozen HGz5 2
    clear HGz5 hgz5
    go_enter Try.func144, Try.ntmps144
    go_wp2
    first | go_end0 | ((try simp only [Exit.inBlock, Exit.then]); refine bodyPost_ret (results_none rfl _ _ _) rfl ?_)
    exact ⟨by first | rfl | (simp [errW_none, errW_some] <;> rfl) | (simp [*, errW_none, errW_some] <;> rfl), by repeat (first | (with_reducible first | exact HI0.out | apply IsS206.alloc | apply IsS206.drewN | apply IsS206.drew | apply IsS206.set_1 | apply IsS206.set_2) | exact HI0.out), by repeat (first | (with_reducible first | exact HB.out | apply below_alloc | apply pw_below_drewN | apply below_drew1 | refine below_set ?_ (IsS206.ge HI0.out)) | exact HB.out), by repeat (first | (with_reducible first | exact HK.out | apply KeepBut.set_ | apply keep_drewN | apply keep_drew | apply keep_alloc) | exact HK.out)⟩

end Go.Proofs.Ytfdemnefkfkghaa.X
namespace Go.Proofs.Ytfdemnefkfkghaa.X
open Go.RowKit Go.Proofs.YtfdemnefkfkghaaW.PrintWords Go.Proofs.YtfdemnefkfkghaaW.PrintLast Go.Proofs.YtfdemnefkfkghaaW.PrintMore
attribute [local go_sem] max2_int min2_int max_two min_two max_three min_three max_four min_four   -- for this text's walks alone
attribute [local go_sem high] Go.Proofs.Ytfdemnefkfkghaa.XW.leq Go.Proofs.Ytfdemnefkfkghaa.XW.gtr Go.Proofs.Ytfdemnefkfkghaa.XW.geq
set_option linter.unusedVariables false
set_option linter.unusedSimpArgs false

def pack_Reader_Get32.f (s0_0 : List Int) (s0_1 : Int) (s0_2 : Int) : Option (Int × Int × Int) := (pack_Reader_take.f s0_0 s0_1 s0_2 4).bind fun bt101 => (some ((bt101.1) % 4294967296, bt101.2.1, bt101.2.2))
set_option maxHeartbeats 8000000 in
set_option maxRecDepth 100000 in
theorem pack_Reader_Get32.calls (g : Nat) (s0_0 : List Int) (s0_1 : Int) (s0_2 : Int) (r1 : Int) (r2 : Int) (r3 : Int) (w0 w : World) (hI : IsS206 w0 w g s0_0 s0_1 s0_2) (hB : Below w0.heap.size w0 w) (h : pack_Reader_Get32.f s0_0 s0_1 s0_2 = some (r1, r2, r3)) :
    Calls Try.prog 146 #[.pointer (some ⟨g, 0, none⟩)] w fun e w' => e = .returned (.int .u32 r1) ∧ IsS206 w0 w' g s0_0 r2 r3 ∧ Below w0.heap.size w0 w' ∧ KeepBut w w' g none := by
  have HI0 := Aside0.mk hI
  have HK := Aside0.mk (KeepBut.refl w g none)
  have HL := Aside0.mk hB.size
  clear hI
  have HW0 := Aside0.mk hB.size
  have HB := Aside0.mk hB
  clear hB
  have H : ((pack_Reader_take.f s0_0 s0_1 s0_2 4).bind fun bt101 => (some ((bt101.1) % 4294967296, bt101.2.1, bt101.2.2))) = some (r1, r2, r3) := h
  clear h
  replace H := Option.bind_eq_some_iff.mp H
  obtain ⟨⟨t101, t102, t103⟩, A20, H⟩ := H
  replace H : (some ((t101) % 4294967296, t102, t103)) = some (r1, r2, r3) := H
  have A2 := Aside0.mk A20
  clear A20
  simp only [Option.some.injEq, Prod.mk.injEq] at H
  obtain ⟨rfl, rfl, rfl⟩ := H
  go_enter Try.func146, Try.ntmps146
  go_wp2_with (first | ((with_reducible refine gate_callee (f := 193) rfl ?_); refine goesL_ (some 4) rfl rfl Try.func193 (by kernel_rfl) rfl #[.pointer (some ⟨g, 0, none⟩), .int .i64 4] rfl (by (try simp only [List.map_toArray, List.map_cons, List.map_nil]); first | done | rfl | (simp only [List.length_drop, List.length_take]; rfl)) ?_; (with_reducible refine (pack_Reader_take.calls g s0_0 s0_1 s0_2 4 t101 t102 t103 w0 _ ?side1 ?side2 A2.out).mono ?_); (case side1 => repeat (first | (with_reducible first | exact HI0.out | apply IsS206.alloc | apply IsS206.drewN | apply IsS206.drew | apply IsS206.set_1 | apply IsS206.set_2) | exact HI0.out)); (case side2 => repeat (first | (with_reducible first | exact HB.out | apply below_alloc | apply pw_below_drewN | apply below_drew1 | refine below_set ?_ (IsS206.ge HI0.out)) | exact HB.out)); rintro e w3 ⟨rfl, hi, hb, hk⟩; refine ⟨_, rfl, ?_⟩; have n0_ := Aside0.mk (KeepBut.trans (by repeat (first | (with_reducible first | exact HK.out | apply KeepBut.set_ | apply keep_drewN | apply keep_drew | apply keep_alloc) | exact HK.out)) hk (.inl rfl)); have n1_ := Aside0.mk (hb); have n2_ := Aside0.mk (hi); clear HK; clear HB; clear HI0; have HK := n0_; have HB := n1_; have HI0 := n2_; clear n0_ n1_ n2_; (try clear hb); (try clear hb2); (try clear hk); (try clear hi)))
  go_ret
  exact ⟨by first | rfl | (simp [errW_none, errW_some] <;> rfl) | (simp [*, errW_none, errW_some] <;> rfl), by repeat (first | (with_reducible first | exact HI0.out | apply IsS206.alloc | apply IsS206.drewN | apply IsS206.drew | apply IsS206.set_1 | apply IsS206.set_2) | exact HI0.out), by repeat (first | (with_reducible first | exact HB.out | apply below_alloc | apply pw_below_drewN | apply below_drew1 | refine below_set ?_ (IsS206.ge HI0.out)) | exact HB.out), by repeat (first | (with_reducible first | exact HK.out | apply KeepBut.set_ | apply keep_drewN | apply keep_drew | apply keep_alloc) | exact HK.out)⟩

end Go.Proofs.Ytfdemnefkfkghaa.X
namespace Go.Proofs.Ytfdemnefkfkghaa.X
open Go.RowKit Go.Proofs.YtfdemnefkfkghaaW.PrintWords Go.Proofs.YtfdemnefkfkghaaW.PrintLast Go.Proofs.YtfdemnefkfkghaaW.PrintMore
attribute [local go_sem] max2_int min2_int max_two min_two max_three min_three max_four min_four   -- for this text's walks alone
attribute [local go_sem high] Go.Proofs.Ytfdemnefkfkghaa.XW.leq Go.Proofs.Ytfdemnefkfkghaa.XW.gtr Go.Proofs.Ytfdemnefkfkghaa.XW.geq
set_option linter.unusedVariables false
set_option linter.unusedSimpArgs false

def pack_Reader_Left.f (s0_0 : List Int) (s0_1 : Int) (s0_2 : Int) : Option (Int × Int × Int) := some (wrap64 ((s0_0.length : Int) - s0_1), s0_1, s0_2)
set_option maxHeartbeats 8000000 in
set_option maxRecDepth 100000 in
theorem pack_Reader_Left.calls (g : Nat) (s0_0 : List Int) (s0_1 : Int) (s0_2 : Int) (r1 : Int) (r2 : Int) (r3 : Int) (w0 w : World) (hI : IsS206 w0 w g s0_0 s0_1 s0_2) (hB : Below w0.heap.size w0 w) (h : pack_Reader_Left.f s0_0 s0_1 s0_2 = some (r1, r2, r3)) :
    Calls Try.prog 147 #[.pointer (some ⟨g, 0, none⟩)] w fun e w' => e = .returned (.int .i64 r1) ∧ IsS206 w0 w' g s0_0 r2 r3 ∧ Below w0.heap.size w0 w' ∧ KeepBut w w' g none := by
  have HI0 := Aside0.mk hI
  have HK := Aside0.mk (KeepBut.refl w g none)
  have HL := Aside0.mk hB.size
  clear hI
  have HW0 := Aside0.mk hB.size
  have HB := Aside0.mk hB
  clear hB
  have H : (some (wrap64 ((s0_0.length : Int) - s0_1), s0_1, s0_2)) = some (r1, r2, r3) := h
  clear h
  simp only [Option.some.injEq, Prod.mk.injEq] at H
  obtain ⟨rfl, rfl, rfl⟩ := H
  obtain ⟨ASz2_0, cSz2_0, HGz2, hgz2, HSz2_0⟩ := HI0.out
  have hcz2_0 := cellS206_0 HGz2
  have hcz2_1 := cellS206_1 HGz2
  have hcz2_2 := cellS206_2 HGz2
  have hfz2_1 := blk_frozen HGz2 1
  have hfz2_2 := blk_frozen HGz2 2
  clear HGz2 hgz2
  go_enter Try.func147, Try.ntmps147
  go_wp2
  repeat (go_quiet (fail); try go_wp2)
  go_ret
  exact ⟨by first | rfl | (simp [errW_none, errW_some] <;> rfl) | (simp [*, errW_none, errW_some] <;> rfl), by repeat (first | (with_reducible first | exact HI0.out | apply IsS206.alloc | apply IsS206.drewN | apply IsS206.drew | apply IsS206.set_1 | apply IsS206.set_2) | exact HI0.out), by repeat (first | (with_reducible first | exact HB.out | apply below_alloc | apply pw_below_drewN | apply below_drew1 | refine below_set ?_ (IsS206.ge HI0.out)) | exact HB.out), by repeat (first | (with_reducible first | exact HK.out | apply KeepBut.set_ | apply keep_drewN | apply keep_drew | apply keep_alloc) | exact HK.out)⟩

end Go.Proofs.Ytfdemnefkfkghaa.X
namespace Go.Proofs.Ytfdemnefkfkghaa.X
open Go.RowKit Go.Proofs.YtfdemnefkfkghaaW.PrintWords Go.Proofs.YtfdemnefkfkghaaW.PrintLast Go.Proofs.YtfdemnefkfkghaaW.PrintMore
attribute [local go_sem] max2_int min2_int max_two min_two
set_option linter.unusedVariables false
set_option linter.unusedSimpArgs false

def pack_Reader_GetText.f (b : List Int) (at_ : Int) (e : Int) (a1 : Int) : Option (ByteArray × Int × Int) :=
  if 0 ≤ at_ ∧ at_ ≤ b.length then
    (if e = 0 then
      (if at_ = b.length then some (⟨#[]⟩, at_, 2)
      else if ∀ c ∈ b, 0 ≤ c ∧ c ≤ 255 then
        (if mx a1 0 < rd b at_ then some (⟨#[]⟩, at_, 4)
        else if b.length - (at_ + 1) < rd b at_ then some (⟨#[]⟩, at_, 2)
        else some (strOfNums ((b.take (at_ + 1 + rd b at_).toNat).drop (at_ + 1).toNat), at_ + 1 + rd b at_, 0))
      else none)
    else some (⟨#[]⟩, at_, e))
  else none

set_option maxHeartbeats 8000000 in
set_option maxRecDepth 100000 in
theorem pack_Reader_GetText.calls (g : Nat) (b : List Int) (at_ : Int) (e : Int) (a1 : Int) (r0 : ByteArray) (r1 : Int) (r2 : Int) (w0 w : World) (hI : IsS206 w0 w g b at_ e) (hB : Below w0.heap.size w0 w) (h : pack_Reader_GetText.f b at_ e a1 = some (r0, r1, r2)) :
    Calls Try.prog 145 #[.pointer (some ⟨g, 0, none⟩), .int .i64 a1] w fun e w' => e = .returned (.string r0) ∧ IsS206 w0 w' g b r1 r2 ∧ Below w0.heap.size w0 w' ∧ KeepBut w w' g none := by
  have HI := Aside0.mk hI
  have HB := Aside0.mk hB
  unfold pack_Reader_GetText.f at h
  obtain ⟨A, c, HG, hg, HS⟩ := hI
  have hcw0 := cellS206_0 HG
  have hcw1 := cellS206_1 HG
  have hcw2 := cellS206_2 HG
  have hlen : b.length ≤ 9223372036854775807 := HS.1.2.1
  clear HG hg HS hB
  by_cases hr : 0 ≤ at_ ∧ at_ ≤ b.length
  · rw [if_pos hr] at h
    obtain ⟨h0, h1⟩ := hr
    by_cases he : e = 0
    · rw [if_pos he] at h
      by_cases hend : at_ = b.length
      · rw [if_pos hend] at h
        simp only [Option.some.injEq, Prod.mk.injEq] at h
        obtain ⟨rfl, rfl, rfl⟩ := h
        have HT : Aside0 (pack_Reader_take.f b at_ e 1 = some (0, at_, 2)) := ⟨by
          unfold pack_Reader_take.f
          rw [if_pos (by omega), if_pos he, if_pos (by omega)]⟩
        clear he hend
        go_enter Try.func145, Try.ntmps145
        go_wp2_with (first | (go_at_call 193; (with_reducible refine (pack_Reader_take.calls g b at_ _ 1 0 at_ 2 w0 _ ?s1 ?s2 HT.out).mono ?_); (case s1 => exact HI.out); (case s2 => exact HB.out); rintro x w1 ⟨rfl, hI1, hB1, hK1⟩; have HI1 := Aside0.mk hI1; have HK := Aside0.mk hK1; clear HB; have HB := Aside0.mk hB1; obtain ⟨A, c, HG, hg, HS⟩ := hI1; have hcz0 := cellS206_0 HG; have hcz1 := cellS206_1 HG; have hcz2 := cellS206_2 HG; have hfz1 := blk_frozen HG 1; have hfz2 := blk_frozen HG 2; have HSA := Aside0.mk HS; have HGA := Aside0.mk HG; clear HG hg HS hB1 hK1 HI))
        go_ret
        exact ⟨rfl, by repeat (first | (with_reducible first | exact HI1.out | apply IsS206.alloc | apply IsS206.drewN | apply IsS206.drew | apply IsS206.set_1 | apply IsS206.set_2) | exact HI1.out), by repeat (first | (with_reducible first | exact HB.out | apply below_alloc | apply pw_below_drewN | apply below_drew1 | refine below_set ?_ (IsS206.ge HI1.out)) | exact HB.out), by repeat (first | (with_reducible first | exact HK.out | apply KeepBut.set_ | apply keep_drewN | apply keep_drew | apply keep_alloc) | exact HK.out)⟩
      · rw [if_neg hend] at h
        by_cases hb : ∀ c ∈ b, 0 ≤ c ∧ c ≤ 255
        · rw [if_pos hb] at h
          have hlt : at_ < b.length := by omega
          have hv : rd b at_ = b[at_.toNat]'(by omega) := by
            unfold rd
            rw [List.getD_eq_getElem?_getD, List.getElem?_eq_getElem (by omega)]
            rfl
          have hvb := hb _ (List.getElem_mem (h := (by omega : at_.toNat < b.length)))
          rw [← hv] at hvb
          obtain ⟨v, ev⟩ : ∃ v, rd b at_ = v := ⟨_, rfl⟩
          have HT : Aside0 (pack_Reader_take.f b at_ e 1 = some (v, at_ + 1, e)) := ⟨by
            unfold pack_Reader_take.f
            rw [if_pos (by omega), if_pos he, if_neg (by omega), if_pos hb]
            have e1 : (at_ + 1).toNat = at_.toNat + 1 := by omega
            have e2 : (b.take (at_ + 1).toNat).drop at_.toNat = [v] := by
              rw [e1, List.drop_take, show at_.toNat + 1 - at_.toNat = 1 by omega, List.drop_eq_getElem_cons (by omega)]
              simp only [List.take_succ_cons, List.take_zero]
              rw [← ev, hv]
            rw [e2]
            simp only [beNum]
            rw [show (0 : Int) * 256 + v = v by omega]⟩
          rw [ev] at h hvb
          obtain ⟨hv0, hv1⟩ := hvb
          subst he
          have hmm : (if a1 < 0 then 0 else a1) = mx a1 0 := by unfold mx; rfl
          obtain ⟨mm, em⟩ : ∃ mm, mx a1 0 = mm := ⟨_, rfl⟩
          rw [em] at hmm h
          clear hv ev em
          by_cases hm : mm < v
          · rw [if_pos hm] at h
            simp only [Option.some.injEq, Prod.mk.injEq] at h
            obtain ⟨rfl, rfl, rfl⟩ := h
            have hd : decide (mm < v) = true := decide_eq_true hm
            clear hm hb hend
            go_enter Try.func145, Try.ntmps145
            go_wp2_with (first | (go_at_call 193; (with_reducible refine (pack_Reader_take.calls g b at_ _ 1 v (at_ + 1) 0 w0 _ ?s1 ?s2 HT.out).mono ?_); (case s1 => exact HI.out); (case s2 => exact HB.out); rintro x w1 ⟨rfl, hI1, hB1, hK1⟩; have HI1 := Aside0.mk hI1; have HK := Aside0.mk hK1; clear HB; have HB := Aside0.mk hB1; obtain ⟨A, c, HG, hg, HS⟩ := hI1; have hcz0 := cellS206_0 HG; have hcz1 := cellS206_1 HG; have hcz2 := cellS206_2 HG; have hfz1 := blk_frozen HG 1; have hfz2 := blk_frozen HG 2; have HSA := Aside0.mk HS; have HGA := Aside0.mk HG; clear HG hg HS hB1 hK1 HI))
            go_ret
            exact ⟨rfl, by repeat (first | (with_reducible first | exact HI1.out | apply IsS206.alloc | apply IsS206.drewN | apply IsS206.drew | apply IsS206.set_1 | apply IsS206.set_2) | exact HI1.out), by repeat (first | (with_reducible first | exact HB.out | apply below_alloc | apply pw_below_drewN | apply below_drew1 | refine below_set ?_ (IsS206.ge HI1.out)) | exact HB.out), by repeat (first | (with_reducible first | exact HK.out | apply KeepBut.set_ | apply keep_drewN | apply keep_drew | apply keep_alloc) | exact HK.out)⟩
          · rw [if_neg hm] at h
            have hd : decide (mm < v) = false := decide_eq_false hm
            by_cases hn : b.length - (at_ + 1) < v
            · rw [if_pos hn] at h
              simp only [Option.some.injEq, Prod.mk.injEq] at h
              obtain ⟨rfl, rfl, rfl⟩ := h
              have hd2 : decide ((b.length : Int) - (at_ + 1) < v) = true := decide_eq_true hn
              clear hm hb hend hn
              go_enter Try.func145, Try.ntmps145
              go_wp2_with (first | (go_at_call 193; (with_reducible refine (pack_Reader_take.calls g b at_ _ 1 v (at_ + 1) 0 w0 _ ?s1 ?s2 HT.out).mono ?_); (case s1 => exact HI.out); (case s2 => exact HB.out); rintro x w1 ⟨rfl, hI1, hB1, hK1⟩; have HI1 := Aside0.mk hI1; have HK := Aside0.mk hK1; clear HB; have HB := Aside0.mk hB1; obtain ⟨A, c, HG, hg, HS⟩ := hI1; have hcz0 := cellS206_0 HG; have hcz1 := cellS206_1 HG; have hcz2 := cellS206_2 HG; have hfz1 := blk_frozen HG 1; have hfz2 := blk_frozen HG 2; have HSA := Aside0.mk HS; have HGA := Aside0.mk HG; clear HG hg HS hB1 hK1 HI))
              repeat (go_quiet (fail); try go_wp2)
              go_ret
              exact ⟨rfl, by repeat (first | (with_reducible first | exact HI1.out | apply IsS206.alloc | apply IsS206.drewN | apply IsS206.drew | apply IsS206.set_1 | apply IsS206.set_2) | exact HI1.out), by repeat (first | (with_reducible first | exact HB.out | apply below_alloc | apply pw_below_drewN | apply below_drew1 | refine below_set ?_ (IsS206.ge HI1.out)) | exact HB.out), by repeat (first | (with_reducible first | exact HK.out | apply KeepBut.set_ | apply keep_drewN | apply keep_drew | apply keep_alloc) | exact HK.out)⟩
            · rw [if_neg hn] at h
              simp only [Option.some.injEq, Prod.mk.injEq] at h
              obtain ⟨hr0, rfl, rfl⟩ := h
              have hd2 : decide ((b.length : Int) - (at_ + 1) < v) = false := decide_eq_false hn
              obtain ⟨i0, hi, hzz⟩ := Option.map_eq_some_iff.1 info5
              simp only [Prod.mk.injEq] at hzz
              have hle : at_ + 1 + v ≤ (b.length : Int) := by omega
              have hw1 : wrap64 (at_ + 1 + v) = at_ + 1 + v := by unfold wrap64; omega
              have hw2 : wrap64 (at_ + 1 + v - v) = at_ + 1 := by unfold wrap64; omega
              have hw4 : wrap64 (at_ + 1) = at_ + 1 := by unfold wrap64; omega
              have hw3 : at_ + 1 + v - v = at_ + 1 := by omega
              have HR0 := Aside0.mk hr0
              have HZ := Aside0.mk hzz.2.1
              have HII := Aside0.mk hi
              clear hm hb hend hn hr0 hi hzz hlt
              go_enter Try.func145, Try.ntmps145
              go_wp2_with (first | (go_at_call 193; (with_reducible refine (pack_Reader_take.calls g b at_ _ 1 v (at_ + 1) 0 w0 _ ?s1 ?s2 HT.out).mono ?_); (case s1 => exact HI.out); (case s2 => exact HB.out); rintro x w1 ⟨rfl, hI1, hB1, hK1⟩; have HI1 := Aside0.mk hI1; have HK := Aside0.mk hK1; clear HB; have HB := Aside0.mk hB1; obtain ⟨A, c, HG, hg, HS⟩ := hI1; have hcz0 := cellS206_0 HG; have hcz1 := cellS206_1 HG; have hcz2 := cellS206_2 HG; have hfz1 := blk_frozen HG 1; have hfz2 := blk_frozen HG 2; have HSA := Aside0.mk HS; have HGA := Aside0.mk HG; clear HG hg HS hB1 hK1 HI))
              go_quiet (fail)
              go_wp2
              obtain ⟨A', hsl, hre, hcap⟩ := print_mid_int (k := .u8) (P := Try.prog) 31 5 Try.underlying31 HII.out HZ.out A c b (at_ + 1) (at_ + 1 + v) (by omega) (by omega) hle HSA.out.2
              obtain ⟨seg, es⟩ : ∃ seg, (b.take (at_ + 1 + v).toNat).drop (at_ + 1).toNat = seg := ⟨_, rfl⟩
              rw [es] at hsl hre
              have HR1 : Aside0 (strOfNums seg = r0) := ⟨by rw [← es]; exact HR0.out⟩
              obtain ⟨cc, ec⟩ : ∃ cc, c - (at_ + 1).toNat = cc := ⟨_, rfl⟩
              rw [ec] at hsl
              have HRE := Aside0.mk hre
              clear hre hcap es ec
              refine start_ (n := 17) (S := fun w' => w'.cell? ⟨g, 0, none⟩ = some (.slice A b.length c) ∧ w'.cell? ⟨g, 1, none⟩ = some (.int .i64 (at_ + 1 + v)) ∧ (convert 31 9 (.slice A' seg.length cc)).run Try.prog w' = .ok (.string (strOfNums seg)) w') (ds := []) #[false, false, false, false, false, false, false, false, false, false, false, false, false, false, false, false, false] (by kernel_rfl) rfl rfl ⟨((blk_cell (blk_put (cs := #[.slice A b.length c, .int .i64 (at_ + 1), .int .i64 0]) HGA.out 1 (.int .i64 (at_ + 1 + v)) rfl) 0).trans rfl), ((blk_cell (blk_put (cs := #[.slice A b.length c, .int .i64 (at_ + 1), .int .i64 0]) HGA.out 1 (.int .i64 (at_ + 1 + v)) rfl) 1).trans rfl), (string_of_reads (A := A') (n := seg.length) (c := cc) Try.underlying31 Try.underlying5 Try.underlying9 (HRE.out _ (Kd.reads_of_C (enc := Value.int .u8) (d := (0 : Int)) (h1 := fun _ => rfl) (Kd.C_below HSA.out.1 (by repeat (first | (with_reducible first | exact HB.out | apply below_alloc | apply pw_below_drewN | apply below_drew1 | refine below_set ?_ (IsS206.ge HI1.out)) | exact HB.out))))))⟩ (fun hHeld => ?_)
              refine pure_ (i := 0) (N := some 63) (v := ?_) (a' := ?_) #[true, false, false, false, false, false, false, false, false, false, false, false, false, false, false, false, false] rfl rfl (by kernel_rfl) (fun _ _ _ h => h) (Or.inl ⟨by rfl, ?_⟩) ?_ ?_
              rotate_left
              · intro w'
                go_simp
                with_reducible rfl
              rotate_left
              · simp only [Act.put, List.setIfInBounds_toArray, List.set_cons_zero, List.set_cons_succ, i64_w, i32_w]
                rfl
              refine pure_ (i := 1) (N := some 64) (v := ?_) (a' := ?_) #[true, true, false, false, false, false, false, false, false, false, false, false, false, false, false, false, false] rfl rfl (by kernel_rfl) (fun _ _ _ h => h) (Or.inl ⟨by rfl, ?_⟩) ?_ ?_
              rotate_left
              · intro w'
                go_simp
                with_reducible rfl
              rotate_left
              · simp only [Act.put, List.setIfInBounds_toArray, List.set_cons_zero, List.set_cons_succ, i64_w, i32_w]
                rfl
              refine pure_ (i := 2) (N := some 65) (v := ?_) (a' := ?_) #[true, true, true, false, false, false, false, false, false, false, false, false, false, false, false, false, false] rfl rfl (by kernel_rfl) (fun _ _ _ h => h) (Or.inl ⟨by rfl, ?_⟩) ?_ ?_
              rotate_left
              · intro w'
                go_simp
                with_reducible rfl
              rotate_left
              · simp only [Act.put, List.setIfInBounds_toArray, List.set_cons_zero, List.set_cons_succ, i64_w, i32_w]
                rfl
              refine pure_ (i := 4) (N := some 67) (v := ?_) (a' := ?_) #[true, true, true, false, true, false, false, false, false, false, false, false, false, false, false, false, false] rfl rfl (by kernel_rfl) (fun _ _ _ h => h) (Or.inl ⟨by rfl, ?_⟩) ?_ ?_
              rotate_left
              · intro w'
                go_simp
                with_reducible rfl
              rotate_left
              · simp only [Act.put, List.setIfInBounds_toArray, List.set_cons_zero, List.set_cons_succ, i64_w, i32_w]
                rfl
              refine pure_ (i := 5) (N := some 68) (v := ?_) (a' := ?_) #[true, true, true, false, true, true, false, false, false, false, false, false, false, false, false, false, false] rfl rfl (by kernel_rfl) (fun _ _ _ h => h) (Or.inl ⟨by rfl, ?_⟩) ?_ ?_
              rotate_left
              · intro w'
                go_simp
                with_reducible rfl
              rotate_left
              · simp only [Act.put, List.setIfInBounds_toArray, List.set_cons_zero, List.set_cons_succ, i64_w, i32_w]
                rfl
              refine pure_ (i := 6) (N := some 69) (v := ?_) (a' := ?_) #[true, true, true, false, true, true, true, false, false, false, false, false, false, false, false, false, false] rfl rfl (by kernel_rfl) (fun _ _ _ h => h) (Or.inl ⟨by rfl, ?_⟩) ?_ ?_
              rotate_left
              · intro w'
                go_simp
                with_reducible rfl
              rotate_left
              · simp only [Act.put, List.setIfInBounds_toArray, List.set_cons_zero, List.set_cons_succ, i64_w, i32_w]
                rfl
              refine pure_ (i := 8) (N := some 71) (v := ?_) (a' := ?_) #[true, true, true, false, true, true, true, false, true, false, false, false, false, false, false, false, false] rfl rfl (by kernel_rfl) (fun _ _ _ h => h) (Or.inl ⟨by rfl, ?_⟩) ?_ ?_
              rotate_left
              · intro w'
                go_simp
                with_reducible rfl
              rotate_left
              · simp only [Act.put, List.setIfInBounds_toArray, List.set_cons_zero, List.set_cons_succ, i64_w, i32_w]
                rfl
              refine pure_ (i := 10) (N := some 73) (v := ?_) (a' := ?_) #[true, true, true, false, true, true, true, false, true, false, true, false, false, false, false, false, false] rfl rfl (by kernel_rfl) (fun _ _ _ h => h) (Or.inl ⟨by rfl, ?_⟩) ?_ ?_
              rotate_left
              · intro w'
                go_simp
                with_reducible rfl
              rotate_left
              · simp only [Act.put, List.setIfInBounds_toArray, List.set_cons_zero, List.set_cons_succ, i64_w, i32_w]
                rfl
              refine pure_ (i := 11) (N := some 74) (v := ?_) (a' := ?_) #[true, true, true, false, true, true, true, false, true, false, true, true, false, false, false, false, false] rfl rfl (by kernel_rfl) (fun _ _ _ h => h) (Or.inl ⟨by rfl, ?_⟩) ?_ ?_
              rotate_left
              · intro w'
                go_simp
                with_reducible rfl
              rotate_left
              · simp only [Act.put, List.setIfInBounds_toArray, List.set_cons_zero, List.set_cons_succ, i64_w, i32_w]
                rfl
              refine pure_ (i := 12) (N := some 75) (v := ?_) (a' := ?_) #[true, true, true, false, true, true, true, false, true, false, true, true, true, false, false, false, false] rfl rfl (by kernel_rfl) (fun _ _ _ h => h) (Or.inl ⟨by rfl, ?_⟩) ?_ ?_
              rotate_left
              · intro w'
                go_simp
                with_reducible rfl
              rotate_left
              · simp only [Act.put, List.setIfInBounds_toArray, List.set_cons_zero, List.set_cons_succ, i64_w, i32_w]
                rfl
              refine take_ (i := 3) (N := some 66) (v := ?_) (a' := ?_) #[true, true, true, true, true, true, true, false, true, false, true, true, true, false, false, false, false] rfl rfl (by kernel_rfl) (fun _ _ _ h => h) (Or.inl ⟨by rfl, ?_⟩) hHeld ?_ ?_
              rotate_left
              · rintro w' ⟨s0, s1, s2⟩
                go_simp
                with_reducible rfl
              rotate_left
              · simp only [Act.put, List.setIfInBounds_toArray, List.set_cons_zero, List.set_cons_succ, i64_w, i32_w]
                rfl
              refine take_ (i := 7) (N := some 70) (v := ?_) (a' := ?_) #[true, true, true, true, true, true, true, true, true, false, true, true, true, false, false, false, false] rfl rfl (by kernel_rfl) (fun _ _ _ h => h) (Or.inl ⟨by rfl, ?_⟩) hHeld ?_ ?_
              rotate_left
              · rintro w' ⟨s0, s1, s2⟩
                go_simp
                with_reducible rfl
              rotate_left
              · simp only [Act.put, List.setIfInBounds_toArray, List.set_cons_zero, List.set_cons_succ, i64_w, i32_w]
                rfl
              refine pure_ (i := 9) (N := some 72) (v := ?_) (a' := ?_) #[true, true, true, true, true, true, true, true, true, true, true, true, true, false, false, false, false] rfl rfl (by kernel_rfl) (fun _ _ _ h => h) (Or.inl ⟨by rfl, ?_⟩) ?_ ?_
              rotate_left
              · intro w'
                go_simp
                with_reducible rfl
              rotate_left
              · simp only [Act.put, List.setIfInBounds_toArray, List.set_cons_zero, List.set_cons_succ, i64_w, i32_w]
                rfl
              refine take_ (i := 13) (N := some 76) (v := ?_) (a' := ?_) #[true, true, true, true, true, true, true, true, true, true, true, true, true, true, false, false, false] rfl rfl (by kernel_rfl) (fun _ _ _ h => h) (Or.inl ⟨by rfl, ?_⟩) hHeld ?_ ?_
              rotate_left
              · rintro w' ⟨s0, s1, s2⟩
                go_simp
                with_reducible rfl
              rotate_left
              · simp only [Act.put, List.setIfInBounds_toArray, List.set_cons_zero, List.set_cons_succ, i64_w, i32_w]
                rfl
              refine pure_ (i := 14) (N := some 77) (v := ?_) (a' := ?_) #[true, true, true, true, true, true, true, true, true, true, true, true, true, true, true, false, false] rfl rfl (by kernel_rfl) (fun _ _ _ h => h) (Or.inl ⟨by rfl, ?_⟩) ?_ ?_
              rotate_left
              · intro w'
                go_simp
                with_reducible rfl
              rotate_left
              · simp only [Act.put, List.setIfInBounds_toArray, List.set_cons_zero, List.set_cons_succ, i64_w, i32_w]
                rfl
              refine take_ (i := 15) (N := some 78) (v := ?_) (a' := ?_) #[true, true, true, true, true, true, true, true, true, true, true, true, true, true, true, true, false] rfl rfl (by kernel_rfl) (fun _ _ _ h => h) (Or.inl ⟨by rfl, ?_⟩) hHeld ?_ ?_
              rotate_left
              · rintro w' ⟨s0, s1, s2⟩
                go_simp
                with_reducible rfl
              rotate_left
              · simp only [Act.put, List.setIfInBounds_toArray, List.set_cons_zero, List.set_cons_succ, i64_w, i32_w]
                rfl
              refine pure_ (i := 16) (N := some 4) (v := ?_) (a' := ?_) #[true, true, true, true, true, true, true, true, true, true, true, true, true, true, true, true, true] rfl rfl (by kernel_rfl) (fun _ _ _ h => h) (Or.inl ⟨by rfl, ?_⟩) ?_ ?_
              rotate_left
              · intro w'
                go_simp
                with_reducible rfl
              rotate_left
              · simp only [Act.put, List.setIfInBounds_toArray, List.set_cons_zero, List.set_cons_succ, i64_w, i32_w]
                rfl
              refine done_ (by kernel_rfl) ?_

              go_wp2
              go_ret
              rw [← HR1.out]
              exact ⟨rfl, by repeat (first | (with_reducible first | exact HI1.out | apply IsS206.alloc | apply IsS206.drewN | apply IsS206.drew | apply IsS206.set_1 | apply IsS206.set_2) | exact HI1.out), by repeat (first | (with_reducible first | exact HB.out | apply below_alloc | apply pw_below_drewN | apply below_drew1 | refine below_set ?_ (IsS206.ge HI1.out)) | exact HB.out), by repeat (first | (with_reducible first | exact HK.out | apply KeepBut.set_ | apply keep_drewN | apply keep_drew | apply keep_alloc) | exact HK.out)⟩
        · rw [if_neg hb] at h
          cases h
    · rw [if_neg he] at h
      simp only [Option.some.injEq, Prod.mk.injEq] at h
      obtain ⟨rfl, rfl, rfl⟩ := h
      have HT : Aside0 (pack_Reader_take.f b at_ e 1 = some (0, at_, e)) := ⟨by
        unfold pack_Reader_take.f
        rw [if_pos (by omega), if_neg he]⟩
      have hd : (e != 0) = true := bne_iff_ne.mpr he
      clear he
      go_enter Try.func145, Try.ntmps145
      go_wp2_with (first | (go_at_call 193; (with_reducible refine (pack_Reader_take.calls g b at_ _ 1 0 at_ e w0 _ ?s1 ?s2 HT.out).mono ?_); (case s1 => exact HI.out); (case s2 => exact HB.out); rintro x w1 ⟨rfl, hI1, hB1, hK1⟩; have HI1 := Aside0.mk hI1; have HK := Aside0.mk hK1; clear HB; have HB := Aside0.mk hB1; obtain ⟨A, c, HG, hg, HS⟩ := hI1; have hcz0 := cellS206_0 HG; have hcz1 := cellS206_1 HG; have hcz2 := cellS206_2 HG; have hfz1 := blk_frozen HG 1; have hfz2 := blk_frozen HG 2; have HSA := Aside0.mk HS; have HGA := Aside0.mk HG; clear HG hg HS hB1 hK1 HI))
      go_ret
      exact ⟨rfl, by repeat (first | (with_reducible first | exact HI1.out | apply IsS206.alloc | apply IsS206.drewN | apply IsS206.drew | apply IsS206.set_1 | apply IsS206.set_2) | exact HI1.out), by repeat (first | (with_reducible first | exact HB.out | apply below_alloc | apply pw_below_drewN | apply below_drew1 | refine below_set ?_ (IsS206.ge HI1.out)) | exact HB.out), by repeat (first | (with_reducible first | exact HK.out | apply KeepBut.set_ | apply keep_drewN | apply keep_drew | apply keep_alloc) | exact HK.out)⟩
  · rw [if_neg hr] at h
    cases h
end Go.Proofs.Ytfdemnefkfkghaa.X
namespace Go.Proofs.Ytfdemnefkfkghaa.X
open Go.RowKit Go.Proofs.YtfdemnefkfkghaaW.PrintWords Go.Proofs.YtfdemnefkfkghaaW.PrintLast Go.Proofs.YtfdemnefkfkghaaW.PrintMore
attribute [local go_sem] max2_int min2_int max_two min_two max_three min_three max_four min_four   -- for this text's walks alone
attribute [local go_sem high] Go.Proofs.Ytfdemnefkfkghaa.XW.leq Go.Proofs.Ytfdemnefkfkghaa.XW.gtr Go.Proofs.Ytfdemnefkfkghaa.XW.geq
set_option linter.unusedVariables false
set_option linter.unusedSimpArgs false

def dump_pair.f (s0_0 : List Int) (s0_1 : Int) (s0_2 : Int) (a1 : ByteArray) : Option (ByteArray × ByteArray × Int × Int) := (pack_Reader_Get8.f s0_0 s0_1 s0_2).bind fun bt102 => (if (wrap64 (bt102.1)) > (a1.size : Int) then ((pack_Reader_Fail.f s0_0 bt102.2.1 bt102.2.2 3).bind fun bt105 => (if 0 ≤ 0 then (if 0 ≤ (a1.size : Int) then ((pack_Reader_GetText.f s0_0 bt105.1 bt105.2 (wrap64 16)).bind fun bt107 => (if bt107.1.size ≤ 9223372036854775807 then ((pack_Reader_GetText.f s0_0 bt107.2.1 bt107.2.2 32).bind fun bt110 => (some (bt107.1, bt110.1, bt110.2.1, bt110.2.2))) else (none))) else (none)) else (none))) else (if 0 ≤ (wrap64 (bt102.1)) then (if (wrap64 (bt102.1)) ≤ (a1.size : Int) then ((pack_Reader_GetText.f s0_0 bt102.2.1 bt102.2.2 (wrap64 (16 - (wrap64 (bt102.1))))).bind fun bt113 => (if (a1.extract 0 ((wrap64 (bt102.1)) : Int).toNat).size + bt113.1.size ≤ 9223372036854775807 then ((pack_Reader_GetText.f s0_0 bt113.2.1 bt113.2.2 32).bind fun bt116 => (some ((a1.extract 0 ((wrap64 (bt102.1)) : Int).toNat) ++ bt113.1, bt116.1, bt116.2.1, bt116.2.2))) else (none))) else (none)) else (none)))
def dump_pair.T5 : Bool × List (List Nat × List Nat) := (true, [([], []), ([], []), ([0, 1], [0, 1]), ([], []), ([], []), ([4], [4]), ([3, 5], [3, 5]), ([2, 6], [2, 6]), ([7, 6, 0, 1, 2, 3, 4, 5, 6, 7], [7])])
def dump_pair.B5 : List Nat := [0, 0, 3, 0, 0, 16, 56, 127, 255]
theorem dump_pair.tab5 : rtab .any (opsOf Try.f148 5) = dump_pair.T5 := by kernel_rfl
theorem dump_pair.bits5 : waitsOk dump_pair.T5.2 dump_pair.B5 = true := by kernel_rfl
set_option maxHeartbeats 8000000 in
set_option maxRecDepth 100000 in
theorem dump_pair.calls (g : Nat) (s0_0 : List Int) (s0_1 : Int) (s0_2 : Int) (a1 : ByteArray) (r1 : ByteArray) (r2 : ByteArray) (r3 : Int) (r4 : Int) (w0 w : World) (hI : IsS206 w0 w g s0_0 s0_1 s0_2) (hB : Below w0.heap.size w0 w) (h : dump_pair.f s0_0 s0_1 s0_2 a1 = some (r1, r2, r3, r4)) :
    Calls Try.prog 148 #[.pointer (some ⟨g, 0, none⟩), .string a1] w fun e w' => e = .returned (.agg #[.string r1, .string r2]) ∧ IsS206 w0 w' g s0_0 r3 r4 ∧ Below w0.heap.size w0 w' ∧ KeepBut w w' g none := by
  have hu145 := Try.underlying145
  have HI0 := Aside0.mk hI
  have HK := Aside0.mk (KeepBut.refl w g none)
  have HL := Aside0.mk hB.size
  clear hI
  have HW0 := Aside0.mk hB.size
  have HB := Aside0.mk hB
  clear hB
  have H : ((pack_Reader_Get8.f s0_0 s0_1 s0_2).bind fun bt102 => (if (wrap64 (bt102.1)) > (a1.size : Int) then ((pack_Reader_Fail.f s0_0 bt102.2.1 bt102.2.2 3).bind fun bt105 => (if 0 ≤ 0 then (if 0 ≤ (a1.size : Int) then ((pack_Reader_GetText.f s0_0 bt105.1 bt105.2 (wrap64 16)).bind fun bt107 => (if bt107.1.size ≤ 9223372036854775807 then ((pack_Reader_GetText.f s0_0 bt107.2.1 bt107.2.2 32).bind fun bt110 => (some (bt107.1, bt110.1, bt110.2.1, bt110.2.2))) else (none))) else (none)) else (none))) else (if 0 ≤ (wrap64 (bt102.1)) then (if (wrap64 (bt102.1)) ≤ (a1.size : Int) then ((pack_Reader_GetText.f s0_0 bt102.2.1 bt102.2.2 (wrap64 (16 - (wrap64 (bt102.1))))).bind fun bt113 => (if (a1.extract 0 ((wrap64 (bt102.1)) : Int).toNat).size + bt113.1.size ≤ 9223372036854775807 then ((pack_Reader_GetText.f s0_0 bt113.2.1 bt113.2.2 32).bind fun bt116 => (some ((a1.extract 0 ((wrap64 (bt102.1)) : Int).toNat) ++ bt113.1, bt116.1, bt116.2.1, bt116.2.2))) else (none))) else (none)) else (none)))) = some (r1, r2, r3, r4) := h
  clear h
  replace H := Option.bind_eq_some_iff.mp H
  obtain ⟨⟨t102, t103, t104⟩, A30, H⟩ := H
  replace H : (if (wrap64 (t102)) > (a1.size : Int) then ((pack_Reader_Fail.f s0_0 t103 t104 3).bind fun bt105 => (if 0 ≤ 0 then (if 0 ≤ (a1.size : Int) then ((pack_Reader_GetText.f s0_0 bt105.1 bt105.2 (wrap64 16)).bind fun bt107 => (if bt107.1.size ≤ 9223372036854775807 then ((pack_Reader_GetText.f s0_0 bt107.2.1 bt107.2.2 32).bind fun bt110 => (some (bt107.1, bt110.1, bt110.2.1, bt110.2.2))) else (none))) else (none)) else (none))) else (if 0 ≤ (wrap64 (t102)) then (if (wrap64 (t102)) ≤ (a1.size : Int) then ((pack_Reader_GetText.f s0_0 t103 t104 (wrap64 (16 - (wrap64 (t102))))).bind fun bt113 => (if (a1.extract 0 ((wrap64 (t102)) : Int).toNat).size + bt113.1.size ≤ 9223372036854775807 then ((pack_Reader_GetText.f s0_0 bt113.2.1 bt113.2.2 32).bind fun bt116 => (some ((a1.extract 0 ((wrap64 (t102)) : Int).toNat) ++ bt113.1, bt116.1, bt116.2.1, bt116.2.2))) else (none))) else (none)) else (none))) = some (r1, r2, r3, r4) := H
  have A3 := Aside0.mk A30
  clear A30
  by_cases c4 : (wrap64 (t102)) > (a1.size : Int)
  · rw [if_pos c4] at H
    have c4b0 : decide ((a1.size : Int) < (wrap64 (t102))) = true := decide_eq_true c4
    clear c4
    replace H := Option.bind_eq_some_iff.mp H
    obtain ⟨⟨t105, t106⟩, A50, H⟩ := H
    replace H : (if 0 ≤ 0 then (if 0 ≤ (a1.size : Int) then ((pack_Reader_GetText.f s0_0 t105 t106 (wrap64 16)).bind fun bt107 => (if bt107.1.size ≤ 9223372036854775807 then ((pack_Reader_GetText.f s0_0 bt107.2.1 bt107.2.2 32).bind fun bt110 => (some (bt107.1, bt110.1, bt110.2.1, bt110.2.2))) else (none))) else (none)) else (none)) = some (r1, r2, r3, r4) := H
    have A5 := Aside0.mk A50
    clear A50
    by_cases c6 : 0 ≤ 0
    · rw [if_pos c6] at H
      have c6b0 := eq_true c6
      have c6b1 : decide (0 ≤ 0) = true := decide_eq_true c6
      clear c6
      by_cases c7 : 0 ≤ (a1.size : Int)
      · rw [if_pos c7] at H
        have c7b0 := eq_true c7
        have c7b1 : decide (0 ≤ (a1.size : Int)) = true := decide_eq_true c7
        clear c7
        replace H := Option.bind_eq_some_iff.mp H
        obtain ⟨⟨t107, t108, t109⟩, A80, H⟩ := H
        replace H : (if t107.size ≤ 9223372036854775807 then ((pack_Reader_GetText.f s0_0 t108 t109 32).bind fun bt110 => (some (t107, bt110.1, bt110.2.1, bt110.2.2))) else (none)) = some (r1, r2, r3, r4) := H
        have A8 := Aside0.mk A80
        clear A80
        by_cases c9 : t107.size ≤ 9223372036854775807
        · rw [if_pos c9] at H
          have c9b0 := eq_true c9
          have c9b1 : decide (t107.size ≤ 9223372036854775807) = true := decide_eq_true c9
          try have c9b2 : (9223372036854775807 < t107.size) = False := eq_false (Nat.not_lt.2 c9)
          replace H := Option.bind_eq_some_iff.mp H
          obtain ⟨⟨t110, t111, t112⟩, A100, H⟩ := H
          replace H : (some (t107, t110, t111, t112)) = some (r1, r2, r3, r4) := H
          have A10 := Aside0.mk A100
          clear A100
          simp only [Option.some.injEq, Prod.mk.injEq] at H
          obtain ⟨rfl, rfl, rfl, rfl⟩ := H
          go_enter Try.func148, Try.ntmps148
          try go_wp2_with (first | ((with_reducible refine gate_dst (N := 4) rfl ?_); refine box_event ?hg (N := 4) ?hd (cs := #[.string (⟨#[]⟩ : ByteArray), .string (⟨#[]⟩ : ByteArray)]) (t := 145) ?hr ?_; (case hd => rfl); (case hg => rfl); (case hr => first | (go_simp; done) | (go_simp; rfl)); intro gb101 hg w11 hbox hb; have n0_ := Aside0.mk (IsS206.below (by repeat (first | (with_reducible first | exact HI0.out | apply IsS206.alloc | apply IsS206.drewN | apply IsS206.drew | apply IsS206.set_1 | apply IsS206.set_2) | exact HI0.out)) hb); have n1_ := Aside0.mk (KeepBut.trans (by repeat (first | (with_reducible first | exact HK.out | apply KeepBut.set_ | apply keep_drewN | apply keep_drew | apply keep_alloc) | exact HK.out)) (KeepBut.of_below hb g none) (.inl rfl)); have n2_ := Aside0.mk (below_step (by repeat (first | (with_reducible first | exact HB.out | apply below_alloc | apply pw_below_drewN | apply below_drew1 | refine below_set ?_ (IsS206.ge HI0.out)) | exact HB.out)) hb); have n3_ := Aside0.mk (hbox); have n4_ := Aside0.mk ((by rw [hg]; exact (keep_size (w := w) (g := g) (row := none) (by repeat (first | (with_reducible first | exact HK.out | apply KeepBut.set_ | apply keep_drewN | apply keep_drew | apply keep_alloc) | exact HK.out))) : w.heap.size ≤ gb101)); have n5_ := Aside0.mk ((Nat.le_trans HW0.out (by rw [hg]; exact (keep_size (w := w) (g := g) (row := none) (by repeat (first | (with_reducible first | exact HK.out | apply KeepBut.set_ | apply keep_drewN | apply keep_drew | apply keep_alloc) | exact HK.out))) : w.heap.size ≤ gb101) : w0.heap.size ≤ gb101)); have n6_ := Aside0.mk ((by rw [hg]; exact Nat.ne_of_lt (IsS206.lt (show IsS206 w0 _ g s0_0 s0_1 s0_2 from by repeat (first | (with_reducible first | exact HI0.out | apply IsS206.alloc | apply IsS206.drewN | apply IsS206.drew | apply IsS206.set_1 | apply IsS206.set_2) | exact HI0.out))) : g ≠ gb101)); have n7_ := Aside0.mk ((by rw [hg]; exact Nat.ne_of_gt (IsS206.lt (show IsS206 w0 _ g s0_0 s0_1 s0_2 from by repeat (first | (with_reducible first | exact HI0.out | apply IsS206.alloc | apply IsS206.drewN | apply IsS206.drew | apply IsS206.set_1 | apply IsS206.set_2) | exact HI0.out))) : gb101 ≠ g)); clear HI0; clear HK; clear HB; have HI0 := n0_; have HK := n1_; have HB := n2_; have BK101 := n3_; have GW101 := n4_; have GE101 := n5_; have NB0_101 := n6_; have NB101_0 := n7_; clear n0_ n1_ n2_ n3_ n4_ n5_ n6_ n7_; clear hb hbox hg) | ((with_reducible refine gate_callee (f := 143) rfl ?_); refine goesL_ (some 8) rfl rfl Try.func143 (by kernel_rfl) rfl #[.pointer (some ⟨g, 0, none⟩)] rfl (by (try simp only [List.map_toArray, List.map_cons, List.map_nil]); first | done | rfl | (simp only [List.length_drop, List.length_take]; rfl)) ?_; (with_reducible refine (pack_Reader_Get8.calls g s0_0 s0_1 s0_2 t102 t103 t104 w0 _ ?side1 ?side2 A3.out).mono ?_); (case side1 => repeat (first | (with_reducible first | exact HI0.out | apply IsS206.alloc | apply IsS206.drewN | apply IsS206.drew | apply IsS206.set_1 | apply IsS206.set_2 | refine IsS206.far ?_ NB0_101.out _) | exact HI0.out)); (case side2 => repeat (first | (with_reducible first | exact HB.out | apply below_alloc | apply pw_below_drewN | apply below_drew1 | refine below_set ?_ (IsS206.ge HI0.out) | refine below_set ?_ GE101.out) | exact HB.out)); rintro e w12 ⟨rfl, hi, hb, hk⟩; refine ⟨_, rfl, ?_⟩; have n0_ := Aside0.mk (KeepBut.blk hk (g' := gb101) (o := .cells #[.string (⟨#[]⟩ : ByteArray), .string (⟨#[]⟩ : ByteArray)] 145 (0, 0)) (by (with_reducible repeat (first | refine blk_drewN ?_ _ | refine blk_drew ?_ | refine blk_alloc ?_ _)); exact BK101.out) NB101_0.out (by simp)); have n1_ := Aside0.mk (KeepBut.trans (by repeat (first | (with_reducible first | exact HK.out | apply KeepBut.set_ | apply keep_drewN | apply keep_drew | apply keep_alloc | refine keep_far ?_ GW101.out _) | exact HK.out)) hk (.inl rfl)); have n2_ := Aside0.mk (hb); have n3_ := Aside0.mk (hi); clear BK101; clear HK; clear HB; clear HI0; have BK101 := n0_; have HK := n1_; have HB := n2_; have HI0 := n3_; clear n0_ n1_ n2_ n3_; (try clear hb); (try clear hb2); (try clear hk); (try clear hi)) | ((with_reducible refine gate_callee (f := 144) rfl ?_); refine goesL_ (some 15) rfl rfl Try.func144 (by kernel_rfl) rfl #[.pointer (some ⟨g, 0, none⟩), .int .i64 3] rfl (by (try simp only [List.map_toArray, List.map_cons, List.map_nil]); first | done | rfl | (simp only [List.length_drop, List.length_take]; rfl)) ?_; (with_reducible refine (pack_Reader_Fail.calls g s0_0 t103 t104 3 t105 t106 w0 _ ?side1 ?side2 A5.out).mono ?_); (case side1 => repeat (first | (with_reducible first | exact HI0.out | apply IsS206.alloc | apply IsS206.drewN | apply IsS206.drew | apply IsS206.set_1 | apply IsS206.set_2 | refine IsS206.far ?_ NB0_101.out _) | exact HI0.out)); (case side2 => repeat (first | (with_reducible first | exact HB.out | apply below_alloc | apply pw_below_drewN | apply below_drew1 | refine below_set ?_ (IsS206.ge HI0.out) | refine below_set ?_ GE101.out) | exact HB.out)); rintro e w13 ⟨rfl, hi, hb, hk⟩; refine ⟨_, rfl, ?_⟩; have n0_ := Aside0.mk (KeepBut.blk hk (g' := gb101) (o := .cells #[.string (⟨#[]⟩ : ByteArray), .string (⟨#[]⟩ : ByteArray)] 145 (0, 0)) (by (with_reducible repeat (first | refine blk_drewN ?_ _ | refine blk_drew ?_ | refine blk_alloc ?_ _)); exact BK101.out) NB101_0.out (by simp)); have n1_ := Aside0.mk (KeepBut.trans (by repeat (first | (with_reducible first | exact HK.out | apply KeepBut.set_ | apply keep_drewN | apply keep_drew | apply keep_alloc | refine keep_far ?_ GW101.out _) | exact HK.out)) hk (.inl rfl)); have n2_ := Aside0.mk (hb); have n3_ := Aside0.mk (hi); clear BK101; clear HK; clear HB; clear HI0; have BK101 := n0_; have HK := n1_; have HB := n2_; have HI0 := n3_; clear n0_ n1_ n2_ n3_; (try clear hb); (try clear hb2); (try clear hk); (try clear hi)))
          have n0_ := Aside0.mk (blk_drew BK101.out)
          have n1_ := Aside0.mk (IsS206.drew HI0.out)
          have n2_ := Aside0.mk (keep_drew HK.out)
          have n3_ := Aside0.mk (below_drew1 HB.out)
          clear BK101
          clear HI0
          clear HK
          clear HB
          have BK101 := n0_
          have HI0 := n1_
          have HK := n2_
          have HB := n3_
          clear n0_ n1_ n2_ n3_
          refine start_ (n := 9) (S := fun w' => True) (ds := []) #[false, false, false, false, false, false, false, false, false] (by kernel_rfl) rfl rfl trivial (fun hHeld => ?_); refine with_tabW dump_pair.tab5 dump_pair.bits5 (fun HT_ HW_ => ?_)
          generalize w13.drew = w14 at BK101 HI0 HK HB hHeld ⊢
          refine pure_ (i := 0) (N := some 16) (v := ?_) (a' := ?_) #[true, false, false, false, false, false, false, false, false] rfl rfl (any_of HT_.out (by kernel_rfl)) (fun _ _ _ h => h) (Or.inl ⟨by rfl, ?_⟩) ?_ ?_
          rotate_left
          · intro w'
            go_simp
            with_reducible rfl
          rotate_left
          · simp only [Act.put, List.setIfInBounds_toArray, List.set_cons_zero, List.set_cons_succ, i64_w, i32_w]
            rfl
          refine pure_ (i := 1) (N := some 17) (v := ?_) (a' := ?_) #[true, true, false, false, false, false, false, false, false] rfl rfl (any_of HT_.out (by kernel_rfl)) (fun _ _ _ h => h) (Or.inl ⟨by rfl, ?_⟩) ?_ ?_
          rotate_left
          · intro w'
            go_simp
            with_reducible rfl
          rotate_left
          · simp only [Act.put, List.setIfInBounds_toArray, List.set_cons_zero, List.set_cons_succ, i64_w, i32_w]
            rfl
          refine pure_ (i := 2) (N := some 18) (v := ?_) (a' := ?_) #[true, true, true, false, false, false, false, false, false] rfl rfl (any_of HT_.out (by kernel_rfl)) (fun _ _ _ h => h) (Or.inl ⟨by rfl, ?_⟩) ?_ ?_
          rotate_left
          · intro w'
            go_simp
            with_reducible rfl
          rotate_left
          · simp only [Act.put, List.setIfInBounds_toArray, List.set_cons_zero, List.set_cons_succ, i64_w, i32_w]
            rfl
          refine pure_ (i := 3) (N := some 19) (v := ?_) (a' := ?_) #[true, true, true, true, false, false, false, false, false] rfl rfl (any_of HT_.out (by kernel_rfl)) (fun _ _ _ h => h) (Or.inl ⟨by rfl, ?_⟩) ?_ ?_
          rotate_left
          · intro w'
            go_simp
            with_reducible rfl
          rotate_left
          · simp only [Act.put, List.setIfInBounds_toArray, List.set_cons_zero, List.set_cons_succ, i64_w, i32_w]
            rfl
          refine pure_ (i := 4) (N := some 20) (v := ?_) (a' := ?_) #[true, true, true, true, true, false, false, false, false] rfl rfl (any_of HT_.out (by kernel_rfl)) (fun _ _ _ h => h) (Or.inl ⟨by rfl, ?_⟩) ?_ ?_
          rotate_left
          · intro w'
            go_simp
            with_reducible rfl
          rotate_left
          · simp only [Act.put, List.setIfInBounds_toArray, List.set_cons_zero, List.set_cons_succ, i64_w, i32_w]
            rfl
          refine pure_ (i := 5) (N := some 21) (v := ?_) (a' := ?_) #[true, true, true, true, true, true, false, false, false] rfl rfl (any_of HT_.out (by kernel_rfl)) (fun _ _ _ h => h) (Or.inl ⟨by rfl, ?_⟩) ?_ ?_
          rotate_left
          · intro w'
            go_simp
            with_reducible rfl
          rotate_left
          · simp only [Act.put, List.setIfInBounds_toArray, List.set_cons_zero, List.set_cons_succ, i64_w, i32_w]
            rfl
          refine one_ (i := 6) (N := some 22) #[true, true, true, true, true, true, true, false, false] rfl rfl (one_of HT_.out (by kernel_rfl)) (by decide) (fun K hK => ?_)
          refine goes_ Try.func145 (by kernel_rfl) rfl #[.pointer (some ⟨g, 0, none⟩), .int .i64 (wrap64 16)] (by rfl) rfl rfl (by (try simp only [List.map_toArray, List.map_cons, List.map_nil]); first | done | rfl | (simp only [List.length_drop, List.length_take]; rfl)) ?_
          with_reducible refine (pack_Reader_GetText.calls g s0_0 t105 t106 (wrap64 16) t107 t108 t109 w0 _ ?side1 ?side2 A8.out).mono ?_
          (case side1 => repeat (first | (with_reducible first | exact HI0.out | apply IsS206.alloc | apply IsS206.drewN | apply IsS206.drew | apply IsS206.set_1 | apply IsS206.set_2 | refine IsS206.far ?_ NB0_101.out _) | exact HI0.out))
          (case side2 => repeat (first | (with_reducible first | exact HB.out | apply below_alloc | apply pw_below_drewN | apply below_drew1 | refine below_set ?_ (IsS206.ge HI0.out) | refine below_set ?_ GE101.out) | exact HB.out))
          rintro e w15 ⟨rfl, hi, hb, hk⟩
          refine ⟨_, rfl, ?_⟩
          have n0_ := Aside0.mk (KeepBut.blk hk (g' := gb101) (o := .cells #[.string (⟨#[]⟩ : ByteArray), .string (⟨#[]⟩ : ByteArray)] 145 (0, 0)) (by (with_reducible repeat (first | refine blk_drewN ?_ _ | refine blk_drew ?_ | refine blk_alloc ?_ _)); exact BK101.out) NB101_0.out (by simp))
          have n1_ := Aside0.mk (KeepBut.trans (by repeat (first | (with_reducible first | exact HK.out | apply KeepBut.set_ | apply keep_drewN | apply keep_drew | apply keep_alloc | refine keep_far ?_ GW101.out _) | exact HK.out)) hk (.inl rfl))
          have n2_ := Aside0.mk (hb)
          have n3_ := Aside0.mk (hi)
          clear BK101
          clear HK
          clear HB
          clear HI0
          have BK101 := n0_
          have HK := n1_
          have HB := n2_
          have HI0 := n3_
          clear n0_ n1_ n2_ n3_
          (try clear hb)
          (try clear hb2)
          (try clear hk)
          (try clear hi)
          refine hK.out _ _ trivial (fun hHeld => ?_)
          clear hK K
          refine norm_ (a' := ?_) ?_ ?_
          rotate_left
          · show Act.put _ (some 22) _ = _
            simp only [Act.put, List.setIfInBounds_toArray, List.set_cons_zero, List.set_cons_succ, i64_w, i32_w]
            rfl
          refine pure_ (i := 7) (N := some 23) (v := ?_) (a' := ?_) #[true, true, true, true, true, true, true, true, false] rfl rfl (any_of HT_.out (by kernel_rfl)) (fun _ _ _ h => h) (Or.inl ⟨by rfl, ?_⟩) ?_ ?_
          rotate_left
          · intro w'
            go_simp
            with_reducible rfl
          rotate_left
          · simp only [Act.put, List.setIfInBounds_toArray, List.set_cons_zero, List.set_cons_succ, i64_w, i32_w]
            rfl
          refine pure_ (i := 8) (N := some 6) (v := ?_) (a' := ?_) #[true, true, true, true, true, true, true, true, true] rfl rfl (any_of HT_.out (by kernel_rfl)) (fun _ _ _ h => h) (Or.inl ⟨by rfl, ?_⟩) ?_ ?_
          rotate_left
          · intro w'
            go_simp
            with_reducible rfl
          rotate_left
          · simp only [Act.put, List.setIfInBounds_toArray, List.set_cons_zero, List.set_cons_succ, i64_w, i32_w]
            rfl
          refine done_ (done_of HT_.out (by kernel_rfl)) ?_
          try go_wp2_with (first | ((with_reducible refine gate_callee (f := 145) rfl ?_); refine goesL_ (some 26) rfl rfl Try.func145 (by kernel_rfl) rfl #[.pointer (some ⟨g, 0, none⟩), .int .i64 32] rfl (by (try simp only [List.map_toArray, List.map_cons, List.map_nil]); first | done | rfl | (simp only [List.length_drop, List.length_take]; rfl)) ?_; (with_reducible refine (pack_Reader_GetText.calls g s0_0 t108 t109 32 t110 t111 t112 w0 _ ?side1 ?side2 A10.out).mono ?_); (case side1 => repeat (first | (with_reducible first | exact HI0.out | apply IsS206.alloc | apply IsS206.drewN | apply IsS206.drew | apply IsS206.set_1 | apply IsS206.set_2 | refine IsS206.far ?_ NB0_101.out _) | exact HI0.out)); (case side2 => repeat (first | (with_reducible first | exact HB.out | apply below_alloc | apply pw_below_drewN | apply below_drew1 | refine below_set ?_ (IsS206.ge HI0.out) | refine below_set ?_ GE101.out) | exact HB.out)); rintro e w16 ⟨rfl, hi, hb, hk⟩; refine ⟨_, rfl, ?_⟩; have n0_ := Aside0.mk (KeepBut.blk hk (g' := gb101) (o := .cells #[.string (⟨#[]⟩ : ByteArray), .string (⟨#[]⟩ : ByteArray)] 145 (0, 0)) (by (with_reducible repeat (first | refine blk_drewN ?_ _ | refine blk_drew ?_ | refine blk_alloc ?_ _)); exact BK101.out) NB101_0.out (by simp)); have n1_ := Aside0.mk (KeepBut.trans (by repeat (first | (with_reducible first | exact HK.out | apply KeepBut.set_ | apply keep_drewN | apply keep_drew | apply keep_alloc | refine keep_far ?_ GW101.out _) | exact HK.out)) hk (.inl rfl)); have n2_ := Aside0.mk (hb); have n3_ := Aside0.mk (hi); clear BK101; clear HK; clear HB; clear HI0; have BK101 := n0_; have HK := n1_; have HB := n2_; have HI0 := n3_; clear n0_ n1_ n2_ n3_; (try clear hb); (try clear hb2); (try clear hk); (try clear hi); have hnb17 := NB101_0.out; have hnc17 := NB0_101.out; have hcz18_0 : w16.cell? ⟨gb101, 0, none⟩ = some (.string (⟨#[]⟩ : ByteArray)) := (blk_cell BK101.out 0).trans rfl; have hcz18_1 : w16.cell? ⟨gb101, 1, none⟩ = some (.string (⟨#[]⟩ : ByteArray)) := (blk_cell BK101.out 1).trans rfl; have hfz18_0 := blk_frozen BK101.out 0; have hfz18_1 := blk_frozen BK101.out 1))
          refine bodyPost_ret (results_cell_row rfl _ _ gb101 145 #[.string t107, .string t110] (0, 0) _ rfl (by (with_reducible repeat (first | refine blk_drewN ?_ _ | refine blk_drew ?_ | refine blk_alloc ?_ _)); refine blk_put (cs := #[.string t107, .string (⟨#[]⟩ : ByteArray)]) ?_ 1 _ rfl; (with_reducible repeat (first | refine blk_drewN ?_ _ | refine blk_drew ?_ | refine blk_alloc ?_ _)); refine blk_put (cs := #[.string (⟨#[]⟩ : ByteArray), .string (⟨#[]⟩ : ByteArray)]) ?_ 0 _ rfl; (with_reducible repeat (first | refine blk_drewN ?_ _ | refine blk_drew ?_ | refine blk_alloc ?_ _)); exact BK101.out) Try.underlying145 rfl (by kernel_rfl)) rfl ?_
          exact ⟨by first | rfl | (simp [errW_none, errW_some] <;> rfl) | (simp [*, errW_none, errW_some] <;> rfl), by repeat (first | (with_reducible first | exact HI0.out | apply IsS206.alloc | apply IsS206.drewN | apply IsS206.drew | apply IsS206.set_1 | apply IsS206.set_2 | refine IsS206.far ?_ NB0_101.out _) | exact HI0.out), by repeat (first | (with_reducible first | exact HB.out | apply below_alloc | apply pw_below_drewN | apply below_drew1 | refine below_set ?_ (IsS206.ge HI0.out) | refine below_set ?_ GE101.out) | exact HB.out), by repeat (first | (with_reducible first | exact HK.out | apply KeepBut.set_ | apply keep_drewN | apply keep_drew | apply keep_alloc | refine keep_far ?_ GW101.out _) | exact HK.out)⟩
        · rw [if_neg c9] at H
          exact absurd H (by simp)
      · rw [if_neg c7] at H
        exact absurd H (by simp)
    · rw [if_neg c6] at H
      exact absurd H (by simp)
  · rw [if_neg c4] at H
    have c4b0 : decide ((a1.size : Int) < (wrap64 (t102))) = false := decide_eq_false c4
    clear c4
    obtain ⟨ji19, hji19⟩ : ∃ j_ : Int, (wrap64 (t102)) = j_ := ⟨_, rfl⟩
    replace H : (if 0 ≤ (ji19) then (if (ji19) ≤ (a1.size : Int) then ((pack_Reader_GetText.f s0_0 t103 t104 (wrap64 (16 - (ji19)))).bind fun bt113 => (if (a1.extract 0 ((ji19) : Int).toNat).size + bt113.1.size ≤ 9223372036854775807 then ((pack_Reader_GetText.f s0_0 bt113.2.1 bt113.2.2 32).bind fun bt116 => (some ((a1.extract 0 ((ji19) : Int).toNat) ++ bt113.1, bt116.1, bt116.2.1, bt116.2.2))) else (none))) else (none)) else (none)) = some (r1, r2, r3, r4) := by first | (rw [hji19] at H; exact H) | (simp only [hji19] at H ⊢; exact H)
    (try rw [hji19] at c4b0)
    (try rw [hji19] at A3)
    have hji19w : (IntKind.i64.wrap (t102)) = ji19 := (i64_w _).trans hji19
    by_cases c20 : 0 ≤ (ji19)
    · rw [if_pos c20] at H
      have c20b0 := eq_true c20
      have c20b1 : decide (0 ≤ (ji19)) = true := decide_eq_true c20
      clear c20
      by_cases c21 : (ji19) ≤ (a1.size : Int)
      · rw [if_pos c21] at H
        have c21b0 := eq_true c21
        have c21b1 : decide ((ji19) ≤ (a1.size : Int)) = true := decide_eq_true c21
        clear c21
        replace H := Option.bind_eq_some_iff.mp H
        obtain ⟨⟨t113, t114, t115⟩, A220, H⟩ := H
        replace H : (if (a1.extract 0 ((ji19) : Int).toNat).size + t113.size ≤ 9223372036854775807 then ((pack_Reader_GetText.f s0_0 t114 t115 32).bind fun bt116 => (some ((a1.extract 0 ((ji19) : Int).toNat) ++ t113, bt116.1, bt116.2.1, bt116.2.2))) else (none)) = some (r1, r2, r3, r4) := H
        have A22 := Aside0.mk A220
        clear A220
        by_cases c23 : (a1.extract 0 ((ji19) : Int).toNat).size + t113.size ≤ 9223372036854775807
        · rw [if_pos c23] at H
          have c23b0 := eq_true c23
          have c23b1 : decide ((a1.extract 0 ((ji19) : Int).toNat).size + t113.size ≤ 9223372036854775807) = true := decide_eq_true c23
          try have c23b2 : (9223372036854775807 < (a1.extract 0 ((ji19) : Int).toNat).size + t113.size) = False := eq_false (Nat.not_lt.2 c23)
          have hx148 : (9223372036854775807 < ji19.toNat + t113.size) = False := by
            refine eq_false ?_
            have h9 := of_eq_false c23b2
            have h7 := of_eq_true c21b0
            have h8 : ji19.toNat ≤ a1.size := by omega
            rw [ByteArray.size_extract, Nat.min_eq_left h8, Nat.sub_zero] at h9
            exact h9
          replace H := Option.bind_eq_some_iff.mp H
          obtain ⟨⟨t116, t117, t118⟩, A240, H⟩ := H
          replace H : (some ((a1.extract 0 ((ji19) : Int).toNat) ++ t113, t116, t117, t118)) = some (r1, r2, r3, r4) := H
          have A24 := Aside0.mk A240
          clear A240
          simp only [Option.some.injEq, Prod.mk.injEq] at H
          obtain ⟨rfl, rfl, rfl, rfl⟩ := H
          go_enter Try.func148, Try.ntmps148
          try go_wp2_with (first | ((with_reducible refine gate_dst (N := 4) rfl ?_); refine box_event ?hg (N := 4) ?hd (cs := #[.string (⟨#[]⟩ : ByteArray), .string (⟨#[]⟩ : ByteArray)]) (t := 145) ?hr ?_; (case hd => rfl); (case hg => rfl); (case hr => first | (go_simp; done) | (go_simp; rfl)); intro gb101 hg w25 hbox hb; have n0_ := Aside0.mk (IsS206.below (by repeat (first | (with_reducible first | exact HI0.out | apply IsS206.alloc | apply IsS206.drewN | apply IsS206.drew | apply IsS206.set_1 | apply IsS206.set_2) | exact HI0.out)) hb); have n1_ := Aside0.mk (KeepBut.trans (by repeat (first | (with_reducible first | exact HK.out | apply KeepBut.set_ | apply keep_drewN | apply keep_drew | apply keep_alloc) | exact HK.out)) (KeepBut.of_below hb g none) (.inl rfl)); have n2_ := Aside0.mk (below_step (by repeat (first | (with_reducible first | exact HB.out | apply below_alloc | apply pw_below_drewN | apply below_drew1 | refine below_set ?_ (IsS206.ge HI0.out)) | exact HB.out)) hb); have n3_ := Aside0.mk (hbox); have n4_ := Aside0.mk ((by rw [hg]; exact (keep_size (w := w) (g := g) (row := none) (by repeat (first | (with_reducible first | exact HK.out | apply KeepBut.set_ | apply keep_drewN | apply keep_drew | apply keep_alloc) | exact HK.out))) : w.heap.size ≤ gb101)); have n5_ := Aside0.mk ((Nat.le_trans HW0.out (by rw [hg]; exact (keep_size (w := w) (g := g) (row := none) (by repeat (first | (with_reducible first | exact HK.out | apply KeepBut.set_ | apply keep_drewN | apply keep_drew | apply keep_alloc) | exact HK.out))) : w.heap.size ≤ gb101) : w0.heap.size ≤ gb101)); have n6_ := Aside0.mk ((by rw [hg]; exact Nat.ne_of_lt (IsS206.lt (show IsS206 w0 _ g s0_0 s0_1 s0_2 from by repeat (first | (with_reducible first | exact HI0.out | apply IsS206.alloc | apply IsS206.drewN | apply IsS206.drew | apply IsS206.set_1 | apply IsS206.set_2) | exact HI0.out))) : g ≠ gb101)); have n7_ := Aside0.mk ((by rw [hg]; exact Nat.ne_of_gt (IsS206.lt (show IsS206 w0 _ g s0_0 s0_1 s0_2 from by repeat (first | (with_reducible first | exact HI0.out | apply IsS206.alloc | apply IsS206.drewN | apply IsS206.drew | apply IsS206.set_1 | apply IsS206.set_2) | exact HI0.out))) : gb101 ≠ g)); clear HI0; clear HK; clear HB; have HI0 := n0_; have HK := n1_; have HB := n2_; have BK101 := n3_; have GW101 := n4_; have GE101 := n5_; have NB0_101 := n6_; have NB101_0 := n7_; clear n0_ n1_ n2_ n3_ n4_ n5_ n6_ n7_; clear hb hbox hg) | ((with_reducible refine gate_callee (f := 143) rfl ?_); refine goesL_ (some 8) rfl rfl Try.func143 (by kernel_rfl) rfl #[.pointer (some ⟨g, 0, none⟩)] rfl (by (try simp only [List.map_toArray, List.map_cons, List.map_nil]); first | done | rfl | (simp only [List.length_drop, List.length_take]; rfl)) ?_; (with_reducible refine (pack_Reader_Get8.calls g s0_0 s0_1 s0_2 t102 t103 t104 w0 _ ?side1 ?side2 A3.out).mono ?_); (case side1 => repeat (first | (with_reducible first | exact HI0.out | apply IsS206.alloc | apply IsS206.drewN | apply IsS206.drew | apply IsS206.set_1 | apply IsS206.set_2 | refine IsS206.far ?_ NB0_101.out _) | exact HI0.out)); (case side2 => repeat (first | (with_reducible first | exact HB.out | apply below_alloc | apply pw_below_drewN | apply below_drew1 | refine below_set ?_ (IsS206.ge HI0.out) | refine below_set ?_ GE101.out) | exact HB.out)); rintro e w26 ⟨rfl, hi, hb, hk⟩; refine ⟨_, rfl, ?_⟩; have n0_ := Aside0.mk (KeepBut.blk hk (g' := gb101) (o := .cells #[.string (⟨#[]⟩ : ByteArray), .string (⟨#[]⟩ : ByteArray)] 145 (0, 0)) (by (with_reducible repeat (first | refine blk_drewN ?_ _ | refine blk_drew ?_ | refine blk_alloc ?_ _)); exact BK101.out) NB101_0.out (by simp)); have n1_ := Aside0.mk (KeepBut.trans (by repeat (first | (with_reducible first | exact HK.out | apply KeepBut.set_ | apply keep_drewN | apply keep_drew | apply keep_alloc | refine keep_far ?_ GW101.out _) | exact HK.out)) hk (.inl rfl)); have n2_ := Aside0.mk (hb); have n3_ := Aside0.mk (hi); clear BK101; clear HK; clear HB; clear HI0; have BK101 := n0_; have HK := n1_; have HB := n2_; have HI0 := n3_; clear n0_ n1_ n2_ n3_; (try clear hb); (try clear hb2); (try clear hk); (try clear hi)))
          have n0_ := Aside0.mk (blk_drew BK101.out)
          have n1_ := Aside0.mk (IsS206.drew HI0.out)
          have n2_ := Aside0.mk (keep_drew HK.out)
          have n3_ := Aside0.mk (below_drew1 HB.out)
          clear BK101
          clear HI0
          clear HK
          clear HB
          have BK101 := n0_
          have HI0 := n1_
          have HK := n2_
          have HB := n3_
          clear n0_ n1_ n2_ n3_
          refine start_ (n := 9) (S := fun w' => True) (ds := []) #[false, false, false, false, false, false, false, false, false] (by kernel_rfl) rfl rfl trivial (fun hHeld => ?_); refine with_tabW dump_pair.tab5 dump_pair.bits5 (fun HT_ HW_ => ?_)
          generalize w26.drew = w27 at BK101 HI0 HK HB hHeld ⊢
          refine pure_ (i := 0) (N := some 16) (v := ?_) (a' := ?_) #[true, false, false, false, false, false, false, false, false] rfl rfl (any_of HT_.out (by kernel_rfl)) (fun _ _ _ h => h) (Or.inl ⟨by rfl, ?_⟩) ?_ ?_
          rotate_left
          · intro w'
            go_simp
            with_reducible rfl
          rotate_left
          · simp only [Act.put, List.setIfInBounds_toArray, List.set_cons_zero, List.set_cons_succ, i64_w, i32_w]
            rfl
          refine pure_ (i := 1) (N := some 17) (v := ?_) (a' := ?_) #[true, true, false, false, false, false, false, false, false] rfl rfl (any_of HT_.out (by kernel_rfl)) (fun _ _ _ h => h) (Or.inl ⟨by rfl, ?_⟩) ?_ ?_
          rotate_left
          · intro w'
            go_simp
            with_reducible rfl
          rotate_left
          · simp only [Act.put, List.setIfInBounds_toArray, List.set_cons_zero, List.set_cons_succ, i64_w, i32_w]
            rfl
          refine pure_ (i := 2) (N := some 18) (v := ?_) (a' := ?_) #[true, true, true, false, false, false, false, false, false] rfl rfl (any_of HT_.out (by kernel_rfl)) (fun _ _ _ h => h) (Or.inl ⟨by rfl, ?_⟩) ?_ ?_
          rotate_left
          · intro w'
            go_simp
            with_reducible rfl
          rotate_left
          · simp only [Act.put, List.setIfInBounds_toArray, List.set_cons_zero, List.set_cons_succ, i64_w, i32_w]
            rfl
          refine pure_ (i := 3) (N := some 19) (v := ?_) (a' := ?_) #[true, true, true, true, false, false, false, false, false] rfl rfl (any_of HT_.out (by kernel_rfl)) (fun _ _ _ h => h) (Or.inl ⟨by rfl, ?_⟩) ?_ ?_
          rotate_left
          · intro w'
            go_simp
            with_reducible rfl
          rotate_left
          · simp only [Act.put, List.setIfInBounds_toArray, List.set_cons_zero, List.set_cons_succ, i64_w, i32_w]
            rfl
          refine pure_ (i := 4) (N := some 20) (v := ?_) (a' := ?_) #[true, true, true, true, true, false, false, false, false] rfl rfl (any_of HT_.out (by kernel_rfl)) (fun _ _ _ h => h) (Or.inl ⟨by rfl, ?_⟩) ?_ ?_
          rotate_left
          · intro w'
            go_simp
            with_reducible rfl
          rotate_left
          · simp only [Act.put, List.setIfInBounds_toArray, List.set_cons_zero, List.set_cons_succ, i64_w, i32_w]
            rfl
          refine pure_ (i := 5) (N := some 21) (v := ?_) (a' := ?_) #[true, true, true, true, true, true, false, false, false] rfl rfl (any_of HT_.out (by kernel_rfl)) (fun _ _ _ h => h) (Or.inl ⟨by rfl, ?_⟩) ?_ ?_
          rotate_left
          · intro w'
            go_simp
            with_reducible rfl
          rotate_left
          · simp only [Act.put, List.setIfInBounds_toArray, List.set_cons_zero, List.set_cons_succ, i64_w, i32_w]
            rfl
          refine one_ (i := 6) (N := some 22) #[true, true, true, true, true, true, true, false, false] rfl rfl (one_of HT_.out (by kernel_rfl)) (by decide) (fun K hK => ?_)
          refine goes_ Try.func145 (by kernel_rfl) rfl #[.pointer (some ⟨g, 0, none⟩), .int .i64 (wrap64 (16 - (ji19)))] (by rfl) rfl rfl (by (try simp only [List.map_toArray, List.map_cons, List.map_nil]); first | done | (simp only [hji19]; rfl) | rfl | (simp only [List.length_drop, List.length_take]; rfl)) ?_
          with_reducible refine (pack_Reader_GetText.calls g s0_0 t103 t104 (wrap64 (16 - (ji19))) t113 t114 t115 w0 _ ?side1 ?side2 A22.out).mono ?_
          (case side1 => repeat (first | (with_reducible first | exact HI0.out | apply IsS206.alloc | apply IsS206.drewN | apply IsS206.drew | apply IsS206.set_1 | apply IsS206.set_2 | refine IsS206.far ?_ NB0_101.out _) | exact HI0.out))
          (case side2 => repeat (first | (with_reducible first | exact HB.out | apply below_alloc | apply pw_below_drewN | apply below_drew1 | refine below_set ?_ (IsS206.ge HI0.out) | refine below_set ?_ GE101.out) | exact HB.out))
          rintro e w28 ⟨rfl, hi, hb, hk⟩
          refine ⟨_, rfl, ?_⟩
          have n0_ := Aside0.mk (KeepBut.blk hk (g' := gb101) (o := .cells #[.string (⟨#[]⟩ : ByteArray), .string (⟨#[]⟩ : ByteArray)] 145 (0, 0)) (by (with_reducible repeat (first | refine blk_drewN ?_ _ | refine blk_drew ?_ | refine blk_alloc ?_ _)); exact BK101.out) NB101_0.out (by simp))
          have n1_ := Aside0.mk (KeepBut.trans (by repeat (first | (with_reducible first | exact HK.out | apply KeepBut.set_ | apply keep_drewN | apply keep_drew | apply keep_alloc | refine keep_far ?_ GW101.out _) | exact HK.out)) hk (.inl rfl))
          have n2_ := Aside0.mk (hb)
          have n3_ := Aside0.mk (hi)
          clear BK101
          clear HK
          clear HB
          clear HI0
          have BK101 := n0_
          have HK := n1_
          have HB := n2_
          have HI0 := n3_
          clear n0_ n1_ n2_ n3_
          (try clear hb)
          (try clear hb2)
          (try clear hk)
          (try clear hi)
          refine hK.out _ _ trivial (fun hHeld => ?_)
          clear hK K
          refine norm_ (a' := ?_) ?_ ?_
          rotate_left
          · show Act.put _ (some 22) _ = _
            simp only [Act.put, List.setIfInBounds_toArray, List.set_cons_zero, List.set_cons_succ, i64_w, i32_w]
            rfl
          refine pure_ (i := 7) (N := some 23) (v := ?_) (a' := ?_) #[true, true, true, true, true, true, true, true, false] rfl rfl (any_of HT_.out (by kernel_rfl)) (fun _ _ _ h => h) (Or.inl ⟨by rfl, ?_⟩) ?_ ?_
          rotate_left
          · intro w'
            go_simp
            with_reducible rfl
          rotate_left
          · simp only [Act.put, List.setIfInBounds_toArray, List.set_cons_zero, List.set_cons_succ, i64_w, i32_w]
            rfl
          refine pure_ (i := 8) (N := some 6) (v := ?_) (a' := ?_) #[true, true, true, true, true, true, true, true, true] rfl rfl (any_of HT_.out (by kernel_rfl)) (fun _ _ _ h => h) (Or.inl ⟨by rfl, ?_⟩) ?_ ?_
          rotate_left
          · intro w'
            go_simp
            with_reducible rfl
          rotate_left
          · simp only [Act.put, List.setIfInBounds_toArray, List.set_cons_zero, List.set_cons_succ, i64_w, i32_w]
            rfl
          refine done_ (done_of HT_.out (by kernel_rfl)) ?_
          try go_wp2_with (first | ((with_reducible refine gate_callee (f := 145) rfl ?_); refine goesL_ (some 26) rfl rfl Try.func145 (by kernel_rfl) rfl #[.pointer (some ⟨g, 0, none⟩), .int .i64 32] rfl (by (try simp only [List.map_toArray, List.map_cons, List.map_nil]); first | done | rfl | (simp only [List.length_drop, List.length_take]; rfl)) ?_; (with_reducible refine (pack_Reader_GetText.calls g s0_0 t114 t115 32 t116 t117 t118 w0 _ ?side1 ?side2 A24.out).mono ?_); (case side1 => repeat (first | (with_reducible first | exact HI0.out | apply IsS206.alloc | apply IsS206.drewN | apply IsS206.drew | apply IsS206.set_1 | apply IsS206.set_2 | refine IsS206.far ?_ NB0_101.out _) | exact HI0.out)); (case side2 => repeat (first | (with_reducible first | exact HB.out | apply below_alloc | apply pw_below_drewN | apply below_drew1 | refine below_set ?_ (IsS206.ge HI0.out) | refine below_set ?_ GE101.out) | exact HB.out)); rintro e w29 ⟨rfl, hi, hb, hk⟩; refine ⟨_, rfl, ?_⟩; have n0_ := Aside0.mk (KeepBut.blk hk (g' := gb101) (o := .cells #[.string (⟨#[]⟩ : ByteArray), .string (⟨#[]⟩ : ByteArray)] 145 (0, 0)) (by (with_reducible repeat (first | refine blk_drewN ?_ _ | refine blk_drew ?_ | refine blk_alloc ?_ _)); exact BK101.out) NB101_0.out (by simp)); have n1_ := Aside0.mk (KeepBut.trans (by repeat (first | (with_reducible first | exact HK.out | apply KeepBut.set_ | apply keep_drewN | apply keep_drew | apply keep_alloc | refine keep_far ?_ GW101.out _) | exact HK.out)) hk (.inl rfl)); have n2_ := Aside0.mk (hb); have n3_ := Aside0.mk (hi); clear BK101; clear HK; clear HB; clear HI0; have BK101 := n0_; have HK := n1_; have HB := n2_; have HI0 := n3_; clear n0_ n1_ n2_ n3_; (try clear hb); (try clear hb2); (try clear hk); (try clear hi); have hnb30 := NB101_0.out; have hnc30 := NB0_101.out; have hcz31_0 : w29.cell? ⟨gb101, 0, none⟩ = some (.string (⟨#[]⟩ : ByteArray)) := (blk_cell BK101.out 0).trans rfl; have hcz31_1 : w29.cell? ⟨gb101, 1, none⟩ = some (.string (⟨#[]⟩ : ByteArray)) := (blk_cell BK101.out 1).trans rfl; have hfz31_0 := blk_frozen BK101.out 0; have hfz31_1 := blk_frozen BK101.out 1))
          refine bodyPost_ret (results_cell_row rfl _ _ gb101 145 #[.string ((a1.extract 0 ((ji19) : Int).toNat) ++ t113), .string t116] (0, 0) _ rfl (by (with_reducible repeat (first | refine blk_drewN ?_ _ | refine blk_drew ?_ | refine blk_alloc ?_ _)); refine blk_put (cs := #[.string ((a1.extract 0 ((ji19) : Int).toNat) ++ t113), .string (⟨#[]⟩ : ByteArray)]) ?_ 1 _ rfl; (with_reducible repeat (first | refine blk_drewN ?_ _ | refine blk_drew ?_ | refine blk_alloc ?_ _)); refine blk_put (cs := #[.string (⟨#[]⟩ : ByteArray), .string (⟨#[]⟩ : ByteArray)]) ?_ 0 _ rfl; (with_reducible repeat (first | refine blk_drewN ?_ _ | refine blk_drew ?_ | refine blk_alloc ?_ _)); exact BK101.out) Try.underlying145 rfl (by kernel_rfl)) rfl ?_
          exact ⟨by first | rfl | (simp [errW_none, errW_some] <;> rfl) | (simp only [← hji19]; first | rfl | (simp [errW_none, errW_some] <;> rfl)) | (simp [*, errW_none, errW_some] <;> rfl), by repeat (first | (with_reducible first | exact HI0.out | apply IsS206.alloc | apply IsS206.drewN | apply IsS206.drew | apply IsS206.set_1 | apply IsS206.set_2 | refine IsS206.far ?_ NB0_101.out _) | exact HI0.out), by repeat (first | (with_reducible first | exact HB.out | apply below_alloc | apply pw_below_drewN | apply below_drew1 | refine below_set ?_ (IsS206.ge HI0.out) | refine below_set ?_ GE101.out) | exact HB.out), by repeat (first | (with_reducible first | exact HK.out | apply KeepBut.set_ | apply keep_drewN | apply keep_drew | apply keep_alloc | refine keep_far ?_ GW101.out _) | exact HK.out)⟩
        · rw [if_neg c23] at H
          exact absurd H (by simp)
      · rw [if_neg c21] at H
        exact absurd H (by simp)
    · rw [if_neg c20] at H
      exact absurd H (by simp)

end Go.Proofs.Ytfdemnefkfkghaa.X
namespace Go.Proofs.Ytfdemnefkfkghaa.X
open Go.RowKit Go.Proofs.YtfdemnefkfkghaaW.PrintWords Go.Proofs.YtfdemnefkfkghaaW.PrintLast Go.Proofs.YtfdemnefkfkghaaW.PrintMore
attribute [local go_sem] max2_int min2_int max_two min_two max_three min_three max_four min_four   -- for this text's walks alone
attribute [local go_sem high] Go.Proofs.Ytfdemnefkfkghaa.XW.leq Go.Proofs.Ytfdemnefkfkghaa.XW.gtr Go.Proofs.Ytfdemnefkfkghaa.XW.geq
set_option linter.unusedVariables false
set_option linter.unusedSimpArgs false

mutual
def dump_volumes.l0 : Nat → List (S136) → Int → Int → List Int → Int → Int → Option ((List (S136)) × Int × Int)
  | 0, _, _, _, _, _, _ => none
  | k + 1, x3, x18, x19, x1000, x1001, x1002 => if x19 < x18 then ((pack_Reader_GetText.f x1000 x1001 x1002 16).bind fun bt106 => ((pack_Reader_Get32.f x1000 bt106.2.1 bt106.2.2).bind fun bt110 => (dump_volumes.l1 k x3 (⟨#[]⟩ : ByteArray) bt110.1 x18 x19 x1000 bt110.2.1 bt110.2.2 bt106.1 ([] : List (S145))))) else (some (x3, x1001, x1002))
def dump_volumes.l1 : Nat → List (S136) → ByteArray → Int → Int → Int → List Int → Int → Int → ByteArray → List (S145) → Option ((List (S136)) × Int × Int)
  | 0, _, _, _, _, _, _, _, _, _, _ => none
  | k + 1, x3, x6, x7, x18, x19, x1000, x1001, x1002, x110000, x110001 => if x7 > 0 then ((pack_Reader_Left.f x1000 x1001 x1002).bind fun bt116 => ((dump_pair.f x1000 bt116.2.1 bt116.2.2 x6).bind fun bt119 => ((pack_Reader_Left.f x1000 bt119.2.2.1 bt119.2.2.2).bind fun bt124 => (if bt124.1 = bt116.1 then (if x3.length < 3518437208883 then (dump_volumes.l0 k (x3 ++ [(⟨x110000, x110001⟩ : S136)]) x18 (wrap64 (x19 + 1)) x1000 bt124.2.1 bt124.2.2) else (none)) else (if x110001.length < 4398046511104 then (dump_volumes.l1 k x3 bt119.1 ((x7 - 1) % 4294967296) x18 x19 x1000 bt124.2.1 bt124.2.2 x110000 (x110001 ++ [(⟨bt119.1, bt119.2.1⟩ : S145)])) else (none)))))) else (if x3.length < 3518437208883 then (dump_volumes.l0 k (x3 ++ [(⟨x110000, x110001⟩ : S136)]) x18 (wrap64 (x19 + 1)) x1000 x1001 x1002) else (none))
end
def dump_volumes.f (k : Nat) (s0_0 : List Int) (s0_1 : Int) (s0_2 : Int) : Option ((List (S136)) × Int × Int) := (pack_Reader_Get8.f s0_0 s0_1 s0_2).bind fun bt101 => (if (wrap64 (bt101.1)) > 16 then ((pack_Reader_Fail.f s0_0 bt101.2.1 bt101.2.2 13).bind fun bt104 => (some (([] : List (S136)), bt104.1, bt104.2))) else (dump_volumes.l0 k ([] : List (S136)) (wrap64 (bt101.1)) 0 s0_0 bt101.2.1 bt101.2.2))
theorem dump_volumes.mono_l : ∀ k, (∀ y0 y1 y2 y3 y4 y5, LeO (dump_volumes.l0 k y0 y1 y2 y3 y4 y5) (dump_volumes.l0 (k + 1) y0 y1 y2 y3 y4 y5)) ∧ (∀ y0 y1 y2 y3 y4 y5 y6 y7 y8 y9, LeO (dump_volumes.l1 k y0 y1 y2 y3 y4 y5 y6 y7 y8 y9) (dump_volumes.l1 (k + 1) y0 y1 y2 y3 y4 y5 y6 y7 y8 y9))
  | 0 => ⟨fun _ _ _ _ _ _ r h => by simp [dump_volumes.l0] at h, fun _ _ _ _ _ _ _ _ _ _ r h => by simp [dump_volumes.l1] at h⟩
  | k + 1 => by
    obtain ⟨ih0, ih1⟩ := dump_volumes.mono_l k
    refine ⟨?_, ?_⟩
    · intro y0 y1 y2 y3 y4 y5
      unfold dump_volumes.l0
      repeat' first
      | (with_reducible exact ih0 _ _ _ _ _ _)
      | (with_reducible exact ih1 _ _ _ _ _ _ _ _ _ _)
      | (with_reducible exact LeO.refl _)
      | (with_reducible exact LeO.none _)
      | (with_reducible refine LeO.ite ?_ ?_)
      | (with_reducible refine LeO.bind ?_ (fun _ => ?_))
      | exact ih0 _ _ _ _ _ _
      | exact ih1 _ _ _ _ _ _ _ _ _ _
      | exact LeO.none _
      | refine LeO.ite ?_ ?_
      | refine LeO.bind ?_ (fun _ => ?_)
    · intro y0 y1 y2 y3 y4 y5 y6 y7 y8 y9
      unfold dump_volumes.l1
      repeat' first
      | (with_reducible exact ih0 _ _ _ _ _ _)
      | (with_reducible exact ih1 _ _ _ _ _ _ _ _ _ _)
      | (with_reducible exact LeO.refl _)
      | (with_reducible exact LeO.none _)
      | (with_reducible refine LeO.ite ?_ ?_)
      | (with_reducible refine LeO.bind ?_ (fun _ => ?_))
      | exact ih0 _ _ _ _ _ _
      | exact ih1 _ _ _ _ _ _ _ _ _ _
      | exact LeO.none _
      | refine LeO.ite ?_ ?_
      | refine LeO.bind ?_ (fun _ => ?_)
theorem dump_volumes.mono : ∀ a0 a1 a2 k, LeO (dump_volumes.f k a0 a1 a2) (dump_volumes.f (k + 1) a0 a1 a2) := by
  intro a0 a1 a2 k
  obtain ⟨ih0, ih1⟩ := dump_volumes.mono_l k
  unfold dump_volumes.f
  repeat' first
      | (with_reducible exact ih0 _ _ _ _ _ _)
      | (with_reducible exact ih1 _ _ _ _ _ _ _ _ _ _)
      | (with_reducible exact LeO.refl _)
      | (with_reducible exact LeO.none _)
      | (with_reducible refine LeO.ite ?_ ?_)
      | (with_reducible refine LeO.bind ?_ (fun _ => ?_))
      | exact ih0 _ _ _ _ _ _
      | exact ih1 _ _ _ _ _ _ _ _ _ _
      | exact LeO.none _
      | refine LeO.ite ?_ ?_
      | refine LeO.bind ?_ (fun _ => ?_)
set_option maxHeartbeats 8000000 in
set_option maxRecDepth 100000 in
theorem dump_volumes.calls (k : Nat) (g : Nat) (s0_0 : List Int) (s0_1 : Int) (s0_2 : Int) (r1 : List (S136)) (r2 : Int) (r3 : Int) (w0 w : World) (hI : IsS206 w0 w g s0_0 s0_1 s0_2) (hB : Below w0.heap.size w0 w) (h : dump_volumes.f k s0_0 s0_1 s0_2 = some (r1, r2, r3)) :
    Calls Try.prog 76 #[.pointer (some ⟨g, 0, none⟩)] w fun e w' => ∃ v0_ : Value, e = .returned (v0_) ∧ Kd.S k136 136 w' w.heap.size (fun _ => True) v0_ r1 ∧ IsS206 w0 w' g s0_0 r2 r3 ∧ Below w0.heap.size w0 w' ∧ KeepBut w w' g none := by
  have hu136 := Try.underlying136
  have hu145 := Try.underlying145
  have HI0 := Aside0.mk hI
  have HK := Aside0.mk (KeepBut.refl w g none)
  have HL := Aside0.mk hB.size
  clear hI
  have HW0 := Aside0.mk hB.size
  have HB := Aside0.mk hB
  clear hB
  have H : ((pack_Reader_Get8.f s0_0 s0_1 s0_2).bind fun bt101 => (if (wrap64 (bt101.1)) > 16 then ((pack_Reader_Fail.f s0_0 bt101.2.1 bt101.2.2 13).bind fun bt104 => (some (([] : List (S136)), bt104.1, bt104.2))) else (dump_volumes.l0 k ([] : List (S136)) (wrap64 (bt101.1)) 0 s0_0 bt101.2.1 bt101.2.2))) = some (r1, r2, r3) := h
  clear h
  replace H := Option.bind_eq_some_iff.mp H
  obtain ⟨⟨t101, t102, t103⟩, A20, H⟩ := H
  replace H : (if (wrap64 (t101)) > 16 then ((pack_Reader_Fail.f s0_0 t102 t103 13).bind fun bt104 => (some (([] : List (S136)), bt104.1, bt104.2))) else (dump_volumes.l0 k ([] : List (S136)) (wrap64 (t101)) 0 s0_0 t102 t103)) = some (r1, r2, r3) := H
  have A2 := Aside0.mk A20
  clear A20
  by_cases c3 : (wrap64 (t101)) > 16
  · rw [if_pos c3] at H
    have c3b0 : decide (16 < (wrap64 (t101))) = true := decide_eq_true c3
    clear c3
    replace H := Option.bind_eq_some_iff.mp H
    obtain ⟨⟨t104, t105⟩, A40, H⟩ := H
    replace H : (some (([] : List (S136)), t104, t105)) = some (r1, r2, r3) := H
    have A4 := Aside0.mk A40
    clear A40
    simp only [Option.some.injEq, Prod.mk.injEq] at H
    obtain ⟨rfl, rfl, rfl⟩ := H
    go_enter Try.func76, Try.ntmps76
    go_wp2_with (first | ((with_reducible refine gate_callee (f := 143) rfl ?_); refine goesL_ (some 11) rfl rfl Try.func143 (by kernel_rfl) rfl #[.pointer (some ⟨g, 0, none⟩)] rfl (by (try simp only [List.map_toArray, List.map_cons, List.map_nil]); first | done | rfl | (simp only [List.length_drop, List.length_take]; rfl)) ?_; (with_reducible refine (pack_Reader_Get8.calls g s0_0 s0_1 s0_2 t101 t102 t103 w0 _ ?side1 ?side2 A2.out).mono ?_); (case side1 => repeat (first | (with_reducible first | exact HI0.out | apply IsS206.alloc | apply IsS206.drewN | apply IsS206.drew | apply IsS206.set_1 | apply IsS206.set_2) | exact HI0.out)); (case side2 => repeat (first | (with_reducible first | exact HB.out | apply below_alloc | apply pw_below_drewN | apply below_drew1 | refine below_set ?_ (IsS206.ge HI0.out)) | exact HB.out)); rintro e w5 ⟨rfl, hi, hb, hk⟩; refine ⟨_, rfl, ?_⟩; have n0_ := Aside0.mk (KeepBut.trans (by repeat (first | (with_reducible first | exact HK.out | apply KeepBut.set_ | apply keep_drewN | apply keep_drew | apply keep_alloc) | exact HK.out)) hk (.inl rfl)); have n1_ := Aside0.mk (hb); have n2_ := Aside0.mk (hi); clear HK; clear HB; clear HI0; have HK := n0_; have HB := n1_; have HI0 := n2_; clear n0_ n1_ n2_; (try clear hb); (try clear hb2); (try clear hk); (try clear hi)) | ((with_reducible refine gate_callee (f := 144) rfl ?_); refine goesL_ (some 16) rfl rfl Try.func144 (by kernel_rfl) rfl #[.pointer (some ⟨g, 0, none⟩), .int .i64 13] rfl (by (try simp only [List.map_toArray, List.map_cons, List.map_nil]); first | done | rfl | (simp only [List.length_drop, List.length_take]; rfl)) ?_; (with_reducible refine (pack_Reader_Fail.calls g s0_0 t102 t103 13 t104 t105 w0 _ ?side1 ?side2 A4.out).mono ?_); (case side1 => repeat (first | (with_reducible first | exact HI0.out | apply IsS206.alloc | apply IsS206.drewN | apply IsS206.drew | apply IsS206.set_1 | apply IsS206.set_2) | exact HI0.out)); (case side2 => repeat (first | (with_reducible first | exact HB.out | apply below_alloc | apply pw_below_drewN | apply below_drew1 | refine below_set ?_ (IsS206.ge HI0.out)) | exact HB.out)); rintro e w6 ⟨rfl, hi, hb, hk⟩; refine ⟨_, rfl, ?_⟩; have n0_ := Aside0.mk (KeepBut.trans (by repeat (first | (with_reducible first | exact HK.out | apply KeepBut.set_ | apply keep_drewN | apply keep_drew | apply keep_alloc) | exact HK.out)) hk (.inl rfl)); have n1_ := Aside0.mk (hb); have n2_ := Aside0.mk (hi); clear HK; clear HB; clear HI0; have HK := n0_; have HB := n1_; have HI0 := n2_; clear n0_ n1_ n2_; (try clear hb); (try clear hb2); (try clear hk); (try clear hi)))
    go_ret
    exact ⟨_, by first | rfl | (simp [errW_none, errW_some] <;> rfl) | (simp [*, errW_none, errW_some] <;> rfl), by first | exact Kd.S_nil _ _ _ _ _ | exact Kd.N_nil _ _ _ _ _ | exact Kd.V_nil _ _ _ _ _ | exact Kd.Q_nil _ _ _ _ _ | exact Kd.R_nil _ _ _ _ _, by repeat (first | (with_reducible first | exact HI0.out | apply IsS206.alloc | apply IsS206.drewN | apply IsS206.drew | apply IsS206.set_1 | apply IsS206.set_2) | exact HI0.out), by repeat (first | (with_reducible first | exact HB.out | apply below_alloc | apply pw_below_drewN | apply below_drew1 | refine below_set ?_ (IsS206.ge HI0.out)) | exact HB.out), by repeat (first | (with_reducible first | exact HK.out | apply KeepBut.set_ | apply keep_drewN | apply keep_drew | apply keep_alloc) | exact HK.out)⟩
  · rw [if_neg c3] at H
    have c3b0 : decide (16 < (wrap64 (t101))) = false := decide_eq_false c3
    clear c3
    have H' := Aside0.mk H
    clear H
    go_enter Try.func76, Try.ntmps76
    go_wp2_with (first | ((with_reducible refine gate_callee (f := 143) rfl ?_); refine goesL_ (some 11) rfl rfl Try.func143 (by kernel_rfl) rfl #[.pointer (some ⟨g, 0, none⟩)] rfl (by (try simp only [List.map_toArray, List.map_cons, List.map_nil]); first | done | rfl | (simp only [List.length_drop, List.length_take]; rfl)) ?_; (with_reducible refine (pack_Reader_Get8.calls g s0_0 s0_1 s0_2 t101 t102 t103 w0 _ ?side1 ?side2 A2.out).mono ?_); (case side1 => repeat (first | (with_reducible first | exact HI0.out | apply IsS206.alloc | apply IsS206.drewN | apply IsS206.drew | apply IsS206.set_1 | apply IsS206.set_2) | exact HI0.out)); (case side2 => repeat (first | (with_reducible first | exact HB.out | apply below_alloc | apply pw_below_drewN | apply below_drew1 | refine below_set ?_ (IsS206.ge HI0.out)) | exact HB.out)); rintro e w7 ⟨rfl, hi, hb, hk⟩; refine ⟨_, rfl, ?_⟩; have n0_ := Aside0.mk (KeepBut.trans (by repeat (first | (with_reducible first | exact HK.out | apply KeepBut.set_ | apply keep_drewN | apply keep_drew | apply keep_alloc) | exact HK.out)) hk (.inl rfl)); have n1_ := Aside0.mk (hb); have n2_ := Aside0.mk (hi); clear HK; clear HB; clear HI0; have HK := n0_; have HB := n1_; have HI0 := n2_; clear n0_ n1_ n2_; (try clear hb); (try clear hb2); (try clear hk); (try clear hi)))
    go_loopg [3, 19] k (fun kq v3 v19 w' => ∃ (x3_1 : List (S136)) (x19_1 : Int) (x1001_1 : Int) (x1002_1 : Int), v19 = .int .i64 x19_1 ∧ Aside0 (dump_volumes.l0 kq x3_1 (wrap64 (t101)) x19_1 s0_0 x1001_1 x1002_1 = some (r1, r2, r3)) ∧ Aside0 (kq ≤ k) ∧ Aside0 (Kd.S k136 136 w' w.heap.size (fun _ => True) v3 x3_1) ∧ Aside0 (IsS206 w0 w' g s0_0 x1001_1 x1002_1) ∧ Aside0 (KeepBut w w' g none) ∧ Aside0 (Below w0.heap.size w0 w'))
    case atStart => exact ⟨(([] : List (S136))), (0), (t102), (t103), (by first | rfl | (simp; done) | (simp [*]; done)), H', ⟨Nat.le_refl _⟩, ⟨by first | exact Kd.S_nil _ _ _ _ _ | exact Kd.N_nil _ _ _ _ _ | exact Kd.V_nil _ _ _ _ _ | exact Kd.Q_nil _ _ _ _ _ | exact Kd.R_nil _ _ _ _ _⟩, ⟨by repeat (first | (with_reducible first | exact HI0.out | apply IsS206.alloc | apply IsS206.drewN | apply IsS206.drew | apply IsS206.set_1 | apply IsS206.set_2) | exact HI0.out)⟩, ⟨by repeat (first | (with_reducible first | exact HK.out | apply KeepBut.set_ | apply keep_drewN | apply keep_drew | apply keep_alloc) | exact HK.out)⟩, ⟨by repeat (first | (with_reducible first | exact HB.out | apply below_alloc | apply pw_below_drewN | apply below_drew1 | refine below_set ?_ (IsS206.ge HI0.out)) | exact HB.out)⟩⟩
    case round =>
      clear H'
      try clear c1
      try clear p2
      try clear c3
      try clear c3b0
      try clear p6
      try clear c7
      obtain ⟨x3_1, x19_1, x1001_1, x1002_1, rfl, HA, HK1, HO_3, HI0, HK, HB⟩ := hrel
      cases gk with
      | zero => exact absurd HA.out (by simp [dump_volumes.l0])
      | succ k1 =>
        have H := HA.out
        clear HA
        simp only [dump_volumes.l0] at H
        by_cases c8 : x19_1 < (wrap64 (t101))
        · rw [if_pos c8] at H
          have c8b0 : decide (x19_1 < (wrap64 (t101))) = true := decide_eq_true c8
          clear c8
          replace H := Option.bind_eq_some_iff.mp H
          obtain ⟨⟨t106, t107, t108⟩, A90, H⟩ := H
          replace H : ((pack_Reader_Get32.f s0_0 t107 t108).bind fun bt110 => (dump_volumes.l1 k1 x3_1 (⟨#[]⟩ : ByteArray) bt110.1 (wrap64 (t101)) x19_1 s0_0 bt110.2.1 bt110.2.2 t106 ([] : List (S145)))) = some (r1, r2, r3) := H
          have A9 := Aside0.mk A90
          clear A90
          replace H := Option.bind_eq_some_iff.mp H
          obtain ⟨⟨t110, t111, t112⟩, A100, H⟩ := H
          replace H : (dump_volumes.l1 k1 x3_1 (⟨#[]⟩ : ByteArray) t110 (wrap64 (t101)) x19_1 s0_0 t111 t112 t106 ([] : List (S145))) = some (r1, r2, r3) := H
          have A10 := Aside0.mk A100
          clear A100
          have H' := Aside0.mk H
          clear H
          go_wp2_with (first | ((with_reducible refine gate_callee (f := 145) rfl ?_); refine goesL_ (some 22) rfl rfl Try.func145 (by kernel_rfl) rfl #[.pointer (some ⟨g, 0, none⟩), .int .i64 16] rfl (by (try simp only [List.map_toArray, List.map_cons, List.map_nil]); first | done | rfl | (simp only [List.length_drop, List.length_take]; rfl)) ?_; (with_reducible refine (pack_Reader_GetText.calls g s0_0 x1001_1 x1002_1 16 t106 t107 t108 w0 _ ?side1 ?side2 A9.out).mono ?_); (case side1 => repeat (first | (with_reducible first | exact HI0.out | apply IsS206.alloc | apply IsS206.drewN | apply IsS206.drew | apply IsS206.set_1 | apply IsS206.set_2) | exact HI0.out)); (case side2 => repeat (first | (with_reducible first | exact HB.out | apply below_alloc | apply pw_below_drewN | apply below_drew1 | refine below_set ?_ (IsS206.ge HI0.out)) | exact HB.out)); rintro e w11 ⟨rfl, hi, hb, hk⟩; refine ⟨_, rfl, ?_⟩; have n0_ := Aside0.mk (Kd.S_mono (Kd.S_keep (IsS206.apartS (show IsS206 w0 _ g s0_0 x1001_1 x1002_1 from by repeat (first | (with_reducible first | exact HI0.out | apply IsS206.alloc | apply IsS206.drewN | apply IsS206.drew | apply IsS206.set_1 | apply IsS206.set_2) | exact HI0.out)) (by (with_reducible repeat (first | apply Kd.S_alloc | apply Kd.S_drewN | apply Kd.S_drew)); exact HO_3.out) (by decide)) hk (fun _ h => h.2)) (fun _ h => h.1)); have n1_ := Aside0.mk (KeepBut.trans (by repeat (first | (with_reducible first | exact HK.out | apply KeepBut.set_ | apply keep_drewN | apply keep_drew | apply keep_alloc) | exact HK.out)) hk (.inl rfl)); have n2_ := Aside0.mk (hb); have n3_ := Aside0.mk (hi); clear HO_3; clear HK; clear HB; clear HI0; have HO_3 := n0_; have HK := n1_; have HB := n2_; have HI0 := n3_; clear n0_ n1_ n2_ n3_; (try clear hb); (try clear hb2); (try clear hk); (try clear hi)) | ((with_reducible refine gate_dst (N := 5) rfl ?_); refine box_event ?hg (N := 5) ?hd (cs := #[.string (⟨#[]⟩ : ByteArray), .slice none 0 0]) (t := 136) ?hr ?_; (case hd => rfl); (case hg => rfl); (case hr => first | (go_simp; done) | (go_simp; rfl)); intro gb109 hg w12 hbox hb; have n0_ := Aside0.mk (Kd.S_below (Kd.S_elderB (by (with_reducible repeat (first | apply Kd.S_alloc | apply Kd.S_drewN | apply Kd.S_drew)); exact HO_3.out) gb109 (Nat.le_of_eq hg.symm)) hb); have n1_ := Aside0.mk (IsS206.below (by repeat (first | (with_reducible first | exact HI0.out | apply IsS206.alloc | apply IsS206.drewN | apply IsS206.drew | apply IsS206.set_1 | apply IsS206.set_2) | exact HI0.out)) hb); have n2_ := Aside0.mk (KeepBut.trans (by repeat (first | (with_reducible first | exact HK.out | apply KeepBut.set_ | apply keep_drewN | apply keep_drew | apply keep_alloc) | exact HK.out)) (KeepBut.of_below hb g none) (.inl rfl)); have n3_ := Aside0.mk (below_step (by repeat (first | (with_reducible first | exact HB.out | apply below_alloc | apply pw_below_drewN | apply below_drew1 | refine below_set ?_ (IsS206.ge HI0.out)) | exact HB.out)) hb); have n4_ := Aside0.mk (hbox); have n5_ := Aside0.mk ((by rw [hg]; exact (keep_size (w := w) (g := g) (row := none) (by repeat (first | (with_reducible first | exact HK.out | apply KeepBut.set_ | apply keep_drewN | apply keep_drew | apply keep_alloc) | exact HK.out))) : w.heap.size ≤ gb109)); have n6_ := Aside0.mk ((Nat.le_trans HW0.out (by rw [hg]; exact (keep_size (w := w) (g := g) (row := none) (by repeat (first | (with_reducible first | exact HK.out | apply KeepBut.set_ | apply keep_drewN | apply keep_drew | apply keep_alloc) | exact HK.out))) : w.heap.size ≤ gb109) : w0.heap.size ≤ gb109)); have n7_ := Aside0.mk ((by rw [hg]; exact Nat.ne_of_lt (IsS206.lt (show IsS206 w0 _ g s0_0 t107 t108 from by repeat (first | (with_reducible first | exact HI0.out | apply IsS206.alloc | apply IsS206.drewN | apply IsS206.drew | apply IsS206.set_1 | apply IsS206.set_2) | exact HI0.out))) : g ≠ gb109)); have n8_ := Aside0.mk ((by rw [hg]; exact Nat.ne_of_gt (IsS206.lt (show IsS206 w0 _ g s0_0 t107 t108 from by repeat (first | (with_reducible first | exact HI0.out | apply IsS206.alloc | apply IsS206.drewN | apply IsS206.drew | apply IsS206.set_1 | apply IsS206.set_2) | exact HI0.out))) : gb109 ≠ g)); clear HO_3; clear HI0; clear HK; clear HB; have HO_3 := n0_; have HI0 := n1_; have HK := n2_; have HB := n3_; have BK109 := n4_; have GW109 := n5_; have GE109 := n6_; have NB0_109 := n7_; have NB109_0 := n8_; clear n0_ n1_ n2_ n3_ n4_ n5_ n6_ n7_ n8_; clear hb hbox hg; have hnb13 := NB109_0.out; have hnc13 := NB0_109.out; have hcz14_0 : w12.cell? ⟨gb109, 0, none⟩ = some (.string (⟨#[]⟩ : ByteArray)) := (blk_cell BK109.out 0).trans rfl; have hcz14_1 : w12.cell? ⟨gb109, 1, none⟩ = some (.slice none 0 0) := (blk_cell BK109.out 1).trans rfl; have hfz14_0 := blk_frozen BK109.out 0; have hfz14_1 := blk_frozen BK109.out 1) | ((with_reducible refine gate_callee (f := 146) rfl ?_); refine goesL_ (some 25) rfl rfl Try.func146 (by kernel_rfl) rfl #[.pointer (some ⟨g, 0, none⟩)] rfl (by (try simp only [List.map_toArray, List.map_cons, List.map_nil]); first | done | rfl | (simp only [List.length_drop, List.length_take]; rfl)) ?_; (with_reducible refine (pack_Reader_Get32.calls g s0_0 t107 t108 t110 t111 t112 w0 _ ?side1 ?side2 A10.out).mono ?_); (case side1 => repeat (first | (with_reducible first | exact HI0.out | apply IsS206.alloc | apply IsS206.drewN | apply IsS206.drew | apply IsS206.set_1 | apply IsS206.set_2 | refine IsS206.far ?_ NB0_109.out _) | exact HI0.out)); (case side2 => repeat (first | (with_reducible first | exact HB.out | apply below_alloc | apply pw_below_drewN | apply below_drew1 | refine below_set ?_ (IsS206.ge HI0.out) | refine below_set ?_ GE109.out) | exact HB.out)); rintro e w15 ⟨rfl, hi, hb, hk⟩; refine ⟨_, rfl, ?_⟩; have n0_ := Aside0.mk (Kd.S_mono (Kd.S_keep (IsS206.apartS (show IsS206 w0 _ g s0_0 t107 t108 from by repeat (first | (with_reducible first | exact HI0.out | apply IsS206.alloc | apply IsS206.drewN | apply IsS206.drew | apply IsS206.set_1 | apply IsS206.set_2 | refine IsS206.far ?_ NB0_109.out _) | exact HI0.out)) (by (with_reducible repeat (first | apply Kd.S_alloc | apply Kd.S_drewN | apply Kd.S_drew)); exact (Kd.S_mono (Kd.S_far (p := ⟨gb109, 1, none⟩) (Kd.S_far (p := ⟨gb109, 0, none⟩) (Kd.S_mono HO_3.out (fun k_ hk => (⟨hk, hk.2⟩ : _ ∧ k_ ≠ gb109))) (fun _ hk => hk.2) (.string t106)) (fun _ hk => hk.2) (.slice none 0 0)) (fun _ h_ => h_.1))) (by decide)) hk (fun _ h => h.2)) (fun _ h => h.1)); have n1_ := Aside0.mk (KeepBut.blk hk (g' := gb109) (o := .cells #[.string t106, .slice none 0 0] 136 (0, 0)) (by (with_reducible repeat (first | refine blk_drewN ?_ _ | refine blk_drew ?_ | refine blk_alloc ?_ _)); refine blk_put (cs := #[.string t106, .slice none 0 0]) ?_ 1 _ rfl; (with_reducible repeat (first | refine blk_drewN ?_ _ | refine blk_drew ?_ | refine blk_alloc ?_ _)); refine blk_put (cs := #[.string (⟨#[]⟩ : ByteArray), .slice none 0 0]) ?_ 0 _ rfl; (with_reducible repeat (first | refine blk_drewN ?_ _ | refine blk_drew ?_ | refine blk_alloc ?_ _)); exact BK109.out) NB109_0.out (by simp)); have n2_ := Aside0.mk (KeepBut.trans (by repeat (first | (with_reducible first | exact HK.out | apply KeepBut.set_ | apply keep_drewN | apply keep_drew | apply keep_alloc | refine keep_far ?_ GW109.out _) | exact HK.out)) hk (.inl rfl)); have n3_ := Aside0.mk (hb); have n4_ := Aside0.mk (hi); clear HO_3; clear BK109; clear HK; clear HB; clear HI0; have HO_3 := n0_; have BK109 := n1_; have HK := n2_; have HB := n3_; have HI0 := n4_; clear n0_ n1_ n2_ n3_ n4_; (try clear hb); (try clear hb2); (try clear hk); (try clear hi)))
          go_loopg [6, 7] k1 (fun kq v6 v7 w' => ∃ (x6_2 : ByteArray) (x7_2 : Int) (x1001_2 : Int) (x1002_2 : Int) (x110001_2 : List (S145)) (u110001 : Value), v6 = .string x6_2 ∧ v7 = .int .u32 x7_2 ∧ Aside0 (dump_volumes.l1 kq x3_1 x6_2 x7_2 (wrap64 (t101)) x19_1 s0_0 x1001_2 x1002_2 t106 x110001_2 = some (r1, r2, r3)) ∧ Aside0 (kq ≤ k1) ∧ Aside0 (Kd.S k136 136 w' w.heap.size (fun k_ => some k_ ≠ (u110001 : Value).ownBlock ∧ k_ ≠ gb109) u3 x3_1) ∧ Aside0 (Kd.R k145 145 w' w.heap.size (fun _ => True) u110001 x110001_2) ∧ Aside0 (w'.heap[gb109]? = some (.cells #[.string t106, u110001] 136 (0, 0))) ∧ Aside0 (IsS206 w0 w' g s0_0 x1001_2 x1002_2) ∧ Aside0 (KeepBut w w' g none) ∧ Aside0 (Below w0.heap.size w0 w'))
          case atStart => exact ⟨((⟨#[]⟩ : ByteArray)), (t110), (t111), (t112), (([] : List (S145))), (.slice none 0 0), (by first | rfl | (simp; done) | (simp [*]; done)), (by first | rfl | (simp; done) | (simp [*]; done)), H', ⟨Nat.le_refl _⟩, ⟨by (with_reducible repeat (first | apply Kd.S_alloc | apply Kd.S_drewN | apply Kd.S_drew)); exact Kd.S_mono HO_3.out (fun _ hk => ⟨(by simp [Value.ownBlock]), hk.2⟩)⟩, ⟨by first | exact Kd.R_nil _ _ _ _ _ | exact Kd.N_nil _ _ _ _ _ | exact Kd.V_nil _ _ _ _ _ | exact Kd.Q_nil _ _ _ _ _ | exact Kd.S_nil _ _ _ _ _⟩, ⟨by (with_reducible repeat (first | refine blk_drewN ?_ _ | refine blk_drew ?_ | refine blk_alloc ?_ _)); exact BK109.out⟩, ⟨by repeat (first | (with_reducible first | exact HI0.out | apply IsS206.alloc | apply IsS206.drewN | apply IsS206.drew | apply IsS206.set_1 | apply IsS206.set_2 | refine IsS206.far ?_ NB0_109.out _) | exact HI0.out)⟩, ⟨by repeat (first | (with_reducible first | exact HK.out | apply KeepBut.set_ | apply keep_drewN | apply keep_drew | apply keep_alloc | refine keep_far ?_ GW109.out _) | exact HK.out)⟩, ⟨by repeat (first | (with_reducible first | exact HB.out | apply below_alloc | apply pw_below_drewN | apply below_drew1 | refine below_set ?_ (IsS206.ge HI0.out) | refine below_set ?_ GE109.out) | exact HB.out)⟩⟩
          case round =>
            clear H'
            try clear c1
            try clear p2
            try clear c3
            try clear c3b0
            try clear p6
            try clear c7
            try clear c8
            try clear c8b0
            try clear c13
            try clear c14
            try clear hcz14_0
            try clear hcz14_1
            try clear hfz14_0
            try clear hfz14_1
            try clear p2
            try clear p6
            obtain ⟨x6_2, x7_2, x1001_2, x1002_2, x110001_2, u110001, rfl, rfl, HA, HK2, HO_3, HO_110001, BK109, HI0, HK, HB⟩ := hrel
            cases gk with
            | zero => exact absurd HA.out (by simp [dump_volumes.l1])
            | succ k2 =>
              have H := HA.out
              clear HA
              simp only [dump_volumes.l1] at H
              by_cases c16 : x7_2 > 0
              · rw [if_pos c16] at H
                have c16b0 : decide (0 < x7_2) = true := decide_eq_true c16
                clear c16
                replace H := Option.bind_eq_some_iff.mp H
                obtain ⟨⟨t116, t117, t118⟩, A170, H⟩ := H
                replace H : ((dump_pair.f s0_0 t117 t118 x6_2).bind fun bt119 => ((pack_Reader_Left.f s0_0 bt119.2.2.1 bt119.2.2.2).bind fun bt124 => (if bt124.1 = t116 then (if x3_1.length < 3518437208883 then (dump_volumes.l0 k2 (x3_1 ++ [(⟨t106, x110001_2⟩ : S136)]) (wrap64 (t101)) (wrap64 (x19_1 + 1)) s0_0 bt124.2.1 bt124.2.2) else (none)) else (if x110001_2.length < 4398046511104 then (dump_volumes.l1 k2 x3_1 bt119.1 ((x7_2 - 1) % 4294967296) (wrap64 (t101)) x19_1 s0_0 bt124.2.1 bt124.2.2 t106 (x110001_2 ++ [(⟨bt119.1, bt119.2.1⟩ : S145)])) else (none))))) = some (r1, r2, r3) := H
                have A17 := Aside0.mk A170
                clear A170
                replace H := Option.bind_eq_some_iff.mp H
                obtain ⟨⟨t119, t120, t121, t122⟩, A180, H⟩ := H
                replace H : ((pack_Reader_Left.f s0_0 t121 t122).bind fun bt124 => (if bt124.1 = t116 then (if x3_1.length < 3518437208883 then (dump_volumes.l0 k2 (x3_1 ++ [(⟨t106, x110001_2⟩ : S136)]) (wrap64 (t101)) (wrap64 (x19_1 + 1)) s0_0 bt124.2.1 bt124.2.2) else (none)) else (if x110001_2.length < 4398046511104 then (dump_volumes.l1 k2 x3_1 t119 ((x7_2 - 1) % 4294967296) (wrap64 (t101)) x19_1 s0_0 bt124.2.1 bt124.2.2 t106 (x110001_2 ++ [(⟨t119, t120⟩ : S145)])) else (none)))) = some (r1, r2, r3) := H
                have A18 := Aside0.mk A180
                clear A180
                replace H := Option.bind_eq_some_iff.mp H
                obtain ⟨⟨t124, t125, t126⟩, A190, H⟩ := H
                replace H : (if t124 = t116 then (if x3_1.length < 3518437208883 then (dump_volumes.l0 k2 (x3_1 ++ [(⟨t106, x110001_2⟩ : S136)]) (wrap64 (t101)) (wrap64 (x19_1 + 1)) s0_0 t125 t126) else (none)) else (if x110001_2.length < 4398046511104 then (dump_volumes.l1 k2 x3_1 t119 ((x7_2 - 1) % 4294967296) (wrap64 (t101)) x19_1 s0_0 t125 t126 t106 (x110001_2 ++ [(⟨t119, t120⟩ : S145)])) else (none))) = some (r1, r2, r3) := H
                have A19 := Aside0.mk A190
                clear A190
                by_cases c20 : t124 = t116
                · rw [if_pos c20] at H
                  have c20b0 : (t124 == t116) = true := beq_iff_eq.mpr c20
                  have c20b1 : (t124 != t116) = false := bne_eq_false_iff_eq.mpr c20
                  clear c20
                  by_cases c21 : x3_1.length < 3518437208883
                  · rw [if_pos c21] at H
                    have LMc21 := Aside0.mk c21
                    clear c21
                    obtain ⟨y127, hy127⟩ : ∃ y_ : List (S136), y_ = (x3_1 ++ [(⟨t106, x110001_2⟩ : S136)]) := ⟨_, rfl⟩
                    replace H : (dump_volumes.l0 k2 y127 (wrap64 (t101)) (wrap64 (x19_1 + 1)) s0_0 t125 t126) = some (r1, r2, r3) := by first | (rw [hy127]; with_reducible exact H) | (have H2_ := (Option.bind_some _ _).symm.trans H; rw [hy127]; with_reducible exact H2_) | (have H2_ := (Option.bind_some _ _).symm.trans H; with_reducible exact H2_) | with_reducible exact H | (rw [hy127]; exact H) | exact H
                    have Ny127 := Aside0.mk hy127
                    clear hy127
                    have H' := Aside0.mk H
                    clear H
                    go_wp2_with (first | ((with_reducible refine gate_callee (f := 147) rfl ?_); refine goesL_ (some 31) rfl rfl Try.func147 (by kernel_rfl) rfl #[.pointer (some ⟨g, 0, none⟩)] rfl (by (try simp only [List.map_toArray, List.map_cons, List.map_nil]); first | done | rfl | (simp only [List.length_drop, List.length_take]; rfl)) ?_; (with_reducible refine (pack_Reader_Left.calls g s0_0 x1001_2 x1002_2 t116 t117 t118 w0 _ ?side1 ?side2 A17.out).mono ?_); (case side1 => repeat (first | (with_reducible first | exact HI0.out | apply IsS206.alloc | apply IsS206.drewN | apply IsS206.drew | apply IsS206.set_1 | apply IsS206.set_2 | refine IsS206.far ?_ NB0_109.out _) | exact HI0.out)); (case side2 => repeat (first | (with_reducible first | exact HB.out | apply below_alloc | apply pw_below_drewN | apply below_drew1 | refine below_set ?_ (IsS206.ge HI0.out) | refine below_set ?_ GE109.out) | exact HB.out)); rintro e w22 ⟨rfl, hi, hb, hk⟩; refine ⟨_, rfl, ?_⟩; have n0_ := Aside0.mk (Kd.S_mono (Kd.S_keep (IsS206.apartS (show IsS206 w0 _ g s0_0 x1001_2 x1002_2 from by repeat (first | (with_reducible first | exact HI0.out | apply IsS206.alloc | apply IsS206.drewN | apply IsS206.drew | apply IsS206.set_1 | apply IsS206.set_2 | refine IsS206.far ?_ NB0_109.out _) | exact HI0.out)) (by (with_reducible repeat (first | apply Kd.S_alloc | apply Kd.S_drewN | apply Kd.S_drew)); exact HO_3.out) (by decide)) hk (fun _ h => h.2)) (fun _ h => h.1)); have n1_ := Aside0.mk (Kd.R_mono (Kd.R_keep (IsS206.apart (show IsS206 w0 _ g s0_0 x1001_2 x1002_2 from by repeat (first | (with_reducible first | exact HI0.out | apply IsS206.alloc | apply IsS206.drewN | apply IsS206.drew | apply IsS206.set_1 | apply IsS206.set_2 | refine IsS206.far ?_ NB0_109.out _) | exact HI0.out)) (by (with_reducible repeat (first | apply Kd.R_alloc | apply Kd.R_drewN | apply Kd.R_drew)); exact HO_110001.out) (by decide)) hk (fun _ h => h.2)) (fun _ h => h.1)); have n2_ := Aside0.mk (KeepBut.blk hk (g' := gb109) (o := .cells #[.string t106, u110001] 136 (0, 0)) (by (with_reducible repeat (first | refine blk_drewN ?_ _ | refine blk_drew ?_ | refine blk_alloc ?_ _)); exact BK109.out) NB109_0.out (by simp)); have n3_ := Aside0.mk (KeepBut.trans (by repeat (first | (with_reducible first | exact HK.out | apply KeepBut.set_ | apply keep_drewN | apply keep_drew | apply keep_alloc | refine keep_far ?_ GW109.out _) | exact HK.out)) hk (.inl rfl)); have n4_ := Aside0.mk (hb); have n5_ := Aside0.mk (hi); clear HO_3; clear HO_110001; clear BK109; clear HK; clear HB; clear HI0; have HO_3 := n0_; have HO_110001 := n1_; have BK109 := n2_; have HK := n3_; have HB := n4_; have HI0 := n5_; clear n0_ n1_ n2_ n3_ n4_ n5_; (try clear hb); (try clear hb2); (try clear hk); (try clear hi)) | ((with_reducible refine gate_callee (f := 148) rfl ?_); refine goesL_ (some 34) rfl rfl Try.func148 (by kernel_rfl) rfl #[.pointer (some ⟨g, 0, none⟩), .string x6_2] rfl (by (try simp only [List.map_toArray, List.map_cons, List.map_nil]); first | done | rfl | (simp only [List.length_drop, List.length_take]; rfl)) ?_; (with_reducible refine (dump_pair.calls g s0_0 t117 t118 x6_2 t119 t120 t121 t122 w0 _ ?side1 ?side2 A18.out).mono ?_); (case side1 => repeat (first | (with_reducible first | exact HI0.out | apply IsS206.alloc | apply IsS206.drewN | apply IsS206.drew | apply IsS206.set_1 | apply IsS206.set_2 | refine IsS206.far ?_ NB0_109.out _) | exact HI0.out)); (case side2 => repeat (first | (with_reducible first | exact HB.out | apply below_alloc | apply pw_below_drewN | apply below_drew1 | refine below_set ?_ (IsS206.ge HI0.out) | refine below_set ?_ GE109.out) | exact HB.out)); rintro e w23 ⟨rfl, hi, hb, hk⟩; refine ⟨_, rfl, ?_⟩; have n0_ := Aside0.mk (Kd.S_mono (Kd.S_keep (IsS206.apartS (show IsS206 w0 _ g s0_0 t117 t118 from by repeat (first | (with_reducible first | exact HI0.out | apply IsS206.alloc | apply IsS206.drewN | apply IsS206.drew | apply IsS206.set_1 | apply IsS206.set_2 | refine IsS206.far ?_ NB0_109.out _) | exact HI0.out)) (by (with_reducible repeat (first | apply Kd.S_alloc | apply Kd.S_drewN | apply Kd.S_drew)); exact HO_3.out) (by decide)) hk (fun _ h => h.2)) (fun _ h => h.1)); have n1_ := Aside0.mk (Kd.R_mono (Kd.R_keep (IsS206.apart (show IsS206 w0 _ g s0_0 t117 t118 from by repeat (first | (with_reducible first | exact HI0.out | apply IsS206.alloc | apply IsS206.drewN | apply IsS206.drew | apply IsS206.set_1 | apply IsS206.set_2 | refine IsS206.far ?_ NB0_109.out _) | exact HI0.out)) (by (with_reducible repeat (first | apply Kd.R_alloc | apply Kd.R_drewN | apply Kd.R_drew)); exact HO_110001.out) (by decide)) hk (fun _ h => h.2)) (fun _ h => h.1)); have n2_ := Aside0.mk (KeepBut.blk hk (g' := gb109) (o := .cells #[.string t106, u110001] 136 (0, 0)) (by (with_reducible repeat (first | refine blk_drewN ?_ _ | refine blk_drew ?_ | refine blk_alloc ?_ _)); exact BK109.out) NB109_0.out (by simp)); have n3_ := Aside0.mk (KeepBut.trans (by repeat (first | (with_reducible first | exact HK.out | apply KeepBut.set_ | apply keep_drewN | apply keep_drew | apply keep_alloc | refine keep_far ?_ GW109.out _) | exact HK.out)) hk (.inl rfl)); have n4_ := Aside0.mk (hb); have n5_ := Aside0.mk (hi); clear HO_3; clear HO_110001; clear BK109; clear HK; clear HB; clear HI0; have HO_3 := n0_; have HO_110001 := n1_; have BK109 := n2_; have HK := n3_; have HB := n4_; have HI0 := n5_; clear n0_ n1_ n2_ n3_ n4_ n5_; (try clear hb); (try clear hb2); (try clear hk); (try clear hi)) | ((with_reducible refine gate_dst (N := 9) rfl ?_); refine box_event ?hg (N := 9) ?hd (cs := #[.string (⟨#[]⟩ : ByteArray), .string (⟨#[]⟩ : ByteArray)]) (t := 145) ?hr ?_; (case hd => rfl); (case hg => rfl); (case hr => first | (go_simp; done) | (go_simp; rfl)); intro gb123 hg w24 hbox hb; have n0_ := Aside0.mk (Kd.S_below (Kd.S_elderB (by (with_reducible repeat (first | apply Kd.S_alloc | apply Kd.S_drewN | apply Kd.S_drew)); exact HO_3.out) gb123 (Nat.le_of_eq hg.symm)) hb); have n1_ := Aside0.mk (Kd.R_below (Kd.R_elderB (by (with_reducible repeat (first | apply Kd.R_alloc | apply Kd.R_drewN | apply Kd.R_drew)); exact HO_110001.out) gb123 (Nat.le_of_eq hg.symm)) hb); have n2_ := Aside0.mk (blk_below (g := gb109) (o := .cells #[.string t106, u110001] 136 (0, 0)) (by (with_reducible repeat (first | refine blk_drewN ?_ _ | refine blk_drew ?_ | refine blk_alloc ?_ _)); exact BK109.out) hb); have n3_ := Aside0.mk (IsS206.below (by repeat (first | (with_reducible first | exact HI0.out | apply IsS206.alloc | apply IsS206.drewN | apply IsS206.drew | apply IsS206.set_1 | apply IsS206.set_2 | refine IsS206.far ?_ NB0_109.out _) | exact HI0.out)) hb); have n4_ := Aside0.mk (KeepBut.trans (by repeat (first | (with_reducible first | exact HK.out | apply KeepBut.set_ | apply keep_drewN | apply keep_drew | apply keep_alloc | refine keep_far ?_ GW109.out _) | exact HK.out)) (KeepBut.of_below hb g none) (.inl rfl)); have n5_ := Aside0.mk (below_step (by repeat (first | (with_reducible first | exact HB.out | apply below_alloc | apply pw_below_drewN | apply below_drew1 | refine below_set ?_ (IsS206.ge HI0.out) | refine below_set ?_ GE109.out) | exact HB.out)) hb); have n6_ := Aside0.mk (hbox); have n7_ := Aside0.mk ((by rw [hg]; exact (keep_size (w := w) (g := g) (row := none) (by repeat (first | (with_reducible first | exact HK.out | apply KeepBut.set_ | apply keep_drewN | apply keep_drew | apply keep_alloc | refine keep_far ?_ GW109.out _) | exact HK.out))) : w.heap.size ≤ gb123)); have n8_ := Aside0.mk ((Nat.le_trans HW0.out (by rw [hg]; exact (keep_size (w := w) (g := g) (row := none) (by repeat (first | (with_reducible first | exact HK.out | apply KeepBut.set_ | apply keep_drewN | apply keep_drew | apply keep_alloc | refine keep_far ?_ GW109.out _) | exact HK.out))) : w.heap.size ≤ gb123) : w0.heap.size ≤ gb123)); have n9_ := Aside0.mk ((by rw [hg]; exact Nat.ne_of_lt (blk_lt (g := gb109) (o := .cells #[.string t106, u110001] 136 (0, 0)) (by (with_reducible repeat (first | refine blk_drewN ?_ _ | refine blk_drew ?_ | refine blk_alloc ?_ _)); exact BK109.out)) : gb109 ≠ gb123)); have n10_ := Aside0.mk ((by rw [hg]; exact Nat.ne_of_gt (blk_lt (g := gb109) (o := .cells #[.string t106, u110001] 136 (0, 0)) (by (with_reducible repeat (first | refine blk_drewN ?_ _ | refine blk_drew ?_ | refine blk_alloc ?_ _)); exact BK109.out)) : gb123 ≠ gb109)); have n11_ := Aside0.mk ((by rw [hg]; exact Nat.ne_of_lt (IsS206.lt (show IsS206 w0 _ g s0_0 t121 t122 from by repeat (first | (with_reducible first | exact HI0.out | apply IsS206.alloc | apply IsS206.drewN | apply IsS206.drew | apply IsS206.set_1 | apply IsS206.set_2 | refine IsS206.far ?_ NB0_109.out _) | exact HI0.out))) : g ≠ gb123)); have n12_ := Aside0.mk ((by rw [hg]; exact Nat.ne_of_gt (IsS206.lt (show IsS206 w0 _ g s0_0 t121 t122 from by repeat (first | (with_reducible first | exact HI0.out | apply IsS206.alloc | apply IsS206.drewN | apply IsS206.drew | apply IsS206.set_1 | apply IsS206.set_2 | refine IsS206.far ?_ NB0_109.out _) | exact HI0.out))) : gb123 ≠ g)); clear HO_3; clear HO_110001; clear BK109; clear HI0; clear HK; clear HB; have HO_3 := n0_; have HO_110001 := n1_; have BK109 := n2_; have HI0 := n3_; have HK := n4_; have HB := n5_; have BK123 := n6_; have GW123 := n7_; have GE123 := n8_; have NB109_123 := n9_; have NB123_109 := n10_; have NB0_123 := n11_; have NB123_0 := n12_; clear n0_ n1_ n2_ n3_ n4_ n5_ n6_ n7_ n8_ n9_ n10_ n11_ n12_; clear hb hbox hg; have hnb25 := NB123_109.out; have hnc25 := NB109_123.out; have hnb26 := NB123_0.out; have hnc26 := NB0_123.out; have hcz27_0 : w24.cell? ⟨gb123, 0, none⟩ = some (.string (⟨#[]⟩ : ByteArray)) := (blk_cell BK123.out 0).trans rfl; have hcz27_1 : w24.cell? ⟨gb123, 1, none⟩ = some (.string (⟨#[]⟩ : ByteArray)) := (blk_cell BK123.out 1).trans rfl; have hfz27_0 := blk_frozen BK123.out 0; have hfz27_1 := blk_frozen BK123.out 1) | ((with_reducible refine gate_callee (f := 147) rfl ?_); refine goesL_ (some 36) rfl rfl Try.func147 (by kernel_rfl) rfl #[.pointer (some ⟨g, 0, none⟩)] rfl (by (try simp only [List.map_toArray, List.map_cons, List.map_nil]); first | done | rfl | (simp only [List.length_drop, List.length_take]; rfl)) ?_; (with_reducible refine (pack_Reader_Left.calls g s0_0 t121 t122 t124 t125 t126 w0 _ ?side1 ?side2 A19.out).mono ?_); (case side1 => repeat (first | (with_reducible first | exact HI0.out | apply IsS206.alloc | apply IsS206.drewN | apply IsS206.drew | apply IsS206.set_1 | apply IsS206.set_2 | refine IsS206.far ?_ NB0_109.out _ | refine IsS206.far ?_ NB0_123.out _) | exact HI0.out)); (case side2 => repeat (first | (with_reducible first | exact HB.out | apply below_alloc | apply pw_below_drewN | apply below_drew1 | refine below_set ?_ (IsS206.ge HI0.out) | refine below_set ?_ GE109.out | refine below_set ?_ GE123.out) | exact HB.out)); rintro e w28 ⟨rfl, hi, hb, hk⟩; refine ⟨_, rfl, ?_⟩; have n0_ := Aside0.mk (Kd.S_mono (Kd.S_keep (IsS206.apartS (show IsS206 w0 _ g s0_0 t121 t122 from by repeat (first | (with_reducible first | exact HI0.out | apply IsS206.alloc | apply IsS206.drewN | apply IsS206.drew | apply IsS206.set_1 | apply IsS206.set_2 | refine IsS206.far ?_ NB0_109.out _ | refine IsS206.far ?_ NB0_123.out _) | exact HI0.out)) (by (with_reducible repeat (first | apply Kd.S_alloc | apply Kd.S_drewN | apply Kd.S_drew)); exact (Kd.S_mono (Kd.S_far (p := ⟨gb123, 1, none⟩) (Kd.S_far (p := ⟨gb123, 0, none⟩) (Kd.S_mono HO_3.out (fun k_ hk => (⟨hk, hk.2⟩ : _ ∧ k_ ≠ gb123))) (fun _ hk => hk.2) (.string t119)) (fun _ hk => hk.2) (.string t120)) (fun _ h_ => h_.1))) (by decide)) hk (fun _ h => h.2)) (fun _ h => h.1)); have n1_ := Aside0.mk (Kd.R_mono (Kd.R_keep (IsS206.apart (show IsS206 w0 _ g s0_0 t121 t122 from by repeat (first | (with_reducible first | exact HI0.out | apply IsS206.alloc | apply IsS206.drewN | apply IsS206.drew | apply IsS206.set_1 | apply IsS206.set_2 | refine IsS206.far ?_ NB0_109.out _ | refine IsS206.far ?_ NB0_123.out _) | exact HI0.out)) (by (with_reducible repeat (first | apply Kd.R_alloc | apply Kd.R_drewN | apply Kd.R_drew)); exact (Kd.R_mono (Kd.R_far (p := ⟨gb123, 1, none⟩) (Kd.R_far (p := ⟨gb123, 0, none⟩) (Kd.R_mono HO_110001.out (fun k_ hk => (⟨hk, hk.2⟩ : _ ∧ k_ ≠ gb123))) (fun _ hk => hk.2) (.string t119)) (fun _ hk => hk.2) (.string t120)) (fun _ h_ => h_.1))) (by decide)) hk (fun _ h => h.2)) (fun _ h => h.1)); have n2_ := Aside0.mk (KeepBut.blk hk (g' := gb109) (o := .cells #[.string t106, u110001] 136 (0, 0)) (by (with_reducible repeat (first | refine blk_drewN ?_ _ | refine blk_drew ?_ | refine blk_alloc ?_ _)); refine blk_far ?_ NB109_123.out _; (with_reducible repeat (first | refine blk_drewN ?_ _ | refine blk_drew ?_ | refine blk_alloc ?_ _)); refine blk_far ?_ NB109_123.out _; (with_reducible repeat (first | refine blk_drewN ?_ _ | refine blk_drew ?_ | refine blk_alloc ?_ _)); exact BK109.out) NB109_0.out (by simp)); have n3_ := Aside0.mk (KeepBut.blk hk (g' := gb123) (o := .cells #[.string t119, .string t120] 145 (0, 0)) (by (with_reducible repeat (first | refine blk_drewN ?_ _ | refine blk_drew ?_ | refine blk_alloc ?_ _)); refine blk_put (cs := #[.string t119, .string (⟨#[]⟩ : ByteArray)]) ?_ 1 _ rfl; (with_reducible repeat (first | refine blk_drewN ?_ _ | refine blk_drew ?_ | refine blk_alloc ?_ _)); refine blk_put (cs := #[.string (⟨#[]⟩ : ByteArray), .string (⟨#[]⟩ : ByteArray)]) ?_ 0 _ rfl; (with_reducible repeat (first | refine blk_drewN ?_ _ | refine blk_drew ?_ | refine blk_alloc ?_ _)); exact BK123.out) NB123_0.out (by simp)); have n4_ := Aside0.mk (KeepBut.trans (by repeat (first | (with_reducible first | exact HK.out | apply KeepBut.set_ | apply keep_drewN | apply keep_drew | apply keep_alloc | refine keep_far ?_ GW109.out _ | refine keep_far ?_ GW123.out _) | exact HK.out)) hk (.inl rfl)); have n5_ := Aside0.mk (hb); have n6_ := Aside0.mk (hi); clear HO_3; clear HO_110001; clear BK109; clear BK123; clear HK; clear HB; clear HI0; have HO_3 := n0_; have HO_110001 := n1_; have BK109 := n2_; have BK123 := n3_; have HK := n4_; have HB := n5_; have HI0 := n6_; clear n0_ n1_ n2_ n3_ n4_ n5_ n6_; (try clear hb); (try clear hb2); (try clear hk); (try clear hi); have hnb29 := NB109_0.out; have hnc29 := NB0_109.out; have hcz30_0 : w28.cell? ⟨gb109, 0, none⟩ = some (.string t106) := (blk_cell BK109.out 0).trans rfl; have hcz30_1 : w28.cell? ⟨gb109, 1, none⟩ = some (u110001) := (blk_cell BK109.out 1).trans rfl; have hfz30_0 := blk_frozen BK109.out 0; have hfz30_1 := blk_frozen BK109.out 1; obtain ⟨Ao32, co32, eo32⟩ := Kd.R_slice HO_110001.out; subst eo32) | ((with_reducible refine gate_builtin (b := .append) (xs := #[.tmp 47, .tmp 49]) rfl ?_); at_builtin; refine Kd.S_append k136 w.heap.size rfl (.tmp 47) (.tmp 49) 33 136 (.agg #[(.string ⟨#[]⟩), (.slice none 0 0)]) 40 rfl Try.underlying33 info136 rfl (by decide) (by omega) u3 x3_1 (⟨t106, x110001_2⟩ : S136) [.string t106, .slice Ao32 x110001_2.length co32] (fun k_ => k_ ≠ gb109 ∧ k_ ≠ gb123) (fun k_ => some k_ = (.slice Ao32 x110001_2.length co32 : Value).ownBlock) rfl rfl ?aP (fun k_ hk_ => ((Kd.R_mono (ok' := fun k_ => ((fun k_ => k_ ≠ gb109 ∧ k_ ≠ gb123)) k_ ∧ some k_ ≠ (u3 : Value).ownBlock) (Kd.R_types (Kd.R_apart' (HO_110001.out) (Kd.S_typed HO_3.out) (by decide)) BK109.out (by decide)) (fun k_ hk => ⟨⟨hk.2, hk.1.1.2⟩, hk.1.2⟩))).1 k_ hk_.symm) ?aF ?aO (Below.refl _ _) ?aS ?aL ?_; (case aP => exact k136_mkM _ _ _ (⟨t106, x110001_2⟩ : S136) (Kd.R_mono (Kd.R_tight rfl (Kd.R_mono (ok' := fun k_ => ((fun k_ => k_ ≠ gb109 ∧ k_ ≠ gb123)) k_ ∧ some k_ ≠ (u3 : Value).ownBlock) (Kd.R_types (Kd.R_apart' (HO_110001.out) (Kd.S_typed HO_3.out) (by decide)) BK109.out (by decide)) (fun k_ hk => ⟨⟨hk.2, hk.1.1.2⟩, hk.1.2⟩))) (fun _ h_ => h_))); (case aF => exact (fun k_ hk => ⟨Kd.freshB (g := gb109) (o := .cells #[.string t106, .slice Ao32 x110001_2.length co32] 136 (0, 0)) (by (with_reducible repeat (first | refine blk_drewN ?_ _ | refine blk_drew ?_ | refine blk_alloc ?_ _)); exact BK109.out) k_ hk, Kd.freshB (g := gb123) (o := .cells #[.string t119, .string t120] 145 (0, 0)) (by (with_reducible repeat (first | refine blk_drewN ?_ _ | refine blk_drew ?_ | refine blk_alloc ?_ _)); exact BK123.out) k_ hk⟩)); (case aO => exact (by (with_reducible repeat (first | apply Kd.S_alloc | apply Kd.S_drewN | apply Kd.S_drew)); exact Kd.S_mono HO_3.out (fun k_ hk => ⟨⟨hk.1.2, hk.2⟩, fun e_ => hk.1.1 e_⟩))); (case aS => exact (keep_size (w := w) (g := g) (row := none) (by repeat (first | (with_reducible first | exact HK.out | apply KeepBut.set_ | apply keep_drewN | apply keep_drew | apply keep_alloc | refine keep_far ?_ GW109.out _ | refine keep_far ?_ GW123.out _) | exact HK.out)))); (case aL => have := LMc21.out; omega); intro v128 w31 ho hb hg hat; rw [← Ny127.out] at ho; have n0_ := Aside0.mk (blk_grown (g := gb109) (o := .cells #[.string t106, .slice Ao32 x110001_2.length co32] 136 (0, 0)) (by (with_reducible repeat (first | refine blk_drewN ?_ _ | refine blk_drew ?_ | refine blk_alloc ?_ _)); exact BK109.out) hg (Kd.S_away HO_3.out (fun _ hk => hk.1.2))); have n1_ := Aside0.mk (IsS206.grown (by repeat (first | (with_reducible first | exact HI0.out | apply IsS206.alloc | apply IsS206.drewN | apply IsS206.drew | apply IsS206.set_1 | apply IsS206.set_2 | refine IsS206.far ?_ NB0_109.out _ | refine IsS206.far ?_ NB0_123.out _) | exact HI0.out)) hg (IsS206.own_neS HI0.out HO_3.out (by decide))); have n2_ := Aside0.mk (blk_grown (g := gb123) (o := .cells #[.string t119, .string t120] 145 (0, 0)) (by (with_reducible repeat (first | refine blk_drewN ?_ _ | refine blk_drew ?_ | refine blk_alloc ?_ _)); exact BK123.out) hg (Kd.S_ne HO_3.out BK123.out (by decide))); have n3_ := Aside0.mk (below_weaken (by repeat (first | (with_reducible first | exact HB.out | apply below_alloc | apply pw_below_drewN | apply below_drew1 | refine below_set ?_ (IsS206.ge HI0.out) | refine below_set ?_ GE109.out | refine below_set ?_ GE123.out) | exact HB.out)) HL.out hb); have n4_ := Aside0.mk (KeepBut.trans (by repeat (first | (with_reducible first | exact HK.out | apply KeepBut.set_ | apply keep_drewN | apply keep_drew | apply keep_alloc | refine keep_far ?_ GW109.out _ | refine keep_far ?_ GW123.out _) | exact HK.out)) (KeepBut.of_grown hg g) (Kd.S_base2 HO_3.out)); have n5_ := Aside0.mk (ho); clear BK109; clear HI0; clear BK123; clear HB; clear HK; clear HO_3; clear HO_110001; have BK109 := n0_; have HI0 := n1_; have BK123 := n2_; have HB := n3_; have HK := n4_; have HO129 := n5_; clear n0_ n1_ n2_ n3_ n4_ n5_; clear ho hb hg hat))
                    go_roundg k2
                    case measure => have := HK1.out; have := HK2.out; omega
                    case rel => exact ⟨(y127), (wrap64 (x19_1 + 1)), (t125), (t126), (by first | rfl | (simp; done) | (simp [*]; done)), H', ⟨by have := HK1.out; have := HK2.out; omega⟩, ⟨by (with_reducible repeat (first | apply Kd.S_alloc | apply Kd.S_drewN | apply Kd.S_drew)); exact Kd.S_mono HO129.out (fun _ hk => trivial)⟩, ⟨by repeat (first | (with_reducible first | exact HI0.out | apply IsS206.alloc | apply IsS206.drewN | apply IsS206.drew | apply IsS206.set_1 | apply IsS206.set_2 | refine IsS206.far ?_ NB0_109.out _ | refine IsS206.far ?_ NB0_123.out _) | exact HI0.out)⟩, ⟨by repeat (first | (with_reducible first | exact HK.out | apply KeepBut.set_ | apply keep_drewN | apply keep_drew | apply keep_alloc | refine keep_far ?_ GW109.out _ | refine keep_far ?_ GW123.out _) | exact HK.out)⟩, ⟨by repeat (first | (with_reducible first | exact HB.out | apply below_alloc | apply pw_below_drewN | apply below_drew1 | refine below_set ?_ (IsS206.ge HI0.out) | refine below_set ?_ GE109.out | refine below_set ?_ GE123.out) | exact HB.out)⟩⟩
                  · rw [if_neg c21] at H
                    exact absurd H (by simp)
                · rw [if_neg c20] at H
                  have c20b0 : (t124 == t116) = false := beq_eq_false_iff_ne.mpr c20
                  have c20b1 : (t124 != t116) = true := bne_iff_ne.mpr c20
                  by_cases c33 : x110001_2.length < 4398046511104
                  · rw [if_pos c33] at H
                    have LMc33 := Aside0.mk c33
                    clear c33
                    obtain ⟨y130, hy130⟩ : ∃ y_ : List (S145), y_ = (x110001_2 ++ [(⟨t119, t120⟩ : S145)]) := ⟨_, rfl⟩
                    replace H : (dump_volumes.l1 k2 x3_1 t119 ((x7_2 - 1) % 4294967296) (wrap64 (t101)) x19_1 s0_0 t125 t126 t106 y130) = some (r1, r2, r3) := by first | (rw [hy130]; with_reducible exact H) | (have H2_ := (Option.bind_some _ _).symm.trans H; rw [hy130]; with_reducible exact H2_) | (have H2_ := (Option.bind_some _ _).symm.trans H; with_reducible exact H2_) | with_reducible exact H | (rw [hy130]; exact H) | exact H
                    have Ny130 := Aside0.mk hy130
                    clear hy130
                    have H' := Aside0.mk H
                    clear H
                    go_wp2_with (first | ((with_reducible refine gate_callee (f := 147) rfl ?_); refine goesL_ (some 31) rfl rfl Try.func147 (by kernel_rfl) rfl #[.pointer (some ⟨g, 0, none⟩)] rfl (by (try simp only [List.map_toArray, List.map_cons, List.map_nil]); first | done | rfl | (simp only [List.length_drop, List.length_take]; rfl)) ?_; (with_reducible refine (pack_Reader_Left.calls g s0_0 x1001_2 x1002_2 t116 t117 t118 w0 _ ?side1 ?side2 A17.out).mono ?_); (case side1 => repeat (first | (with_reducible first | exact HI0.out | apply IsS206.alloc | apply IsS206.drewN | apply IsS206.drew | apply IsS206.set_1 | apply IsS206.set_2 | refine IsS206.far ?_ NB0_109.out _) | exact HI0.out)); (case side2 => repeat (first | (with_reducible first | exact HB.out | apply below_alloc | apply pw_below_drewN | apply below_drew1 | refine below_set ?_ (IsS206.ge HI0.out) | refine below_set ?_ GE109.out) | exact HB.out)); rintro e w34 ⟨rfl, hi, hb, hk⟩; refine ⟨_, rfl, ?_⟩; have n0_ := Aside0.mk (Kd.S_mono (Kd.S_keep (IsS206.apartS (show IsS206 w0 _ g s0_0 x1001_2 x1002_2 from by repeat (first | (with_reducible first | exact HI0.out | apply IsS206.alloc | apply IsS206.drewN | apply IsS206.drew | apply IsS206.set_1 | apply IsS206.set_2 | refine IsS206.far ?_ NB0_109.out _) | exact HI0.out)) (by (with_reducible repeat (first | apply Kd.S_alloc | apply Kd.S_drewN | apply Kd.S_drew)); exact HO_3.out) (by decide)) hk (fun _ h => h.2)) (fun _ h => h.1)); have n1_ := Aside0.mk (Kd.R_mono (Kd.R_keep (IsS206.apart (show IsS206 w0 _ g s0_0 x1001_2 x1002_2 from by repeat (first | (with_reducible first | exact HI0.out | apply IsS206.alloc | apply IsS206.drewN | apply IsS206.drew | apply IsS206.set_1 | apply IsS206.set_2 | refine IsS206.far ?_ NB0_109.out _) | exact HI0.out)) (by (with_reducible repeat (first | apply Kd.R_alloc | apply Kd.R_drewN | apply Kd.R_drew)); exact HO_110001.out) (by decide)) hk (fun _ h => h.2)) (fun _ h => h.1)); have n2_ := Aside0.mk (KeepBut.blk hk (g' := gb109) (o := .cells #[.string t106, u110001] 136 (0, 0)) (by (with_reducible repeat (first | refine blk_drewN ?_ _ | refine blk_drew ?_ | refine blk_alloc ?_ _)); exact BK109.out) NB109_0.out (by simp)); have n3_ := Aside0.mk (KeepBut.trans (by repeat (first | (with_reducible first | exact HK.out | apply KeepBut.set_ | apply keep_drewN | apply keep_drew | apply keep_alloc | refine keep_far ?_ GW109.out _) | exact HK.out)) hk (.inl rfl)); have n4_ := Aside0.mk (hb); have n5_ := Aside0.mk (hi); clear HO_3; clear HO_110001; clear BK109; clear HK; clear HB; clear HI0; have HO_3 := n0_; have HO_110001 := n1_; have BK109 := n2_; have HK := n3_; have HB := n4_; have HI0 := n5_; clear n0_ n1_ n2_ n3_ n4_ n5_; (try clear hb); (try clear hb2); (try clear hk); (try clear hi)) | ((with_reducible refine gate_callee (f := 148) rfl ?_); refine goesL_ (some 34) rfl rfl Try.func148 (by kernel_rfl) rfl #[.pointer (some ⟨g, 0, none⟩), .string x6_2] rfl (by (try simp only [List.map_toArray, List.map_cons, List.map_nil]); first | done | rfl | (simp only [List.length_drop, List.length_take]; rfl)) ?_; (with_reducible refine (dump_pair.calls g s0_0 t117 t118 x6_2 t119 t120 t121 t122 w0 _ ?side1 ?side2 A18.out).mono ?_); (case side1 => repeat (first | (with_reducible first | exact HI0.out | apply IsS206.alloc | apply IsS206.drewN | apply IsS206.drew | apply IsS206.set_1 | apply IsS206.set_2 | refine IsS206.far ?_ NB0_109.out _) | exact HI0.out)); (case side2 => repeat (first | (with_reducible first | exact HB.out | apply below_alloc | apply pw_below_drewN | apply below_drew1 | refine below_set ?_ (IsS206.ge HI0.out) | refine below_set ?_ GE109.out) | exact HB.out)); rintro e w35 ⟨rfl, hi, hb, hk⟩; refine ⟨_, rfl, ?_⟩; have n0_ := Aside0.mk (Kd.S_mono (Kd.S_keep (IsS206.apartS (show IsS206 w0 _ g s0_0 t117 t118 from by repeat (first | (with_reducible first | exact HI0.out | apply IsS206.alloc | apply IsS206.drewN | apply IsS206.drew | apply IsS206.set_1 | apply IsS206.set_2 | refine IsS206.far ?_ NB0_109.out _) | exact HI0.out)) (by (with_reducible repeat (first | apply Kd.S_alloc | apply Kd.S_drewN | apply Kd.S_drew)); exact HO_3.out) (by decide)) hk (fun _ h => h.2)) (fun _ h => h.1)); have n1_ := Aside0.mk (Kd.R_mono (Kd.R_keep (IsS206.apart (show IsS206 w0 _ g s0_0 t117 t118 from by repeat (first | (with_reducible first | exact HI0.out | apply IsS206.alloc | apply IsS206.drewN | apply IsS206.drew | apply IsS206.set_1 | apply IsS206.set_2 | refine IsS206.far ?_ NB0_109.out _) | exact HI0.out)) (by (with_reducible repeat (first | apply Kd.R_alloc | apply Kd.R_drewN | apply Kd.R_drew)); exact HO_110001.out) (by decide)) hk (fun _ h => h.2)) (fun _ h => h.1)); have n2_ := Aside0.mk (KeepBut.blk hk (g' := gb109) (o := .cells #[.string t106, u110001] 136 (0, 0)) (by (with_reducible repeat (first | refine blk_drewN ?_ _ | refine blk_drew ?_ | refine blk_alloc ?_ _)); exact BK109.out) NB109_0.out (by simp)); have n3_ := Aside0.mk (KeepBut.trans (by repeat (first | (with_reducible first | exact HK.out | apply KeepBut.set_ | apply keep_drewN | apply keep_drew | apply keep_alloc | refine keep_far ?_ GW109.out _) | exact HK.out)) hk (.inl rfl)); have n4_ := Aside0.mk (hb); have n5_ := Aside0.mk (hi); clear HO_3; clear HO_110001; clear BK109; clear HK; clear HB; clear HI0; have HO_3 := n0_; have HO_110001 := n1_; have BK109 := n2_; have HK := n3_; have HB := n4_; have HI0 := n5_; clear n0_ n1_ n2_ n3_ n4_ n5_; (try clear hb); (try clear hb2); (try clear hk); (try clear hi)) | ((with_reducible refine gate_dst (N := 9) rfl ?_); refine box_event ?hg (N := 9) ?hd (cs := #[.string (⟨#[]⟩ : ByteArray), .string (⟨#[]⟩ : ByteArray)]) (t := 145) ?hr ?_; (case hd => rfl); (case hg => rfl); (case hr => first | (go_simp; done) | (go_simp; rfl)); intro gb123 hg w36 hbox hb; have n0_ := Aside0.mk (Kd.S_below (Kd.S_elderB (by (with_reducible repeat (first | apply Kd.S_alloc | apply Kd.S_drewN | apply Kd.S_drew)); exact HO_3.out) gb123 (Nat.le_of_eq hg.symm)) hb); have n1_ := Aside0.mk (Kd.R_below (Kd.R_elderB (by (with_reducible repeat (first | apply Kd.R_alloc | apply Kd.R_drewN | apply Kd.R_drew)); exact HO_110001.out) gb123 (Nat.le_of_eq hg.symm)) hb); have n2_ := Aside0.mk (blk_below (g := gb109) (o := .cells #[.string t106, u110001] 136 (0, 0)) (by (with_reducible repeat (first | refine blk_drewN ?_ _ | refine blk_drew ?_ | refine blk_alloc ?_ _)); exact BK109.out) hb); have n3_ := Aside0.mk (IsS206.below (by repeat (first | (with_reducible first | exact HI0.out | apply IsS206.alloc | apply IsS206.drewN | apply IsS206.drew | apply IsS206.set_1 | apply IsS206.set_2 | refine IsS206.far ?_ NB0_109.out _) | exact HI0.out)) hb); have n4_ := Aside0.mk (KeepBut.trans (by repeat (first | (with_reducible first | exact HK.out | apply KeepBut.set_ | apply keep_drewN | apply keep_drew | apply keep_alloc | refine keep_far ?_ GW109.out _) | exact HK.out)) (KeepBut.of_below hb g none) (.inl rfl)); have n5_ := Aside0.mk (below_step (by repeat (first | (with_reducible first | exact HB.out | apply below_alloc | apply pw_below_drewN | apply below_drew1 | refine below_set ?_ (IsS206.ge HI0.out) | refine below_set ?_ GE109.out) | exact HB.out)) hb); have n6_ := Aside0.mk (hbox); have n7_ := Aside0.mk ((by rw [hg]; exact (keep_size (w := w) (g := g) (row := none) (by repeat (first | (with_reducible first | exact HK.out | apply KeepBut.set_ | apply keep_drewN | apply keep_drew | apply keep_alloc | refine keep_far ?_ GW109.out _) | exact HK.out))) : w.heap.size ≤ gb123)); have n8_ := Aside0.mk ((Nat.le_trans HW0.out (by rw [hg]; exact (keep_size (w := w) (g := g) (row := none) (by repeat (first | (with_reducible first | exact HK.out | apply KeepBut.set_ | apply keep_drewN | apply keep_drew | apply keep_alloc | refine keep_far ?_ GW109.out _) | exact HK.out))) : w.heap.size ≤ gb123) : w0.heap.size ≤ gb123)); have n9_ := Aside0.mk ((by rw [hg]; exact Nat.ne_of_lt (blk_lt (g := gb109) (o := .cells #[.string t106, u110001] 136 (0, 0)) (by (with_reducible repeat (first | refine blk_drewN ?_ _ | refine blk_drew ?_ | refine blk_alloc ?_ _)); exact BK109.out)) : gb109 ≠ gb123)); have n10_ := Aside0.mk ((by rw [hg]; exact Nat.ne_of_gt (blk_lt (g := gb109) (o := .cells #[.string t106, u110001] 136 (0, 0)) (by (with_reducible repeat (first | refine blk_drewN ?_ _ | refine blk_drew ?_ | refine blk_alloc ?_ _)); exact BK109.out)) : gb123 ≠ gb109)); have n11_ := Aside0.mk ((by rw [hg]; exact Nat.ne_of_lt (IsS206.lt (show IsS206 w0 _ g s0_0 t121 t122 from by repeat (first | (with_reducible first | exact HI0.out | apply IsS206.alloc | apply IsS206.drewN | apply IsS206.drew | apply IsS206.set_1 | apply IsS206.set_2 | refine IsS206.far ?_ NB0_109.out _) | exact HI0.out))) : g ≠ gb123)); have n12_ := Aside0.mk ((by rw [hg]; exact Nat.ne_of_gt (IsS206.lt (show IsS206 w0 _ g s0_0 t121 t122 from by repeat (first | (with_reducible first | exact HI0.out | apply IsS206.alloc | apply IsS206.drewN | apply IsS206.drew | apply IsS206.set_1 | apply IsS206.set_2 | refine IsS206.far ?_ NB0_109.out _) | exact HI0.out))) : gb123 ≠ g)); clear HO_3; clear HO_110001; clear BK109; clear HI0; clear HK; clear HB; have HO_3 := n0_; have HO_110001 := n1_; have BK109 := n2_; have HI0 := n3_; have HK := n4_; have HB := n5_; have BK123 := n6_; have GW123 := n7_; have GE123 := n8_; have NB109_123 := n9_; have NB123_109 := n10_; have NB0_123 := n11_; have NB123_0 := n12_; clear n0_ n1_ n2_ n3_ n4_ n5_ n6_ n7_ n8_ n9_ n10_ n11_ n12_; clear hb hbox hg; have hnb37 := NB123_109.out; have hnc37 := NB109_123.out; have hnb38 := NB123_0.out; have hnc38 := NB0_123.out; have hcz39_0 : w36.cell? ⟨gb123, 0, none⟩ = some (.string (⟨#[]⟩ : ByteArray)) := (blk_cell BK123.out 0).trans rfl; have hcz39_1 : w36.cell? ⟨gb123, 1, none⟩ = some (.string (⟨#[]⟩ : ByteArray)) := (blk_cell BK123.out 1).trans rfl; have hfz39_0 := blk_frozen BK123.out 0; have hfz39_1 := blk_frozen BK123.out 1) | ((with_reducible refine gate_callee (f := 147) rfl ?_); refine goesL_ (some 36) rfl rfl Try.func147 (by kernel_rfl) rfl #[.pointer (some ⟨g, 0, none⟩)] rfl (by (try simp only [List.map_toArray, List.map_cons, List.map_nil]); first | done | rfl | (simp only [List.length_drop, List.length_take]; rfl)) ?_; (with_reducible refine (pack_Reader_Left.calls g s0_0 t121 t122 t124 t125 t126 w0 _ ?side1 ?side2 A19.out).mono ?_); (case side1 => repeat (first | (with_reducible first | exact HI0.out | apply IsS206.alloc | apply IsS206.drewN | apply IsS206.drew | apply IsS206.set_1 | apply IsS206.set_2 | refine IsS206.far ?_ NB0_109.out _ | refine IsS206.far ?_ NB0_123.out _) | exact HI0.out)); (case side2 => repeat (first | (with_reducible first | exact HB.out | apply below_alloc | apply pw_below_drewN | apply below_drew1 | refine below_set ?_ (IsS206.ge HI0.out) | refine below_set ?_ GE109.out | refine below_set ?_ GE123.out) | exact HB.out)); rintro e w40 ⟨rfl, hi, hb, hk⟩; refine ⟨_, rfl, ?_⟩; have n0_ := Aside0.mk (Kd.S_mono (Kd.S_keep (IsS206.apartS (show IsS206 w0 _ g s0_0 t121 t122 from by repeat (first | (with_reducible first | exact HI0.out | apply IsS206.alloc | apply IsS206.drewN | apply IsS206.drew | apply IsS206.set_1 | apply IsS206.set_2 | refine IsS206.far ?_ NB0_109.out _ | refine IsS206.far ?_ NB0_123.out _) | exact HI0.out)) (by (with_reducible repeat (first | apply Kd.S_alloc | apply Kd.S_drewN | apply Kd.S_drew)); exact (Kd.S_mono (Kd.S_far (p := ⟨gb123, 1, none⟩) (Kd.S_far (p := ⟨gb123, 0, none⟩) (Kd.S_mono HO_3.out (fun k_ hk => (⟨hk, hk.2⟩ : _ ∧ k_ ≠ gb123))) (fun _ hk => hk.2) (.string t119)) (fun _ hk => hk.2) (.string t120)) (fun _ h_ => h_.1))) (by decide)) hk (fun _ h => h.2)) (fun _ h => h.1)); have n1_ := Aside0.mk (Kd.R_mono (Kd.R_keep (IsS206.apart (show IsS206 w0 _ g s0_0 t121 t122 from by repeat (first | (with_reducible first | exact HI0.out | apply IsS206.alloc | apply IsS206.drewN | apply IsS206.drew | apply IsS206.set_1 | apply IsS206.set_2 | refine IsS206.far ?_ NB0_109.out _ | refine IsS206.far ?_ NB0_123.out _) | exact HI0.out)) (by (with_reducible repeat (first | apply Kd.R_alloc | apply Kd.R_drewN | apply Kd.R_drew)); exact (Kd.R_mono (Kd.R_far (p := ⟨gb123, 1, none⟩) (Kd.R_far (p := ⟨gb123, 0, none⟩) (Kd.R_mono HO_110001.out (fun k_ hk => (⟨hk, hk.2⟩ : _ ∧ k_ ≠ gb123))) (fun _ hk => hk.2) (.string t119)) (fun _ hk => hk.2) (.string t120)) (fun _ h_ => h_.1))) (by decide)) hk (fun _ h => h.2)) (fun _ h => h.1)); have n2_ := Aside0.mk (KeepBut.blk hk (g' := gb109) (o := .cells #[.string t106, u110001] 136 (0, 0)) (by (with_reducible repeat (first | refine blk_drewN ?_ _ | refine blk_drew ?_ | refine blk_alloc ?_ _)); refine blk_far ?_ NB109_123.out _; (with_reducible repeat (first | refine blk_drewN ?_ _ | refine blk_drew ?_ | refine blk_alloc ?_ _)); refine blk_far ?_ NB109_123.out _; (with_reducible repeat (first | refine blk_drewN ?_ _ | refine blk_drew ?_ | refine blk_alloc ?_ _)); exact BK109.out) NB109_0.out (by simp)); have n3_ := Aside0.mk (KeepBut.blk hk (g' := gb123) (o := .cells #[.string t119, .string t120] 145 (0, 0)) (by (with_reducible repeat (first | refine blk_drewN ?_ _ | refine blk_drew ?_ | refine blk_alloc ?_ _)); refine blk_put (cs := #[.string t119, .string (⟨#[]⟩ : ByteArray)]) ?_ 1 _ rfl; (with_reducible repeat (first | refine blk_drewN ?_ _ | refine blk_drew ?_ | refine blk_alloc ?_ _)); refine blk_put (cs := #[.string (⟨#[]⟩ : ByteArray), .string (⟨#[]⟩ : ByteArray)]) ?_ 0 _ rfl; (with_reducible repeat (first | refine blk_drewN ?_ _ | refine blk_drew ?_ | refine blk_alloc ?_ _)); exact BK123.out) NB123_0.out (by simp)); have n4_ := Aside0.mk (KeepBut.trans (by repeat (first | (with_reducible first | exact HK.out | apply KeepBut.set_ | apply keep_drewN | apply keep_drew | apply keep_alloc | refine keep_far ?_ GW109.out _ | refine keep_far ?_ GW123.out _) | exact HK.out)) hk (.inl rfl)); have n5_ := Aside0.mk (hb); have n6_ := Aside0.mk (hi); clear HO_3; clear HO_110001; clear BK109; clear BK123; clear HK; clear HB; clear HI0; have HO_3 := n0_; have HO_110001 := n1_; have BK109 := n2_; have BK123 := n3_; have HK := n4_; have HB := n5_; have HI0 := n6_; clear n0_ n1_ n2_ n3_ n4_ n5_ n6_; (try clear hb); (try clear hb2); (try clear hk); (try clear hi); have hnb41 := NB109_0.out; have hnc41 := NB0_109.out; have hcz42_0 : w40.cell? ⟨gb109, 0, none⟩ = some (.string t106) := (blk_cell BK109.out 0).trans rfl; have hcz42_1 : w40.cell? ⟨gb109, 1, none⟩ = some (u110001) := (blk_cell BK109.out 1).trans rfl; have hfz42_0 := blk_frozen BK109.out 0; have hfz42_1 := blk_frozen BK109.out 1; have hcz43_0 : w40.cell? ⟨gb123, 0, none⟩ = some (.string t119) := (blk_cell BK123.out 0).trans rfl; have hcz43_1 : w40.cell? ⟨gb123, 1, none⟩ = some (.string t120) := (blk_cell BK123.out 1).trans rfl; have hfz43_0 := blk_frozen BK123.out 0; have hfz43_1 := blk_frozen BK123.out 1) | ((with_reducible refine gate_builtin (b := .append) (xs := #[.tmp 40, .tmp 42]) rfl ?_); at_builtin; refine Kd.R_append k145 w.heap.size rfl (.tmp 40) (.tmp 42) 51 145 (.agg #[(.string ⟨#[]⟩), (.string ⟨#[]⟩)]) 32 rfl Try.underlying51 info145 rfl (by decide) (by omega) u110001 x110001_2 (⟨t119, t120⟩ : S145) [.string t119, .string t120] (fun k_ => k_ ≠ gb123) (fun _ => False) rfl rfl ?aP (fun _ hk => hk.elim) ?aF ?aO (Below.refl _ _) ?aS ?aL ?_; (case aP => exact k145_mkM _ _ _ (⟨t119, t120⟩ : S145)); (case aF => exact (fun k_ hk => Kd.freshB (g := gb123) (o := .cells #[.string t119, .string t120] 145 (0, 0)) (by (with_reducible repeat (first | refine blk_drewN ?_ _ | refine blk_drew ?_ | refine blk_alloc ?_ _)); exact BK123.out) k_ hk)); (case aO => exact (by (with_reducible repeat (first | apply Kd.R_alloc | apply Kd.R_drewN | apply Kd.R_drew)); exact Kd.R_mono HO_110001.out (fun _ hk => hk.2))); (case aS => exact (keep_size (w := w) (g := g) (row := none) (by repeat (first | (with_reducible first | exact HK.out | apply KeepBut.set_ | apply keep_drewN | apply keep_drew | apply keep_alloc | refine keep_far ?_ GW109.out _ | refine keep_far ?_ GW123.out _) | exact HK.out)))); (case aL => have := LMc33.out; omega); intro v131 w44 ho hb hg hat; rw [← Ny130.out] at ho; have n0_ := Aside0.mk (Kd.S_after (ok := (fun k_ => k_ ≠ gb109 ∧ k_ ≠ gb123)) (by (with_reducible repeat (first | apply Kd.S_alloc | apply Kd.S_drewN | apply Kd.S_drew)); exact Kd.S_mono HO_3.out (fun _ hk => ⟨⟨hk.1.2, hk.2⟩, hk.1.1⟩)) hg hat); have n1_ := Aside0.mk (blk_grown (g := gb109) (o := .cells #[.string t106, u110001] 136 (0, 0)) (by (with_reducible repeat (first | refine blk_drewN ?_ _ | refine blk_drew ?_ | refine blk_alloc ?_ _)); exact BK109.out) hg (Kd.R_ne HO_110001.out BK109.out (by decide))); have n2_ := Aside0.mk (IsS206.grown (by repeat (first | (with_reducible first | exact HI0.out | apply IsS206.alloc | apply IsS206.drewN | apply IsS206.drew | apply IsS206.set_1 | apply IsS206.set_2 | refine IsS206.far ?_ NB0_109.out _ | refine IsS206.far ?_ NB0_123.out _) | exact HI0.out)) hg (IsS206.own_ne HI0.out HO_110001.out (by decide))); have n3_ := Aside0.mk (blk_grown (g := gb123) (o := .cells #[.string t119, .string t120] 145 (0, 0)) (by (with_reducible repeat (first | refine blk_drewN ?_ _ | refine blk_drew ?_ | refine blk_alloc ?_ _)); exact BK123.out) hg (Kd.R_away HO_110001.out (fun _ hk => hk.2))); have n4_ := Aside0.mk (below_weaken (by repeat (first | (with_reducible first | exact HB.out | apply below_alloc | apply pw_below_drewN | apply below_drew1 | refine below_set ?_ (IsS206.ge HI0.out) | refine below_set ?_ GE109.out | refine below_set ?_ GE123.out) | exact HB.out)) HL.out hb); have n5_ := Aside0.mk (KeepBut.trans (by repeat (first | (with_reducible first | exact HK.out | apply KeepBut.set_ | apply keep_drewN | apply keep_drew | apply keep_alloc | refine keep_far ?_ GW109.out _ | refine keep_far ?_ GW123.out _) | exact HK.out)) (KeepBut.of_grown hg g) (Kd.R_base2 HO_110001.out)); have n6_ := Aside0.mk (ho); clear HO_3; clear BK109; clear HI0; clear BK123; clear HB; clear HK; clear HO_110001; have HO_3 := n0_; have BK109 := n1_; have HI0 := n2_; have BK123 := n3_; have HB := n4_; have HK := n5_; have HO132 := n6_; clear n0_ n1_ n2_ n3_ n4_ n5_ n6_; clear ho hb hg hat; obtain ⟨Ao45, co45, eo45⟩ := Kd.R_slice HO132.out; subst eo45; have hcz46_0 : w44.cell? ⟨gb109, 0, none⟩ = some (.string t106) := (blk_cell BK109.out 0).trans rfl; have hcz46_1 : w44.cell? ⟨gb109, 1, none⟩ = some (u110001) := (blk_cell BK109.out 1).trans rfl; have hfz46_0 := blk_frozen BK109.out 0; have hfz46_1 := blk_frozen BK109.out 1; have hcz47_0 : w44.cell? ⟨gb123, 0, none⟩ = some (.string t119) := (blk_cell BK123.out 0).trans rfl; have hcz47_1 : w44.cell? ⟨gb123, 1, none⟩ = some (.string t120) := (blk_cell BK123.out 1).trans rfl; have hfz47_0 := blk_frozen BK123.out 0; have hfz47_1 := blk_frozen BK123.out 1))
                    go_roundg k2
                    case measure => have := HK1.out; have := HK2.out; omega
                    case rel => exact ⟨(t119), ((x7_2 - 1) % 4294967296), (t125), (t126), (y130), (.slice Ao45 y130.length co45), (by first | rfl | (simp; done) | (simp [*]; done)), (by first | rfl | (simp; done) | (simp [*]; done)), H', ⟨by have := HK1.out; have := HK2.out; omega⟩, ⟨by (with_reducible repeat (first | apply Kd.S_alloc | apply Kd.S_drewN | apply Kd.S_drew)); exact Kd.S_mono (Kd.S_far (p := ⟨gb109, 1, none⟩) (Kd.S_mono HO_3.out (fun k_ hk => (⟨hk, hk.1.1⟩ : _ ∧ k_ ≠ gb109))) (fun _ hk => hk.2) (.slice Ao45 y130.length co45)) (fun _ hk => ⟨hk.1.2, hk.1.1.1⟩)⟩, ⟨by (with_reducible repeat (first | apply Kd.R_alloc | apply Kd.R_drewN | apply Kd.R_drew)); exact Kd.R_mono (Kd.R_far (p := ⟨gb109, 1, none⟩) (Kd.R_types HO132.out BK109.out (by decide)) (fun _ hk => hk.2) (.slice Ao45 y130.length co45)) (fun _ hk => trivial)⟩, ⟨by (with_reducible repeat (first | refine blk_drewN ?_ _ | refine blk_drew ?_ | refine blk_alloc ?_ _)); refine blk_put (cs := #[.string t106, u110001]) ?_ 1 _ rfl; (with_reducible repeat (first | refine blk_drewN ?_ _ | refine blk_drew ?_ | refine blk_alloc ?_ _)); exact BK109.out⟩, ⟨by repeat (first | (with_reducible first | exact HI0.out | apply IsS206.alloc | apply IsS206.drewN | apply IsS206.drew | apply IsS206.set_1 | apply IsS206.set_2 | refine IsS206.far ?_ NB0_109.out _ | refine IsS206.far ?_ NB0_123.out _) | exact HI0.out)⟩, ⟨by repeat (first | (with_reducible first | exact HK.out | apply KeepBut.set_ | apply keep_drewN | apply keep_drew | apply keep_alloc | refine keep_far ?_ GW109.out _ | refine keep_far ?_ GW123.out _) | exact HK.out)⟩, ⟨by repeat (first | (with_reducible first | exact HB.out | apply below_alloc | apply pw_below_drewN | apply below_drew1 | refine below_set ?_ (IsS206.ge HI0.out) | refine below_set ?_ GE109.out | refine below_set ?_ GE123.out) | exact HB.out)⟩⟩
                  · rw [if_neg c33] at H
                    exact absurd H (by simp)
              · rw [if_neg c16] at H
                have c16b0 : decide (0 < x7_2) = false := decide_eq_false c16
                clear c16
                by_cases c48 : x3_1.length < 3518437208883
                · rw [if_pos c48] at H
                  have LMc48 := Aside0.mk c48
                  clear c48
                  obtain ⟨y113, hy113⟩ : ∃ y_ : List (S136), y_ = (x3_1 ++ [(⟨t106, x110001_2⟩ : S136)]) := ⟨_, rfl⟩
                  replace H : (dump_volumes.l0 k2 y113 (wrap64 (t101)) (wrap64 (x19_1 + 1)) s0_0 x1001_2 x1002_2) = some (r1, r2, r3) := by first | (rw [hy113]; with_reducible exact H) | (have H2_ := (Option.bind_some _ _).symm.trans H; rw [hy113]; with_reducible exact H2_) | (have H2_ := (Option.bind_some _ _).symm.trans H; with_reducible exact H2_) | with_reducible exact H | (rw [hy113]; exact H) | exact H
                  have Ny113 := Aside0.mk hy113
                  clear hy113
                  have H' := Aside0.mk H
                  clear H
                  have hnb49 := NB109_0.out
                  have hnc49 := NB0_109.out
                  have hcz50_0 : wr.cell? ⟨gb109, 0, none⟩ = some (.string t106) := (blk_cell BK109.out 0).trans rfl
                  have hcz50_1 : wr.cell? ⟨gb109, 1, none⟩ = some (u110001) := (blk_cell BK109.out 1).trans rfl
                  have hfz50_0 := blk_frozen BK109.out 0
                  have hfz50_1 := blk_frozen BK109.out 1
                  obtain ⟨Ao52, co52, eo52⟩ := Kd.R_slice HO_110001.out
                  subst eo52
                  go_wp2_with (first | ((with_reducible refine gate_builtin (b := .append) (xs := #[.tmp 47, .tmp 49]) rfl ?_); at_builtin; refine Kd.S_append k136 w.heap.size rfl (.tmp 47) (.tmp 49) 33 136 (.agg #[(.string ⟨#[]⟩), (.slice none 0 0)]) 40 rfl Try.underlying33 info136 rfl (by decide) (by omega) u3 x3_1 (⟨t106, x110001_2⟩ : S136) [.string t106, .slice Ao52 x110001_2.length co52] (fun k_ => k_ ≠ gb109) (fun k_ => some k_ = (.slice Ao52 x110001_2.length co52 : Value).ownBlock) rfl rfl ?aP (fun k_ hk_ => ((Kd.R_mono (ok' := fun k_ => ((fun k_ => k_ ≠ gb109)) k_ ∧ some k_ ≠ (u3 : Value).ownBlock) (Kd.R_types (Kd.R_apart' (HO_110001.out) (Kd.S_typed HO_3.out) (by decide)) BK109.out (by decide)) (fun k_ hk => ⟨hk.2, hk.1.2⟩))).1 k_ hk_.symm) ?aF ?aO (Below.refl _ _) ?aS ?aL ?_; (case aP => exact k136_mkM _ _ _ (⟨t106, x110001_2⟩ : S136) (Kd.R_mono (Kd.R_tight rfl (Kd.R_mono (ok' := fun k_ => ((fun k_ => k_ ≠ gb109)) k_ ∧ some k_ ≠ (u3 : Value).ownBlock) (Kd.R_types (Kd.R_apart' (HO_110001.out) (Kd.S_typed HO_3.out) (by decide)) BK109.out (by decide)) (fun k_ hk => ⟨hk.2, hk.1.2⟩))) (fun _ h_ => h_))); (case aF => exact (fun k_ hk => Kd.freshB (g := gb109) (o := .cells #[.string t106, .slice Ao52 x110001_2.length co52] 136 (0, 0)) (by (with_reducible repeat (first | refine blk_drewN ?_ _ | refine blk_drew ?_ | refine blk_alloc ?_ _)); exact BK109.out) k_ hk)); (case aO => exact (by (with_reducible repeat (first | apply Kd.S_alloc | apply Kd.S_drewN | apply Kd.S_drew)); exact Kd.S_mono HO_3.out (fun k_ hk => ⟨hk.2, fun e_ => hk.1 e_⟩))); (case aS => exact (keep_size (w := w) (g := g) (row := none) (by repeat (first | (with_reducible first | exact HK.out | apply KeepBut.set_ | apply keep_drewN | apply keep_drew | apply keep_alloc | refine keep_far ?_ GW109.out _) | exact HK.out)))); (case aL => have := LMc48.out; omega); intro v114 w51 ho hb hg hat; rw [← Ny113.out] at ho; have n0_ := Aside0.mk (blk_grown (g := gb109) (o := .cells #[.string t106, .slice Ao52 x110001_2.length co52] 136 (0, 0)) (by (with_reducible repeat (first | refine blk_drewN ?_ _ | refine blk_drew ?_ | refine blk_alloc ?_ _)); exact BK109.out) hg (Kd.S_away HO_3.out (fun _ hk => hk.2))); have n1_ := Aside0.mk (IsS206.grown (by repeat (first | (with_reducible first | exact HI0.out | apply IsS206.alloc | apply IsS206.drewN | apply IsS206.drew | apply IsS206.set_1 | apply IsS206.set_2 | refine IsS206.far ?_ NB0_109.out _) | exact HI0.out)) hg (IsS206.own_neS HI0.out HO_3.out (by decide))); have n2_ := Aside0.mk (below_weaken (by repeat (first | (with_reducible first | exact HB.out | apply below_alloc | apply pw_below_drewN | apply below_drew1 | refine below_set ?_ (IsS206.ge HI0.out) | refine below_set ?_ GE109.out) | exact HB.out)) HL.out hb); have n3_ := Aside0.mk (KeepBut.trans (by repeat (first | (with_reducible first | exact HK.out | apply KeepBut.set_ | apply keep_drewN | apply keep_drew | apply keep_alloc | refine keep_far ?_ GW109.out _) | exact HK.out)) (KeepBut.of_grown hg g) (Kd.S_base2 HO_3.out)); have n4_ := Aside0.mk (ho); clear BK109; clear HI0; clear HB; clear HK; clear HO_3; clear HO_110001; have BK109 := n0_; have HI0 := n1_; have HB := n2_; have HK := n3_; have HO115 := n4_; clear n0_ n1_ n2_ n3_ n4_; clear ho hb hg hat))
                  go_roundg k2
                  case measure => have := HK1.out; have := HK2.out; omega
                  case rel => exact ⟨(y113), (wrap64 (x19_1 + 1)), (x1001_2), (x1002_2), (by first | rfl | (simp; done) | (simp [*]; done)), H', ⟨by have := HK1.out; have := HK2.out; omega⟩, ⟨by (with_reducible repeat (first | apply Kd.S_alloc | apply Kd.S_drewN | apply Kd.S_drew)); exact Kd.S_mono HO115.out (fun _ hk => trivial)⟩, ⟨by repeat (first | (with_reducible first | exact HI0.out | apply IsS206.alloc | apply IsS206.drewN | apply IsS206.drew | apply IsS206.set_1 | apply IsS206.set_2 | refine IsS206.far ?_ NB0_109.out _) | exact HI0.out)⟩, ⟨by repeat (first | (with_reducible first | exact HK.out | apply KeepBut.set_ | apply keep_drewN | apply keep_drew | apply keep_alloc | refine keep_far ?_ GW109.out _) | exact HK.out)⟩, ⟨by repeat (first | (with_reducible first | exact HB.out | apply below_alloc | apply pw_below_drewN | apply below_drew1 | refine below_set ?_ (IsS206.ge HI0.out) | refine below_set ?_ GE109.out) | exact HB.out)⟩⟩
                · rw [if_neg c48] at H
                  exact absurd H (by simp)
        · rw [if_neg c8] at H
          have c8b0 : decide (x19_1 < (wrap64 (t101))) = false := decide_eq_false c8
          clear c8
          simp only [Option.some.injEq, Prod.mk.injEq] at H
          obtain ⟨rfl, rfl, rfl⟩ := H
          go_wp2
          go_ret
          exact ⟨_, by first | rfl | (simp [errW_none, errW_some] <;> rfl) | (simp [*, errW_none, errW_some] <;> rfl), by (with_reducible repeat (first | apply Kd.S_alloc | apply Kd.S_drewN | apply Kd.S_drew)); exact HO_3.out, by repeat (first | (with_reducible first | exact HI0.out | apply IsS206.alloc | apply IsS206.drewN | apply IsS206.drew | apply IsS206.set_1 | apply IsS206.set_2) | exact HI0.out), by repeat (first | (with_reducible first | exact HB.out | apply below_alloc | apply pw_below_drewN | apply below_drew1 | refine below_set ?_ (IsS206.ge HI0.out)) | exact HB.out), by repeat (first | (with_reducible first | exact HK.out | apply KeepBut.set_ | apply keep_drewN | apply keep_drew | apply keep_alloc) | exact HK.out)⟩

end Go.Proofs.Ytfdemnefkfkghaa.X
namespace Go.Proofs.Ytfdemnefkfkghaa.X
open Go.RowKit Go.Proofs.YtfdemnefkfkghaaW.PrintWords Go.Proofs.YtfdemnefkfkghaaW.PrintLast Go.Proofs.YtfdemnefkfkghaaW.PrintMore
attribute [local go_sem] max2_int min2_int max_two min_two max_three min_three max_four min_four   -- for this text's walks alone
attribute [local go_sem high] Go.Proofs.Ytfdemnefkfkghaa.XW.leq Go.Proofs.Ytfdemnefkfkghaa.XW.gtr Go.Proofs.Ytfdemnefkfkghaa.XW.geq
set_option linter.unusedVariables false
set_option linter.unusedSimpArgs false

def pack_Reader_End.f (s0_0 : List Int) (s0_1 : Int) (s0_2 : Int) : Option (Int × Int × Int) := if s0_2 = 0 then (if s0_1 < (s0_0.length : Int) then (some (4, s0_1, s0_2)) else (some (s0_2, s0_1, s0_2))) else (some (s0_2, s0_1, s0_2))
set_option maxHeartbeats 8000000 in
set_option maxRecDepth 100000 in
theorem pack_Reader_End.calls (g : Nat) (s0_0 : List Int) (s0_1 : Int) (s0_2 : Int) (r1 : Int) (r2 : Int) (r3 : Int) (w0 w : World) (hI : IsS206 w0 w g s0_0 s0_1 s0_2) (hB : Below w0.heap.size w0 w) (h : pack_Reader_End.f s0_0 s0_1 s0_2 = some (r1, r2, r3)) :
    Calls Try.prog 77 #[.pointer (some ⟨g, 0, none⟩)] w fun e w' => e = .returned (.int .i64 r1) ∧ IsS206 w0 w' g s0_0 r2 r3 ∧ Below w0.heap.size w0 w' ∧ KeepBut w w' g none := by
  have HI0 := Aside0.mk hI
  have HK := Aside0.mk (KeepBut.refl w g none)
  have HL := Aside0.mk hB.size
  clear hI
  have HW0 := Aside0.mk hB.size
  have HB := Aside0.mk hB
  clear hB
  have H : (if s0_2 = 0 then (if s0_1 < (s0_0.length : Int) then (some (4, s0_1, s0_2)) else (some (s0_2, s0_1, s0_2))) else (some (s0_2, s0_1, s0_2))) = some (r1, r2, r3) := h
  clear h
  by_cases c2 : s0_2 = 0
  · rw [if_pos c2] at H
    have c2b0 : (s0_2 == 0) = true := beq_iff_eq.mpr c2
    have c2b1 : (s0_2 != 0) = false := bne_eq_false_iff_eq.mpr c2
    clear c2
    by_cases c3 : s0_1 < (s0_0.length : Int)
    · rw [if_pos c3] at H
      have c3b0 : decide (s0_1 < (s0_0.length : Int)) = true := decide_eq_true c3
      clear c3
      simp only [Option.some.injEq, Prod.mk.injEq] at H
      obtain ⟨rfl, rfl, rfl⟩ := H
      obtain ⟨ASz4_0, cSz4_0, HGz4, hgz4, HSz4_0⟩ := HI0.out
      have hcz4_0 := cellS206_0 HGz4
      have hcz4_1 := cellS206_1 HGz4
      have hcz4_2 := cellS206_2 HGz4
      have hfz4_1 := blk_frozen HGz4 1
      have hfz4_2 := blk_frozen HGz4 2
      clear HGz4 hgz4
      go_enter Try.func77, Try.ntmps77
      go_wp2
      repeat (go_quiet (fail); try go_wp2)
      go_ret
      exact ⟨by first | rfl | (simp [errW_none, errW_some] <;> rfl) | (simp [*, errW_none, errW_some] <;> rfl), by repeat (first | (with_reducible first | exact HI0.out | apply IsS206.alloc | apply IsS206.drewN | apply IsS206.drew | apply IsS206.set_1 | apply IsS206.set_2) | exact HI0.out), by repeat (first | (with_reducible first | exact HB.out | apply below_alloc | apply pw_below_drewN | apply below_drew1 | refine below_set ?_ (IsS206.ge HI0.out)) | exact HB.out), by repeat (first | (with_reducible first | exact HK.out | apply KeepBut.set_ | apply keep_drewN | apply keep_drew | apply keep_alloc) | exact HK.out)⟩
    · rw [if_neg c3] at H
      have c3b0 : decide (s0_1 < (s0_0.length : Int)) = false := decide_eq_false c3
      clear c3
      simp only [Option.some.injEq, Prod.mk.injEq] at H
      obtain ⟨rfl, rfl, rfl⟩ := H
      obtain ⟨ASz5_0, cSz5_0, HGz5, hgz5, HSz5_0⟩ := HI0.out
      have hcz5_0 := cellS206_0 HGz5
      have hcz5_1 := cellS206_1 HGz5
      have hcz5_2 := cellS206_2 HGz5
      have hfz5_1 := blk_frozen HGz5 1
      have hfz5_2 := blk_frozen HGz5 2
      clear HGz5 hgz5
      go_enter Try.func77, Try.ntmps77
      go_wp2
      repeat (go_quiet (fail); try go_wp2)
      go_ret
      exact ⟨by first | rfl | (simp [errW_none, errW_some] <;> rfl) | (simp [*, errW_none, errW_some] <;> rfl), by repeat (first | (with_reducible first | exact HI0.out | apply IsS206.alloc | apply IsS206.drewN | apply IsS206.drew | apply IsS206.set_1 | apply IsS206.set_2) | exact HI0.out), by repeat (first | (with_reducible first | exact HB.out | apply below_alloc | apply pw_below_drewN | apply below_drew1 | refine below_set ?_ (IsS206.ge HI0.out)) | exact HB.out), by repeat (first | (with_reducible first | exact HK.out | apply KeepBut.set_ | apply keep_drewN | apply keep_drew | apply keep_alloc) | exact HK.out)⟩
  · rw [if_neg c2] at H
    have c2b0 : (s0_2 == 0) = false := beq_eq_false_iff_ne.mpr c2
    have c2b1 : (s0_2 != 0) = true := bne_iff_ne.mpr c2
    simp only [Option.some.injEq, Prod.mk.injEq] at H
    obtain ⟨rfl, rfl, rfl⟩ := H
    obtain ⟨ASz6_0, cSz6_0, HGz6, hgz6, HSz6_0⟩ := HI0.out
    have hcz6_0 := cellS206_0 HGz6
    have hcz6_1 := cellS206_1 HGz6
    have hcz6_2 := cellS206_2 HGz6
    have hfz6_1 := blk_frozen HGz6 1
    have hfz6_2 := blk_frozen HGz6 2
    clear HGz6 hgz6
    go_enter Try.func77, Try.ntmps77
    go_wp2
    repeat (go_quiet (fail); try go_wp2)
    go_ret
    exact ⟨by first | rfl | (simp [errW_none, errW_some] <;> rfl) | (simp [*, errW_none, errW_some] <;> rfl), by repeat (first | (with_reducible first | exact HI0.out | apply IsS206.alloc | apply IsS206.drewN | apply IsS206.drew | apply IsS206.set_1 | apply IsS206.set_2) | exact HI0.out), by repeat (first | (with_reducible first | exact HB.out | apply below_alloc | apply pw_below_drewN | apply below_drew1 | refine below_set ?_ (IsS206.ge HI0.out)) | exact HB.out), by repeat (first | (with_reducible first | exact HK.out | apply KeepBut.set_ | apply keep_drewN | apply keep_drew | apply keep_alloc) | exact HK.out)⟩

end Go.Proofs.Ytfdemnefkfkghaa.X
namespace Go.Proofs.Ytfdemnefkfkghaa.X
open Go.RowKit Go.Proofs.YtfdemnefkfkghaaW.PrintWords Go.Proofs.YtfdemnefkfkghaaW.PrintLast Go.Proofs.YtfdemnefkfkghaaW.PrintMore
attribute [local go_sem] max2_int min2_int max_two min_two max_three min_three max_four min_four   -- for this text's walks alone
attribute [local go_sem high] Go.Proofs.Ytfdemnefkfkghaa.XW.leq Go.Proofs.Ytfdemnefkfkghaa.XW.gtr Go.Proofs.Ytfdemnefkfkghaa.XW.geq
set_option linter.unusedVariables false
set_option linter.unusedSimpArgs false

def slices_Equal_byte_byte.l0 : Nat → List Int → List Int → Int → Int → Option (Bool)
  | 0, _, _, _, _ => none
  | k + 1, x0, x1, x12, x13 => if x13 < x12 then (if 0 ≤ x13 then (if x13 < (x0.length : Int) then (if x13 < (x1.length : Int) then (if (rd x0 x13) = (rd x1 x13) then (slices_Equal_byte_byte.l0 k x0 x1 x12 (wrap64 (x13 + 1))) else (some false)) else (none)) else (none)) else (none)) else (some true)
def slices_Equal_byte_byte.f (k : Nat) (l0 : List Int) (l1 : List Int) : Option (Bool) := if (l0.length : Int) = (l1.length : Int) then (slices_Equal_byte_byte.l0 k l0 l1 (l0.length : Int) 0) else (some false)
theorem slices_Equal_byte_byte.mono_l : ∀ k, (∀ y0 y1 y2 y3, LeO (slices_Equal_byte_byte.l0 k y0 y1 y2 y3) (slices_Equal_byte_byte.l0 (k + 1) y0 y1 y2 y3))
  | 0 => fun _ _ _ _ r h => by simp [slices_Equal_byte_byte.l0] at h
  | k + 1 => by
    have ih0 := slices_Equal_byte_byte.mono_l k
    · intro y0 y1 y2 y3
      unfold slices_Equal_byte_byte.l0
      repeat' first
      | (with_reducible exact ih0 _ _ _ _)
      | (with_reducible exact LeO.refl _)
      | (with_reducible exact LeO.none _)
      | (with_reducible refine LeO.ite ?_ ?_)
      | (with_reducible refine LeO.bind ?_ (fun _ => ?_))
      | exact ih0 _ _ _ _
      | exact LeO.none _
      | refine LeO.ite ?_ ?_
      | refine LeO.bind ?_ (fun _ => ?_)
theorem slices_Equal_byte_byte.mono : ∀ a0 a1 k, LeO (slices_Equal_byte_byte.f k a0 a1) (slices_Equal_byte_byte.f (k + 1) a0 a1) := by
  intro a0 a1 k
  have ih0 := slices_Equal_byte_byte.mono_l k
  unfold slices_Equal_byte_byte.f
  repeat' first
      | (with_reducible exact ih0 _ _ _ _)
      | (with_reducible exact LeO.refl _)
      | (with_reducible exact LeO.none _)
      | (with_reducible refine LeO.ite ?_ ?_)
      | (with_reducible refine LeO.bind ?_ (fun _ => ?_))
      | exact ih0 _ _ _ _
      | exact LeO.none _
      | refine LeO.ite ?_ ?_
      | refine LeO.bind ?_ (fun _ => ?_)
set_option maxHeartbeats 8000000 in
set_option maxRecDepth 100000 in
theorem slices_Equal_byte_byte.calls (k : Nat) (A0 : Option Addr) (c0 : Nat) (l0 : List Int) (A1 : Option Addr) (c1 : Nat) (l1 : List Int) (r : Bool) (w : World) (hr0 : Kd.C (Kd.int .u8) w A0 l0.length l0) (hc0 : l0.length ≤ c0) (hr1 : Kd.C (Kd.int .u8) w A1 l1.length l1) (hc1 : l1.length ≤ c1) (h : slices_Equal_byte_byte.f k l0 l1 = some r) :
    Calls Try.prog 78 #[.slice A0 l0.length c0, .slice A1 l1.length c1] w fun e w' => e = .returned (.bool r) ∧ Drawn0 w w' := by
  have HR0 := Aside0.mk hr0
  have HC0 := Aside0.mk hc0
  clear hr0 hc0
  have HR1 := Aside0.mk hr1
  have HC1 := Aside0.mk hc1
  clear hr1 hc1
  have H : (if (l0.length : Int) = (l1.length : Int) then (slices_Equal_byte_byte.l0 k l0 l1 (l0.length : Int) 0) else (some false)) = some r := h
  clear h
  by_cases c3 : (l0.length : Int) = (l1.length : Int)
  · rw [if_pos c3] at H
    have c3b0 : ((l0.length : Int) == (l1.length : Int)) = true := beq_iff_eq.mpr c3
    have c3b1 : ((l0.length : Int) != (l1.length : Int)) = false := bne_eq_false_iff_eq.mpr c3
    have c3b2 : (l0.length == l1.length) = true := by first | simpa using c3 | (simp at c3 ⊢; omega)
    clear c3
    have H' := Aside0.mk H
    clear H
    go_enter Try.func78, Try.ntmps78
    go_wp2
    repeat (go_quiet (fail); try go_wp2)
    go_loopg [13] k (fun kq v13 w' => ∃ (x13_1 : Int), v13 = .int .i64 x13_1 ∧ Aside0 (slices_Equal_byte_byte.l0 kq l0 l1 (l0.length : Int) x13_1 = some r) ∧ Aside0 (kq ≤ k) ∧ Drawn0 w w')
    case atStart => exact ⟨(0), (by first | rfl | (simp; done) | (simp [*]; done)), H', ⟨Nat.le_refl _⟩, by repeat (first | exact Drawn0.refl _ | apply Drawn0.step)⟩
    case round =>
      clear H'
      try clear c1
      try clear p2
      try clear c3
      try clear c3b0
      try clear c3b1
      try clear c3b2
      obtain ⟨x13_1, rfl, HA, HK1, ⟨m1, rfl⟩⟩ := hrel
      cases gk with
      | zero => exact absurd HA.out (by simp [slices_Equal_byte_byte.l0])
      | succ k1 =>
        have H := HA.out
        clear HA
        simp only [slices_Equal_byte_byte.l0] at H
        by_cases c4 : x13_1 < (l0.length : Int)
        · rw [if_pos c4] at H
          have c4b0 : decide (x13_1 < (l0.length : Int)) = true := decide_eq_true c4
          clear c4
          by_cases c5 : 0 ≤ x13_1
          · rw [if_pos c5] at H
            have c5b0 : decide (0 ≤ x13_1) = true := decide_eq_true c5
            clear c5
            by_cases c6 : x13_1 < (l0.length : Int)
            · rw [if_pos c6] at H
              have c6b0 : decide (x13_1 < (l0.length : Int)) = true := decide_eq_true c6
              clear c6
              by_cases c7 : x13_1 < (l1.length : Int)
              · rw [if_pos c7] at H
                have c7b0 : decide (x13_1 < (l1.length : Int)) = true := decide_eq_true c7
                clear c7
                by_cases c8 : (rd l0 x13_1) = (rd l1 x13_1)
                · rw [if_pos c8] at H
                  have c8b0 : ((rd l0 x13_1) == (rd l1 x13_1)) = true := beq_iff_eq.mpr c8
                  have c8b1 : ((rd l0 x13_1) != (rd l1 x13_1)) = false := bne_eq_false_iff_eq.mpr c8
                  clear c8
                  have H' := Aside0.mk H
                  clear H
                  have p101 : 0 ≤ (x13_1 : Int) := of_decide_eq_true (by first | (with_reducible assumption) | assumption)
                  have q101 : x13_1 < (l0.length : Int) := of_decide_eq_true (by first | (with_reducible assumption) | assumption)
                  obtain ⟨ad101, e101, hx101_0⟩ := Kd.at_int HR0.out x13_1 p101 q101
                  cases e101
                  replace p101 := eq_true p101
                  replace q101 := eq_true q101
                  have p102 : 0 ≤ (x13_1 : Int) := of_decide_eq_true (by first | (with_reducible assumption) | assumption)
                  have q102 : x13_1 < (l1.length : Int) := of_decide_eq_true (by first | (with_reducible assumption) | assumption)
                  obtain ⟨ad102, e102, hx102_0⟩ := Kd.at_int HR1.out x13_1 p102 q102
                  cases e102
                  replace p102 := eq_true p102
                  replace q102 := eq_true q102
                  go_wp2
                  repeat (go_quiet (fail); try go_wp2)
                  go_roundg k1
                  case measure => have := HK1.out; omega
                  case rel => exact ⟨(wrap64 (x13_1 + 1)), (by first | rfl | (simp; done) | (simp [*]; done)), H', ⟨by have := HK1.out; omega⟩, by repeat (first | exact Drawn0.refl _ | apply Drawn0.step)⟩
                · rw [if_neg c8] at H
                  have c8b0 : ((rd l0 x13_1) == (rd l1 x13_1)) = false := beq_eq_false_iff_ne.mpr c8
                  have c8b1 : ((rd l0 x13_1) != (rd l1 x13_1)) = true := bne_iff_ne.mpr c8
                  obtain rfl := Option.some.inj H
                  have p101 : 0 ≤ (x13_1 : Int) := of_decide_eq_true (by first | (with_reducible assumption) | assumption)
                  have q101 : x13_1 < (l0.length : Int) := of_decide_eq_true (by first | (with_reducible assumption) | assumption)
                  obtain ⟨ad101, e101, hx101_0⟩ := Kd.at_int HR0.out x13_1 p101 q101
                  cases e101
                  replace p101 := eq_true p101
                  replace q101 := eq_true q101
                  have p102 : 0 ≤ (x13_1 : Int) := of_decide_eq_true (by first | (with_reducible assumption) | assumption)
                  have q102 : x13_1 < (l1.length : Int) := of_decide_eq_true (by first | (with_reducible assumption) | assumption)
                  obtain ⟨ad102, e102, hx102_0⟩ := Kd.at_int HR1.out x13_1 p102 q102
                  cases e102
                  replace p102 := eq_true p102
                  replace q102 := eq_true q102
                  go_wp2
                  repeat (go_quiet (fail); try go_wp2)
                  go_ret
                  exact ⟨by first | rfl | (simp; done) | (simp [*]; done), by repeat (first | exact Drawn0.refl _ | apply Drawn0.step)⟩
              · rw [if_neg c7] at H
                exact absurd H (by simp)
            · rw [if_neg c6] at H
              exact absurd H (by simp)
          · rw [if_neg c5] at H
            exact absurd H (by simp)
        · rw [if_neg c4] at H
          have c4b0 : decide (x13_1 < (l0.length : Int)) = false := decide_eq_false c4
          clear c4
          obtain rfl := Option.some.inj H
          go_wp2
          repeat (go_quiet (fail); try go_wp2)
          go_ret
          exact ⟨by first | rfl | (simp; done) | (simp [*]; done), by repeat (first | exact Drawn0.refl _ | apply Drawn0.step)⟩
  · rw [if_neg c3] at H
    have c3b0 : ((l0.length : Int) == (l1.length : Int)) = false := beq_eq_false_iff_ne.mpr c3
    have c3b1 : ((l0.length : Int) != (l1.length : Int)) = true := bne_iff_ne.mpr c3
    have c3b2 : (l0.length == l1.length) = false := by first | simpa using c3 | (simp at c3 ⊢; omega)
    obtain rfl := Option.some.inj H
    go_enter Try.func78, Try.ntmps78
    go_wp2
    repeat (go_quiet (fail); try go_wp2)
    go_ret
    exact ⟨by first | rfl | (simp; done) | (simp [*]; done), by repeat (first | exact Drawn0.refl _ | apply Drawn0.step)⟩

end Go.Proofs.Ytfdemnefkfkghaa.X
namespace Go.Proofs.Ytfdemnefkfkghaa.X
open Go.RowKit Go.Proofs.YtfdemnefkfkghaaW.PrintWords Go.Proofs.YtfdemnefkfkghaaW.PrintLast Go.Proofs.YtfdemnefkfkghaaW.PrintMore
attribute [local go_sem] max2_int min2_int max_two min_two max_three min_three max_four min_four   -- for this text's walks alone
attribute [local go_sem high] Go.Proofs.Ytfdemnefkfkghaa.XW.leq Go.Proofs.Ytfdemnefkfkghaa.XW.gtr Go.Proofs.Ytfdemnefkfkghaa.XW.geq
set_option linter.unusedVariables false
set_option linter.unusedSimpArgs false

def stringslite_HasPrefix.f (a0 : ByteArray) (a1 : ByteArray) : Option (Bool) := if (a0.size : Int) ≥ (a1.size : Int) then (if 0 ≤ (a1.size : Int) then (if (a1.size : Int) ≤ (a0.size : Int) then (some ((a0.extract 0 ((a1.size : Int) : Int).toNat).toList == a1.toList)) else (none)) else (none)) else (some false)
set_option maxHeartbeats 8000000 in
set_option maxRecDepth 100000 in
theorem stringslite_HasPrefix.calls (a0 : ByteArray) (a1 : ByteArray) (r : Bool) (w : World) (h : stringslite_HasPrefix.f a0 a1 = some r) :
    Calls Try.prog 141 #[.string a0, .string a1] w fun e w' => e = .returned (.bool r) ∧ Drawn0 w w' := by
  have H : (if (a0.size : Int) ≥ (a1.size : Int) then (if 0 ≤ (a1.size : Int) then (if (a1.size : Int) ≤ (a0.size : Int) then (some ((a0.extract 0 ((a1.size : Int) : Int).toNat).toList == a1.toList)) else (none)) else (none)) else (some false)) = some r := h
  clear h
  by_cases c3 : (a0.size : Int) ≥ (a1.size : Int)
  · rw [if_pos c3] at H
    have c3b0 : decide ((a1.size : Int) ≤ (a0.size : Int)) = true := decide_eq_true c3
    have c3b1 : decide (a1.size ≤ a0.size) = true := decide_eq_true (Int.ofNat_le.mp c3)
    clear c3
    by_cases c4 : 0 ≤ (a1.size : Int)
    · rw [if_pos c4] at H
      have c4b0 := eq_true c4
      have c4b1 : decide (0 ≤ (a1.size : Int)) = true := decide_eq_true c4
      clear c4
      by_cases c5 : (a1.size : Int) ≤ (a0.size : Int)
      · rw [if_pos c5] at H
        have c5b0 := eq_true c5
        have c5b1 : decide ((a1.size : Int) ≤ (a0.size : Int)) = true := decide_eq_true c5
        clear c5
        obtain rfl := Option.some.inj H
        go_enter Try.func141, Try.ntmps141
        go_wp2
        go_ret
        exact ⟨by first | rfl | (simp; done) | (simp [*]; done), by repeat (first | exact Drawn0.refl _ | apply Drawn0.step)⟩
      · rw [if_neg c5] at H
        exact absurd H (by simp)
    · rw [if_neg c4] at H
      exact absurd H (by simp)
  · rw [if_neg c3] at H
    have c3b0 : decide ((a1.size : Int) ≤ (a0.size : Int)) = false := decide_eq_false c3
    have c3b1 : decide (a1.size ≤ a0.size) = false := decide_eq_false (fun h => c3 (Int.ofNat_le.mpr h))
    clear c3
    obtain rfl := Option.some.inj H
    go_enter Try.func141, Try.ntmps141
    go_wp2
    go_ret
    exact ⟨by first | rfl | (simp; done) | (simp [*]; done), by repeat (first | exact Drawn0.refl _ | apply Drawn0.step)⟩

end Go.Proofs.Ytfdemnefkfkghaa.X
namespace Go.Proofs.Ytfdemnefkfkghaa.X
open Go.RowKit Go.Proofs.YtfdemnefkfkghaaW.PrintWords Go.Proofs.YtfdemnefkfkghaaW.PrintLast Go.Proofs.YtfdemnefkfkghaaW.PrintMore
attribute [local go_sem] max2_int min2_int max_two min_two max_three min_three max_four min_four   -- for this text's walks alone
attribute [local go_sem high] Go.Proofs.Ytfdemnefkfkghaa.XW.leq Go.Proofs.Ytfdemnefkfkghaa.XW.gtr Go.Proofs.Ytfdemnefkfkghaa.XW.geq
set_option linter.unusedVariables false
set_option linter.unusedSimpArgs false

def strings_HasPrefix.f (a0 : ByteArray) (a1 : ByteArray) : Option (Bool) := (stringslite_HasPrefix.f a0 a1).bind fun t101 => (some t101)
set_option maxHeartbeats 8000000 in
set_option maxRecDepth 100000 in
theorem strings_HasPrefix.calls (a0 : ByteArray) (a1 : ByteArray) (r : Bool) (w : World) (h : strings_HasPrefix.f a0 a1 = some r) :
    Calls Try.prog 74 #[.string a0, .string a1] w fun e w' => e = .returned (.bool r) ∧ Drawn0 w w' := by
  have H : ((stringslite_HasPrefix.f a0 a1).bind fun t101 => (some t101)) = some r := h
  clear h
  replace H := Option.bind_eq_some_iff.mp H
  obtain ⟨t101, A30, H⟩ := H
  replace H : (some t101) = some r := H
  have A3 := Aside0.mk A30
  clear A30
  obtain rfl := Option.some.inj H
  go_enter Try.func74, Try.ntmps74
  go_wp2_with (first | ((with_reducible refine gate_callee (f := 141) rfl ?_); refine goesL_ (some 7) rfl rfl Try.func141 (by kernel_rfl) rfl #[.string a0, .string a1] rfl (by (try simp only [List.map_toArray, List.map_cons, List.map_nil]); first | done | rfl | (simp only [List.length_drop, List.length_take]; rfl)) ?_; (with_reducible refine (stringslite_HasPrefix.calls a0 a1 t101 _ A3.out).mono ?_); rintro e w' ⟨rfl, ⟨nd, rfl⟩⟩; refine ⟨_, rfl, ?_⟩))
  go_ret
  exact ⟨by first | rfl | (simp; done) | (simp [*]; done), by repeat (first | exact Drawn0.refl _ | apply Drawn0.step)⟩

end Go.Proofs.Ytfdemnefkfkghaa.X
namespace Go.Proofs.Ytfdemnefkfkghaa.X
open Go.RowKit Go.Proofs.YtfdemnefkfkghaaW.PrintWords Go.Proofs.YtfdemnefkfkghaaW.PrintLast Go.Proofs.YtfdemnefkfkghaaW.PrintMore
set_option linter.unusedVariables false
set_option linter.unusedSimpArgs false

set_option maxHeartbeats 4000000 in
set_option maxRecDepth 100000 in
/-- A reader is made. -/
theorem pack_New_own (A0 : Option Addr) (c0 : Nat) (l0 : List Int) (w : World) (hr0 : Kd.C (Kd.int .u8) w A0 l0.length l0) (hc0 : l0.length ≤ c0) (hl : l0.length < 140737488355328) :
    Calls Try.prog 75 #[.slice A0 l0.length c0] w fun e w' => ∃ (g : Nat) (w0 : World), e = .returned (.pointer (some ⟨g, 0, none⟩)) ∧ IsS206 w0 w' g l0 0 0 ∧ Below w0.heap.size w0 w' ∧ Below w.heap.size w w0 ∧ w.heap.size ≤ w0.heap.size := by
  have HR0 := Aside0.mk hr0
  have HC0 := Aside0.mk hc0
  have HT : Aside0 (slices_Clone_byte_byte.f l0 = some l0) := ⟨by unfold slices_Clone_byte_byte.f; rw [if_pos hl]⟩
  have hu206 := Try.underlying206
  clear hr0 hc0 hl
  go_enter Try.func75, Try.ntmps75
  go_wp2_with (first | (go_at_call 142; (with_reducible refine (slices_Clone_byte_byte.calls A0 c0 l0 l0 _ HR0.out HC0.out HT.out).mono ?_); rintro e w1 ⟨v, rfl, hR, hb⟩; have HRV := Aside0.mk hR; have HB := Aside0.mk hb; obtain ⟨A, c, ev, hc, hC⟩ := Kd.R_reads hR; subst ev; have HCV := Aside0.mk hc; have HRC := Aside0.mk hC; clear hR hb hc hC))
  go_ret
  exact ⟨_, w1, rfl, by simpa using IsS206.new w1 w1 A c l0 0 0 (Below.refl _ _) HRC.out HCV.out, below_alloc (Below.refl _ _) _, HB.out, HB.out.size⟩

theorem blk_of {w0 W : World} {g : Nat} {f0 : List Int} {f1 f2 : Int} (h : IsS206 w0 W g f0 f1 f2) : W.heap[g]? = some (.cells #[.slice (Classical.choose h) f0.length (Classical.choose (Classical.choose_spec h)), .int .i64 f1, .int .i64 f2] 206 (0, 0)) := (Classical.choose_spec (Classical.choose_spec h)).1
set_option maxHeartbeats 8000000 in
set_option maxRecDepth 100000 in
theorem Get_kind (k : Nat) (ad : Addr) (c0 m : Nat) (l0 : List Int) (w : World) (hm : m + 4 ≤ c0) (hmx : m + 4 ≤ 9223372036854775807) (hF : ∀ W, Below w.heap.size w W → Calls Try.prog 73 #[.slice (some ad) (m + 4) c0] W fun e w' => e = .returned (.bool true) ∧ Below w.heap.size w w') (hcv : ∀ W, Below w.heap.size w W → (convert 31 9 (.slice (some ad) m c0)).run Try.prog W = .ok (.string (strOfNums (l0.take m))) W) (hp : strings_HasPrefix.f (strOfNums (l0.take m)) (⟨#[109, 114, 99, 116]⟩ : ByteArray) = some false) :
    Calls Try.prog 22 #[.slice (some ad) (m + 4) c0] w fun e w' => ∃ v0_ : Value, e = .returned (.tuple #[v0_, .int .i64 7]) ∧ Kd.S k136 136 w' w.heap.size (fun _ => True) v0_ [] ∧ Below w.heap.size w w' := by
  have HFITS := Aside0.mk hF
  have HCV := Aside0.mk hcv
  have q1 : (m ≤ c0) = True := eq_true (by omega)
  have q2 : ((m : Int) ≤ (c0 : Int)) = True := eq_true (by omega)
  have HP := Aside0.mk hp
  clear hp hF hcv
  go_enter Try.func22, Try.ntmps22
  go_wp2_with (first | (go_at_call 73; (with_reducible refine (HFITS.out _ (Below.refl _ _)).mono ?_); rintro e w1 ⟨rfl, hb⟩; have HB := Aside0.mk hb; have hcv := HCV.out _ hb; clear hb) | (go_at_call 74; (with_reducible refine (strings_HasPrefix.calls (strOfNums (l0.take m)) (⟨#[109, 114, 99, 116]⟩ : ByteArray) _ _ HP.out).mono ?_); rintro e w' ⟨rfl, ⟨nd, rfl⟩⟩; have HB2 := Aside0.mk (pw_below_drewN HB.out nd); clear HB; have HB := HB2; clear HB2))
  go_ret2
  exact ⟨_, rfl, Kd.S_nil _ _ _ _ _, (by repeat (first | (with_reducible first | exact HB.out | apply below_alloc | apply pw_below_drewN | apply below_drew1) | exact HB.out))⟩
set_option maxHeartbeats 8000000 in
set_option maxRecDepth 100000 in
theorem Get_sum (c0 len : Nat) (A0 : Option Addr) (w : World) (HB : Aside0 (Below w.heap.size w w)) (HFITS : Aside0 (∀ W, Below w.heap.size w W → Calls Try.prog 73 #[.slice A0 len c0] W fun e w' => e = .returned (.bool false) ∧ Below w.heap.size w w')) :
    Calls Try.prog 22 #[.slice A0 len c0] w fun e w' => ∃ v0_ : Value, e = .returned (.tuple #[v0_, .int .i64 5]) ∧ Kd.S k136 136 w' w.heap.size (fun _ => True) v0_ [] ∧ Below w.heap.size w w' := by
  go_enter Try.func22, Try.ntmps22
  go_wp2_with (first | (go_at_call 73; (with_reducible refine (HFITS.out _ HB.out).mono ?_); rintro e w1 ⟨rfl, hb⟩; clear HB; have HB := Aside0.mk hb; clear hb))
  go_ret2
  exact ⟨_, rfl, Kd.S_nil _ _ _ _ _, (by repeat (first | (with_reducible first | exact HB.out | apply below_alloc | apply pw_below_drewN | apply below_drew1) | exact HB.out))⟩
set_option maxHeartbeats 8000000 in
set_option maxRecDepth 100000 in
theorem Get_end (k : Nat) (ad : Addr) (c0 n : Nat) (l0 seg : List Int) (w : World) (vs : List S136) (at1 e1 e2 at2 e3 : Int) (hm : n + 4 + 4 ≤ c0) (hmx : n + 4 + 4 ≤ 9223372036854775807) (hF : ∀ W, Below w.heap.size w W → Calls Try.prog 73 #[.slice (some ad) (n + 4 + 4) c0] W fun e w' => e = .returned (.bool true) ∧ Below w.heap.size w w') (hcv : ∀ W, Below w.heap.size w W → (convert 31 9 (.slice (some ad) (n + 4) c0)).run Try.prog W = .ok (.string (strOfNums (l0.take (n + 4)))) W) (hp : strings_HasPrefix.f (strOfNums (l0.take (n + 4))) (⟨#[109, 114, 99, 116]⟩ : ByteArray) = some true) (hnew : ∀ W, Below w.heap.size w W → Calls Try.prog 75 #[.slice (some ⟨ad.block, ad.off + 4, none⟩) n (c0 - 4)] W fun e w' => ∃ (g : Nat) (w0 : World), e = .returned (.pointer (some ⟨g, 0, none⟩)) ∧ IsS206 w0 w' g seg 0 0 ∧ Below w0.heap.size w0 w' ∧ Below W.heap.size W w0 ∧ W.heap.size ≤ w0.heap.size) (hV : dump_volumes.f k seg 0 0 = some (vs, at1, e1)) (hE : pack_Reader_End.f seg at1 e1 = some (e2, at2, e3)) (he2 : (e2 != 0) = true) :
    Calls Try.prog 22 #[.slice (some ad) (n + 4 + 4) c0] w fun e w' => ∃ v0_ : Value, e = .returned (.tuple #[v0_, .int .i64 e2]) ∧ Kd.S k136 136 w' w.heap.size (fun _ => True) v0_ [] ∧ Below w.heap.size w w' := by
  have HFITS := Aside0.mk hF
  have HCV := Aside0.mk hcv
  have q1 : (n + 4 ≤ c0) = True := eq_true (by omega)
  have q2 : (((n + 4 : Nat) : Int) ≤ (c0 : Int)) = True := eq_true (by omega)
  have HP := Aside0.mk hp
  have HV := Aside0.mk hV
  have HE := Aside0.mk hE
  have q3 : (c0 = 4) = False := eq_false (by omega)
  have q4 : (n + 4 - 4) = n := by omega
  have HNEW := Aside0.mk hnew
  clear hp hF hcv hnew hV hE
  go_enter Try.func22, Try.ntmps22
  go_wp2_with (first | (go_at_call 73; (with_reducible refine (HFITS.out _ (Below.refl _ _)).mono ?_); rintro e w1 ⟨rfl, hb⟩; have HB := Aside0.mk hb; have hcv := HCV.out _ hb; clear hb) | (go_at_call 74; (with_reducible refine (strings_HasPrefix.calls (strOfNums (l0.take (n + 4))) (⟨#[109, 114, 99, 116]⟩ : ByteArray) _ _ HP.out).mono ?_); rintro e w' ⟨rfl, ⟨nd, rfl⟩⟩; have HB2 := Aside0.mk (pw_below_drewN HB.out nd); clear HB; have HB := HB2; clear HB2) | (go_at_call 75; (with_reducible refine (HNEW.out _ (by exact HB.out)).mono ?_); rintro e w2 ⟨g, wn, rfl, hI, hBn, hBw, hle⟩; have HI := Aside0.mk hI; have HBN := Aside0.mk hBn; have HBW := Aside0.mk (below_then HB.out HB.out.size hBw); have HLE := Aside0.mk (Nat.le_trans HB.out.size hle); have HG := Aside0.mk (Nat.le_trans (Nat.le_trans HB.out.size hle) (IsS206.ge hI)); clear hI hBn hBw hle HB) | (go_at_call 76; (with_reducible refine (dump_volumes.calls k g seg 0 0 vs at1 e1 wn _ HI.out HBN.out HV.out).mono ?_); rintro e w3 ⟨v3, rfl, hS, hI, hBn, hK⟩; have hS2 := Kd.S_lower (Kd.S_newB hS (blk_of HI.out)) (below_then HBW.out HLE.out HBN.out).size; have HS := Aside0.mk hS2; clear HI HBN; have HI := Aside0.mk hI; have HBN := Aside0.mk hBn; clear hS hS2 hI hBn hK) | (go_at_call 77; (with_reducible refine (pack_Reader_End.calls g seg at1 e1 e2 at2 e3 wn _ HI.out HBN.out HE.out).mono ?_); rintro e w4 ⟨rfl, hI, hBn, hK⟩; have HS2 := Aside0.mk (Kd.S_keep HS.out hK (fun _ h => h.2)); clear HI HBN HS; have HS := HS2; clear HS2; have HI := Aside0.mk hI; have HBN := Aside0.mk hBn; have HB := Aside0.mk (below_then HBW.out HLE.out hBn); clear hI hBn hK; obtain ⟨A3, c3, ev3, hc3, hC3⟩ := Kd.S_reads HS.out; subst ev3; have HC3 := Aside0.mk hc3; have HR3 := Aside0.mk hC3; clear hc3 hC3))
  go_ret2
  exact ⟨_, rfl, Kd.S_nil _ _ _ _ _, (by repeat (first | (with_reducible first | exact HB.out | apply below_alloc | apply pw_below_drewN | apply below_drew1) | exact HB.out))⟩
set_option maxHeartbeats 8000000 in
set_option maxRecDepth 100000 in
theorem Get_put (k : Nat) (ad : Addr) (c0 n : Nat) (l0 seg : List Int) (w : World) (vs : List S136) (at1 e1 at2 e3 : Int) (hm : n + 4 + 4 ≤ c0) (hmx : n + 4 + 4 ≤ 9223372036854775807) (hF : ∀ W, Below w.heap.size w W → Calls Try.prog 73 #[.slice (some ad) (n + 4 + 4) c0] W fun e w' => e = .returned (.bool true) ∧ Below w.heap.size w w') (hcv : ∀ W, Below w.heap.size w W → (convert 31 9 (.slice (some ad) (n + 4) c0)).run Try.prog W = .ok (.string (strOfNums (l0.take (n + 4)))) W) (hp : strings_HasPrefix.f (strOfNums (l0.take (n + 4))) (⟨#[109, 114, 99, 116]⟩ : ByteArray) = some true) (hnew : ∀ W, Below w.heap.size w W → Calls Try.prog 75 #[.slice (some ⟨ad.block, ad.off + 4, none⟩) n (c0 - 4)] W fun e w' => ∃ (g : Nat) (w0 : World), e = .returned (.pointer (some ⟨g, 0, none⟩)) ∧ IsS206 w0 w' g seg 0 0 ∧ Below w0.heap.size w0 w' ∧ Below W.heap.size W w0 ∧ W.heap.size ≤ w0.heap.size) (hV : dump_volumes.f k seg 0 0 = some (vs, at1, e1)) (hE : pack_Reader_End.f seg at1 e1 = some (0, at2, e3)) (ag : List Int) (e4 : Int) (hQ : dump_Put.f k vs = some (ag, e4)) (he4 : (e4 != 0) = true) :
    Calls Try.prog 22 #[.slice (some ad) (n + 4 + 4) c0] w fun e w' => ∃ v0_ : Value, e = .returned (.tuple #[v0_, .int .i64 3]) ∧ Kd.S k136 136 w' w.heap.size (fun _ => True) v0_ [] ∧ Below w.heap.size w w' := by
  have HFITS := Aside0.mk hF
  have HCV := Aside0.mk hcv
  have q1 : (n + 4 ≤ c0) = True := eq_true (by omega)
  have q2 : (((n + 4 : Nat) : Int) ≤ (c0 : Int)) = True := eq_true (by omega)
  have HP := Aside0.mk hp
  have HV := Aside0.mk hV
  have HE := Aside0.mk hE
  have q3 : (c0 = 4) = False := eq_false (by omega)
  have q4 : (n + 4 - 4) = n := by omega
  have HNEW := Aside0.mk hnew
  clear hp hF hcv hnew hV hE
  have HQ := Aside0.mk hQ
  clear hQ
  go_enter Try.func22, Try.ntmps22
  go_wp2_with (first | (go_at_call 73; (with_reducible refine (HFITS.out _ (Below.refl _ _)).mono ?_); rintro e w1 ⟨rfl, hb⟩; have HB := Aside0.mk hb; have hcv := HCV.out _ hb; clear hb) | (go_at_call 74; (with_reducible refine (strings_HasPrefix.calls (strOfNums (l0.take (n + 4))) (⟨#[109, 114, 99, 116]⟩ : ByteArray) _ _ HP.out).mono ?_); rintro e w' ⟨rfl, ⟨nd, rfl⟩⟩; have HB2 := Aside0.mk (pw_below_drewN HB.out nd); clear HB; have HB := HB2; clear HB2) | (go_at_call 75; (with_reducible refine (HNEW.out _ (by exact HB.out)).mono ?_); rintro e w2 ⟨g, wn, rfl, hI, hBn, hBw, hle⟩; have HI := Aside0.mk hI; have HBN := Aside0.mk hBn; have HBW := Aside0.mk (below_then HB.out HB.out.size hBw); have HLE := Aside0.mk (Nat.le_trans HB.out.size hle); have HG := Aside0.mk (Nat.le_trans (Nat.le_trans HB.out.size hle) (IsS206.ge hI)); clear hI hBn hBw hle HB) | (go_at_call 76; (with_reducible refine (dump_volumes.calls k g seg 0 0 vs at1 e1 wn _ HI.out HBN.out HV.out).mono ?_); rintro e w3 ⟨v3, rfl, hS, hI, hBn, hK⟩; have hS2 := Kd.S_lower (Kd.S_newB hS (blk_of HI.out)) (below_then HBW.out HLE.out HBN.out).size; have HS := Aside0.mk hS2; clear HI HBN; have HI := Aside0.mk hI; have HBN := Aside0.mk hBn; clear hS hS2 hI hBn hK) | (go_at_call 77; (with_reducible refine (pack_Reader_End.calls g seg at1 e1 0 at2 e3 wn _ HI.out HBN.out HE.out).mono ?_); rintro e w4 ⟨rfl, hI, hBn, hK⟩; have HS2 := Aside0.mk (Kd.S_keep HS.out hK (fun _ h => h.2)); clear HI HBN HS; have HS := HS2; clear HS2; have HI := Aside0.mk hI; have HBN := Aside0.mk hBn; have HB := Aside0.mk (below_then HBW.out HLE.out hBn); clear hI hBn hK; obtain ⟨A3, c3, ev3, hc3, hC3⟩ := Kd.S_reads HS.out; subst ev3; have HC3 := Aside0.mk hc3; have HR3 := Aside0.mk hC3; clear hc3 hC3) | (go_at_call 25; (with_reducible refine (dump_Put.calls k A3 c3 vs ag e4 _ HR3.out HC3.out HQ.out).mono ?_); rintro e w5 ⟨v5, rfl, hR, hb⟩; have HS2 := Aside0.mk (Kd.S_below HS.out hb); have HB2 := Aside0.mk (below_then HB.out HB.out.size hb); clear HS HB; have HS := HS2; have HB := HB2; clear HS2 HB2; obtain ⟨A5, c5, ev5, hc5, hC5⟩ := Kd.R_reads hR; subst ev5; have HC5 := Aside0.mk hc5; have HR5 := Aside0.mk hC5; clear hR hb hc5 hC5))
  go_ret2
  exact ⟨_, rfl, Kd.S_nil _ _ _ _ _, (by repeat (first | (with_reducible first | exact HB.out | apply below_alloc | apply pw_below_drewN | apply below_drew1) | exact HB.out))⟩
set_option maxHeartbeats 8000000 in
set_option maxRecDepth 100000 in
theorem Get_apart (k : Nat) (ad : Addr) (c0 n : Nat) (l0 seg : List Int) (w : World) (vs : List S136) (at1 e1 at2 e3 : Int) (hm : n + 4 + 4 ≤ c0) (hmx : n + 4 + 4 ≤ 9223372036854775807) (hF : ∀ W, Below w.heap.size w W → Calls Try.prog 73 #[.slice (some ad) (n + 4 + 4) c0] W fun e w' => e = .returned (.bool true) ∧ Below w.heap.size w w') (hcv : ∀ W, Below w.heap.size w W → (convert 31 9 (.slice (some ad) (n + 4) c0)).run Try.prog W = .ok (.string (strOfNums (l0.take (n + 4)))) W) (hp : strings_HasPrefix.f (strOfNums (l0.take (n + 4))) (⟨#[109, 114, 99, 116]⟩ : ByteArray) = some true) (hnew : ∀ W, Below w.heap.size w W → Calls Try.prog 75 #[.slice (some ⟨ad.block, ad.off + 4, none⟩) n (c0 - 4)] W fun e w' => ∃ (g : Nat) (w0 : World), e = .returned (.pointer (some ⟨g, 0, none⟩)) ∧ IsS206 w0 w' g seg 0 0 ∧ Below w0.heap.size w0 w' ∧ Below W.heap.size W w0 ∧ W.heap.size ≤ w0.heap.size) (hV : dump_volumes.f k seg 0 0 = some (vs, at1, e1)) (hE : pack_Reader_End.f seg at1 e1 = some (0, at2, e3)) (ag : List Int) (hQ : dump_Put.f k vs = some (ag, 0)) (heq : ∀ A5 c5 W, Below w.heap.size w W → Kd.C (Kd.int .u8) W A5 ag.length ag → ag.length ≤ c5 → Calls Try.prog 78 #[.slice A5 ag.length c5, .slice (some ad) (n + 4 + 4) c0] W fun e w' => e = .returned (.bool false) ∧ Drawn0 W w') :
    Calls Try.prog 22 #[.slice (some ad) (n + 4 + 4) c0] w fun e w' => ∃ v0_ : Value, e = .returned (.tuple #[v0_, .int .i64 3]) ∧ Kd.S k136 136 w' w.heap.size (fun _ => True) v0_ [] ∧ Below w.heap.size w w' := by
  have HFITS := Aside0.mk hF
  have HCV := Aside0.mk hcv
  have q1 : (n + 4 ≤ c0) = True := eq_true (by omega)
  have q2 : (((n + 4 : Nat) : Int) ≤ (c0 : Int)) = True := eq_true (by omega)
  have HP := Aside0.mk hp
  have HV := Aside0.mk hV
  have HE := Aside0.mk hE
  have q3 : (c0 = 4) = False := eq_false (by omega)
  have q4 : (n + 4 - 4) = n := by omega
  have HNEW := Aside0.mk hnew
  clear hp hF hcv hnew hV hE
  have HQ := Aside0.mk hQ
  have HEQ := Aside0.mk heq
  clear hQ heq
  go_enter Try.func22, Try.ntmps22
  go_wp2_with (first | (go_at_call 73; (with_reducible refine (HFITS.out _ (Below.refl _ _)).mono ?_); rintro e w1 ⟨rfl, hb⟩; have HB := Aside0.mk hb; have hcv := HCV.out _ hb; clear hb) | (go_at_call 74; (with_reducible refine (strings_HasPrefix.calls (strOfNums (l0.take (n + 4))) (⟨#[109, 114, 99, 116]⟩ : ByteArray) _ _ HP.out).mono ?_); rintro e w' ⟨rfl, ⟨nd, rfl⟩⟩; have HB2 := Aside0.mk (pw_below_drewN HB.out nd); clear HB; have HB := HB2; clear HB2) | (go_at_call 75; (with_reducible refine (HNEW.out _ (by exact HB.out)).mono ?_); rintro e w2 ⟨g, wn, rfl, hI, hBn, hBw, hle⟩; have HI := Aside0.mk hI; have HBN := Aside0.mk hBn; have HBW := Aside0.mk (below_then HB.out HB.out.size hBw); have HLE := Aside0.mk (Nat.le_trans HB.out.size hle); have HG := Aside0.mk (Nat.le_trans (Nat.le_trans HB.out.size hle) (IsS206.ge hI)); clear hI hBn hBw hle HB) | (go_at_call 76; (with_reducible refine (dump_volumes.calls k g seg 0 0 vs at1 e1 wn _ HI.out HBN.out HV.out).mono ?_); rintro e w3 ⟨v3, rfl, hS, hI, hBn, hK⟩; have hS2 := Kd.S_lower (Kd.S_newB hS (blk_of HI.out)) (below_then HBW.out HLE.out HBN.out).size; have HS := Aside0.mk hS2; clear HI HBN; have HI := Aside0.mk hI; have HBN := Aside0.mk hBn; clear hS hS2 hI hBn hK) | (go_at_call 77; (with_reducible refine (pack_Reader_End.calls g seg at1 e1 0 at2 e3 wn _ HI.out HBN.out HE.out).mono ?_); rintro e w4 ⟨rfl, hI, hBn, hK⟩; have HS2 := Aside0.mk (Kd.S_keep HS.out hK (fun _ h => h.2)); clear HI HBN HS; have HS := HS2; clear HS2; have HI := Aside0.mk hI; have HBN := Aside0.mk hBn; have HB := Aside0.mk (below_then HBW.out HLE.out hBn); clear hI hBn hK; obtain ⟨A3, c3, ev3, hc3, hC3⟩ := Kd.S_reads HS.out; subst ev3; have HC3 := Aside0.mk hc3; have HR3 := Aside0.mk hC3; clear hc3 hC3) | (go_at_call 25; (with_reducible refine (dump_Put.calls k A3 c3 vs ag 0 _ HR3.out HC3.out HQ.out).mono ?_); rintro e w5 ⟨v5, rfl, hR, hb⟩; have HS2 := Aside0.mk (Kd.S_below HS.out hb); have HB2 := Aside0.mk (below_then HB.out HB.out.size hb); clear HS HB; have HS := HS2; have HB := HB2; clear HS2 HB2; obtain ⟨A5, c5, ev5, hc5, hC5⟩ := Kd.R_reads hR; subst ev5; have HC5 := Aside0.mk hc5; have HR5 := Aside0.mk hC5; clear hR hb hc5 hC5) | (go_at_call 78; (with_reducible refine (HEQ.out A5 c5 _ (by exact HB.out) HR5.out HC5.out).mono ?_); rintro e w' ⟨rfl, ⟨nd2, rfl⟩⟩; have HS2 := Aside0.mk (Kd.S_drewN HS.out nd2); have HB2 := Aside0.mk (pw_below_drewN HB.out nd2); clear HS HB; have HS := HS2; have HB := HB2; clear HS2 HB2))
  go_ret2
  exact ⟨_, rfl, Kd.S_nil _ _ _ _ _, (by repeat (first | (with_reducible first | exact HB.out | apply below_alloc | apply pw_below_drewN | apply below_drew1) | exact HB.out))⟩
set_option maxHeartbeats 8000000 in
set_option maxRecDepth 100000 in
theorem Get_same (k : Nat) (ad : Addr) (c0 n : Nat) (l0 seg : List Int) (w : World) (vs : List S136) (at1 e1 at2 e3 : Int) (hm : n + 4 + 4 ≤ c0) (hmx : n + 4 + 4 ≤ 9223372036854775807) (hF : ∀ W, Below w.heap.size w W → Calls Try.prog 73 #[.slice (some ad) (n + 4 + 4) c0] W fun e w' => e = .returned (.bool true) ∧ Below w.heap.size w w') (hcv : ∀ W, Below w.heap.size w W → (convert 31 9 (.slice (some ad) (n + 4) c0)).run Try.prog W = .ok (.string (strOfNums (l0.take (n + 4)))) W) (hp : strings_HasPrefix.f (strOfNums (l0.take (n + 4))) (⟨#[109, 114, 99, 116]⟩ : ByteArray) = some true) (hnew : ∀ W, Below w.heap.size w W → Calls Try.prog 75 #[.slice (some ⟨ad.block, ad.off + 4, none⟩) n (c0 - 4)] W fun e w' => ∃ (g : Nat) (w0 : World), e = .returned (.pointer (some ⟨g, 0, none⟩)) ∧ IsS206 w0 w' g seg 0 0 ∧ Below w0.heap.size w0 w' ∧ Below W.heap.size W w0 ∧ W.heap.size ≤ w0.heap.size) (hV : dump_volumes.f k seg 0 0 = some (vs, at1, e1)) (hE : pack_Reader_End.f seg at1 e1 = some (0, at2, e3)) (ag : List Int) (hQ : dump_Put.f k vs = some (ag, 0)) (heq : ∀ A5 c5 W, Below w.heap.size w W → Kd.C (Kd.int .u8) W A5 ag.length ag → ag.length ≤ c5 → Calls Try.prog 78 #[.slice A5 ag.length c5, .slice (some ad) (n + 4 + 4) c0] W fun e w' => e = .returned (.bool true) ∧ Drawn0 W w') :
    Calls Try.prog 22 #[.slice (some ad) (n + 4 + 4) c0] w fun e w' => ∃ v0_ : Value, e = .returned (.tuple #[v0_, .int .i64 0]) ∧ Kd.S k136 136 w' w.heap.size (fun _ => True) v0_ vs ∧ Below w.heap.size w w' := by
  have HFITS := Aside0.mk hF
  have HCV := Aside0.mk hcv
  have q1 : (n + 4 ≤ c0) = True := eq_true (by omega)
  have q2 : (((n + 4 : Nat) : Int) ≤ (c0 : Int)) = True := eq_true (by omega)
  have HP := Aside0.mk hp
  have HV := Aside0.mk hV
  have HE := Aside0.mk hE
  have q3 : (c0 = 4) = False := eq_false (by omega)
  have q4 : (n + 4 - 4) = n := by omega
  have HNEW := Aside0.mk hnew
  clear hp hF hcv hnew hV hE
  have HQ := Aside0.mk hQ
  have HEQ := Aside0.mk heq
  clear hQ heq
  go_enter Try.func22, Try.ntmps22
  go_wp2_with (first | (go_at_call 73; (with_reducible refine (HFITS.out _ (Below.refl _ _)).mono ?_); rintro e w1 ⟨rfl, hb⟩; have HB := Aside0.mk hb; have hcv := HCV.out _ hb; clear hb) | (go_at_call 74; (with_reducible refine (strings_HasPrefix.calls (strOfNums (l0.take (n + 4))) (⟨#[109, 114, 99, 116]⟩ : ByteArray) _ _ HP.out).mono ?_); rintro e w' ⟨rfl, ⟨nd, rfl⟩⟩; have HB2 := Aside0.mk (pw_below_drewN HB.out nd); clear HB; have HB := HB2; clear HB2) | (go_at_call 75; (with_reducible refine (HNEW.out _ (by exact HB.out)).mono ?_); rintro e w2 ⟨g, wn, rfl, hI, hBn, hBw, hle⟩; have HI := Aside0.mk hI; have HBN := Aside0.mk hBn; have HBW := Aside0.mk (below_then HB.out HB.out.size hBw); have HLE := Aside0.mk (Nat.le_trans HB.out.size hle); have HG := Aside0.mk (Nat.le_trans (Nat.le_trans HB.out.size hle) (IsS206.ge hI)); clear hI hBn hBw hle HB) | (go_at_call 76; (with_reducible refine (dump_volumes.calls k g seg 0 0 vs at1 e1 wn _ HI.out HBN.out HV.out).mono ?_); rintro e w3 ⟨v3, rfl, hS, hI, hBn, hK⟩; have hS2 := Kd.S_lower (Kd.S_newB hS (blk_of HI.out)) (below_then HBW.out HLE.out HBN.out).size; have HS := Aside0.mk hS2; clear HI HBN; have HI := Aside0.mk hI; have HBN := Aside0.mk hBn; clear hS hS2 hI hBn hK) | (go_at_call 77; (with_reducible refine (pack_Reader_End.calls g seg at1 e1 0 at2 e3 wn _ HI.out HBN.out HE.out).mono ?_); rintro e w4 ⟨rfl, hI, hBn, hK⟩; have HS2 := Aside0.mk (Kd.S_keep HS.out hK (fun _ h => h.2)); clear HI HBN HS; have HS := HS2; clear HS2; have HI := Aside0.mk hI; have HBN := Aside0.mk hBn; have HB := Aside0.mk (below_then HBW.out HLE.out hBn); clear hI hBn hK; obtain ⟨A3, c3, ev3, hc3, hC3⟩ := Kd.S_reads HS.out; subst ev3; have HC3 := Aside0.mk hc3; have HR3 := Aside0.mk hC3; clear hc3 hC3) | (go_at_call 25; (with_reducible refine (dump_Put.calls k A3 c3 vs ag 0 _ HR3.out HC3.out HQ.out).mono ?_); rintro e w5 ⟨v5, rfl, hR, hb⟩; have HS2 := Aside0.mk (Kd.S_below HS.out hb); have HB2 := Aside0.mk (below_then HB.out HB.out.size hb); clear HS HB; have HS := HS2; have HB := HB2; clear HS2 HB2; obtain ⟨A5, c5, ev5, hc5, hC5⟩ := Kd.R_reads hR; subst ev5; have HC5 := Aside0.mk hc5; have HR5 := Aside0.mk hC5; clear hR hb hc5 hC5) | (go_at_call 78; (with_reducible refine (HEQ.out A5 c5 _ (by exact HB.out) HR5.out HC5.out).mono ?_); rintro e w' ⟨rfl, ⟨nd2, rfl⟩⟩; have HS2 := Aside0.mk (Kd.S_drewN HS.out nd2); have HB2 := Aside0.mk (pw_below_drewN HB.out nd2); clear HS HB; have HS := HS2; have HB := HB2; clear HS2 HB2))
  go_ret2
  exact ⟨_, rfl, Kd.S_mono HS.out (fun _ _ => trivial), HB.out⟩

def dump_Get.f (k : Nat) (l0 : List Int) : Option (List S136 × Int) := (crc_Fits.f k l0).bind fun b => if b = false then some ([], 5) else if 4 ≤ l0.length then ((strings_HasPrefix.f (strOfNums (l0.take (l0.length - 4))) (⟨#[109, 114, 99, 116]⟩ : ByteArray)).bind fun p => if p = false then some ([], 7) else if 8 ≤ l0.length ∧ l0.length < 140737488355328 then ((dump_volumes.f k ((l0.take (l0.length - 4)).drop 4) 0 0).bind fun q => (pack_Reader_End.f ((l0.take (l0.length - 4)).drop 4) q.2.1 q.2.2).bind fun t => if t.1 != 0 then some ([], t.1) else ((dump_Put.f k q.1).bind fun u => if u.2 != 0 then some ([], 3) else ((slices_Equal_byte_byte.f k u.1 l0).bind fun v => if v = true then some (q.1, 0) else some ([], 3)))) else none) else none
theorem dump_Get.mono : ∀ a0 k, LeO (dump_Get.f k a0) (dump_Get.f (k + 1) a0) := by
  intro a0 k
  unfold dump_Get.f
  repeat' first
      | (with_reducible exact crc_Fits.mono _ _)
      | (with_reducible exact dump_volumes.mono _ _ _ _)
      | (with_reducible exact dump_Put.mono _ _)
      | (with_reducible exact slices_Equal_byte_byte.mono _ _ _)
      | (with_reducible exact LeO.refl _)
      | (with_reducible exact LeO.none _)
      | (with_reducible refine LeO.ite ?_ ?_)
      | (with_reducible refine LeO.bind ?_ (fun _ => ?_))

theorem dump_Get.calls (k : Nat) (A0 : Option Addr) (c0 : Nat) (l0 : List Int) (r1 : List (S136)) (r2 : Int) (w : World) (hr0 : Kd.C (Kd.int .u8) w A0 l0.length l0) (hc0 : l0.length ≤ c0) (h : dump_Get.f k l0 = some (r1, r2)) :
    Calls Try.prog 22 #[.slice A0 l0.length c0] w fun e w' => ∃ v0_ : Value, e = .returned (.tuple #[v0_, .int .i64 r2]) ∧ Kd.S k136 136 w' w.heap.size (fun _ => True) v0_ r1 ∧ Below w.heap.size w w' := by
  have HBW : ∀ W, Below w.heap.size w W → Kd.C (Kd.int .u8) W A0 l0.length l0 := fun W hb => Kd.C_below hr0 hb
  have fb : ∀ {W W' : World}, Below w.heap.size w W → Below W.heap.size W W' → Below w.heap.size w W' := fun hb h2 => below_then hb hb.size h2
  unfold dump_Get.f at h
  obtain ⟨b, hb, h⟩ := Option.bind_eq_some_iff.mp h
  have hF : ∀ W, Below w.heap.size w W → Calls Try.prog 73 #[.slice A0 l0.length c0] W fun e w' => e = .returned (.bool b) ∧ Below w.heap.size w w' := by
    intro W hW
    refine (crc_Fits.calls k A0 c0 l0 b W (HBW W hW) hc0 hb).mono ?_
    rintro e w' ⟨rfl, h2⟩
    exact ⟨rfl, fb hW h2⟩
  cases b with
  | false =>
    rw [if_pos rfl] at h
    simp only [Option.some.injEq, Prod.mk.injEq] at h
    obtain ⟨rfl, rfl⟩ := h
    exact Get_sum c0 l0.length A0 w ⟨Below.refl _ _⟩ ⟨hF⟩
  | true =>
  rw [if_neg (by decide)] at h
  by_cases h4 : 4 ≤ l0.length
  · rw [if_pos h4] at h
    obtain ⟨ad, rfl⟩ : ∃ ad, A0 = some ad := by
      cases A0 with
      | some ad => exact ⟨ad, rfl⟩
      | none => obtain ⟨ad, he, _⟩ := hr0.2.2 (by omega); cases he
    obtain ⟨p, hp, h⟩ := Option.bind_eq_some_iff.mp h
    have hmx := Kd.C_max hr0
    have htk : (l0.take (l0.length - 4)).length = l0.length - 4 := by rw [List.length_take]; omega
    have hcv : ∀ W, Below w.heap.size w W → (convert 31 9 (.slice (some ad) (l0.length - 4) c0)).run Try.prog W = .ok (.string (strOfNums (l0.take (l0.length - 4)))) W := by
      intro W hW
      have := Kd.C_take (m := l0.length - 4) (HBW W hW) (by omega)
      rw [htk] at this
      exact Kd.C_string Try.underlying31 Try.underlying5 Try.underlying9 this
    cases p with
    | false =>
      rw [if_pos rfl] at h
      simp only [Option.some.injEq, Prod.mk.injEq] at h
      obtain ⟨rfl, rfl⟩ := h
      have e4 : l0.length - 4 + 4 = l0.length := by omega
      have := Get_kind k ad c0 (l0.length - 4) l0 w (by omega) (by omega) (by rw [e4]; exact hF) hcv hp
      rw [e4] at this
      exact this
    | true =>
    rw [if_neg (by decide)] at h
    by_cases h8 : 8 ≤ l0.length ∧ l0.length < 140737488355328
    · rw [if_pos h8] at h
      obtain ⟨h8, hbig⟩ := h8
      obtain ⟨⟨vs, at1, e1⟩, hV, h⟩ := Option.bind_eq_some_iff.mp h
      obtain ⟨⟨e2, at2, e3⟩, hE, h⟩ := Option.bind_eq_some_iff.mp h
      dsimp only at hE h
      generalize hn : l0.length - 8 = n
      have e8 : l0.length = n + 4 + 4 := by omega
      have e5 : l0.length - 4 = n + 4 := by omega
      have hnew : ∀ W, Below w.heap.size w W → Calls Try.prog 75 #[.slice (some ⟨ad.block, ad.off + 4, none⟩) n (c0 - 4)] W fun e w' => ∃ (g : Nat) (w0 : World), e = .returned (.pointer (some ⟨g, 0, none⟩)) ∧ IsS206 w0 w' g ((l0.take (l0.length - 4)).drop 4) 0 0 ∧ Below w0.heap.size w0 w' ∧ Below W.heap.size W w0 ∧ W.heap.size ≤ w0.heap.size := by
        intro W hW
        have hl : ((l0.take (l0.length - 4)).drop 4).length = n := by rw [List.length_drop, htk]; omega
        have hc := Kd.C_mid (lo := 4) (hi := l0.length - 4) (HBW W hW) (by omega) (by omega) hc0
        rw [if_neg (by omega)] at hc
        have := pack_New_own _ (c0 - 4) ((l0.take (l0.length - 4)).drop 4) W hc (by rw [hl]; omega) (by rw [hl]; omega)
        rw [hl] at this

        exact this
      rw [e5] at hcv hp hV hE hnew
      rw [e8] at hF
      by_cases he2 : (e2 != 0) = true
      · rw [if_pos he2] at h
        simp only [Option.some.injEq, Prod.mk.injEq] at h
        obtain ⟨rfl, rfl⟩ := h
        rw [e8]
        exact Get_end k ad c0 n l0 _ w vs at1 e1 e2 at2 e3 (by omega) (by omega) hF hcv hp hnew hV hE he2
      · rw [if_neg he2] at h
        have : e2 = 0 := by simpa using he2
        subst this
        obtain ⟨⟨ag, e4⟩, hQ, h⟩ := Option.bind_eq_some_iff.mp h
        dsimp only at h
        by_cases he4 : (e4 != 0) = true
        · rw [if_pos he4] at h
          simp only [Option.some.injEq, Prod.mk.injEq] at h
          obtain ⟨rfl, rfl⟩ := h
          rw [e8]
          exact Get_put k ad c0 n l0 _ w vs at1 e1 at2 e3 (by omega) (by omega) hF hcv hp hnew hV hE ag e4 hQ he4
        · rw [if_neg he4] at h
          have : e4 = 0 := by simpa using he4
          subst this
          obtain ⟨v, hv, h⟩ := Option.bind_eq_some_iff.mp h
          have heq : ∀ A5 c5 W, Below w.heap.size w W → Kd.C (Kd.int .u8) W A5 ag.length ag → ag.length ≤ c5 → Calls Try.prog 78 #[.slice A5 ag.length c5, .slice (some ad) (n + 4 + 4) c0] W fun e w' => e = .returned (.bool v) ∧ Drawn0 W w' := by
            intro A5 c5 W hW hC hc
            have := slices_Equal_byte_byte.calls k A5 c5 ag (some ad) c0 l0 v W hC hc (HBW W hW) hc0 hv
            rw [e8] at this
            exact this
          cases v with
          | false =>
            rw [if_neg (by decide)] at h
            simp only [Option.some.injEq, Prod.mk.injEq] at h
            obtain ⟨rfl, rfl⟩ := h
            rw [e8]
            exact Get_apart k ad c0 n l0 _ w vs at1 e1 at2 e3 (by omega) (by omega) hF hcv hp hnew hV hE ag hQ heq
          | true =>
            rw [if_pos rfl] at h
            simp only [Option.some.injEq, Prod.mk.injEq] at h
            obtain ⟨rfl, rfl⟩ := h
            rw [e8]
            exact Get_same k ad c0 n l0 _ w vs at1 e1 at2 e3 (by omega) (by omega) hF hcv hp hnew hV hE ag hQ heq
    · rw [if_neg h8] at h
      cases h
  · rw [if_neg h4] at h
    cases h
end Go.Proofs.Ytfdemnefkfkghaa.X
