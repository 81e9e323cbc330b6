/- slices.Clone, of elements of any type. -/
import Derived.Test.YtfdemnefkfkghaaRN
namespace Go.Proofs.Ytfdemnefkfkghaa.R
set_option linter.unusedVariables false
set_option linter.unusedSimpArgs false
open Go Go.RowKit

def cl0 (t : TypeId) : Array Oper := #[{ dst := some 2, op := .assign (.const (.slice none 0 0)), type := t, pos := "slices.go:355", after := #[], guard := none }]
def cl1 (t : TypeId) : Array Oper := #[{ dst := some 3, op := .move (.tmp 0), type := t, pos := "slices.go:357", after := #[], guard := none },
  { dst := some 4, op := .binOp .eql t (.tmp 3) (.const (.slice none 0 0)) t, type := 4, pos := "slices.go:357", after := #[{ on := 0, ground := .data }], guard := none }]
def cl2 (t : TypeId) : Array Oper := #[{ dst := some 2, op := .assign (.const (.slice none 0 0)), type := t, pos := "slices.go:358", after := #[], guard := none }]
def cl3 (t : TypeId) : Array Oper := #[{ dst := some 5, op := .buildSlice t 0 #[], type := t, pos := "slices.go:362", after := #[], guard := none },
  { dst := some 6, op := .move (.tmp 0), type := t, pos := "slices.go:362", after := #[], guard := none },
  { dst := some 7, op := .call { callee := .builtin .append, args := #[.tmp 5, .tmp 6], argTypes := #[t, t] }, type := t, pos := "slices.go:362", after := #[{ on := 0, ground := .data }, { on := 1, ground := .data }], guard := none },
  { dst := some 2, op := .assign (.tmp 7), type := t, pos := "slices.go:362", after := #[{ on := 2, ground := .data }, { on := 2, ground := .chain }, { on := 0, ground := .phase }, { on := 1, ground := .phase }, { on := 2, ground := .phase }], guard := none }]
/-- The code of slices.Clone at the slices' type 't'. -/
def cloneCode (t : TypeId) : Code := (Code.region 0 (cl0 t) false).seq (((Code.region 1 (cl1 t) false).seq (.cond (.tmp 4) ((Code.region 2 (cl2 t) false).seq .ret) .skip)).seq ((Code.region 3 (cl3 t) false).seq .ret))

section
variable {P : Program} {T : TT}

theorem clone_ok (hT : TOK P T) (hm : P.follows .mixedOrders = true) {g : FuncId} {fc : Func} {t el : TypeId} {ti ti' : TI} (hti' : T t = some ti') (hk : ti'.kd = .slice el) (hti : T el = some ti) (hbz : 0 < ti.bytes)
    (hf : P.funcs[g]? = some fc) (hb : fc.body = some (cloneCode t)) (hn : fc.ntmps = 8) (hres : fc.results.toList = [.tmp 2]) : FunOK P g (cloneFn ti.size ti.bytes) := by
  intro args hs r h heq β F w cargs hI hfresh hargs
  unfold cloneFn at heq
  split at heq
  · rename_i rows
    split at heq
    · rename_i hc
      obtain ⟨h0, hall, hbytes⟩ := hc
      simp only [Option.some.injEq, Prod.mk.injEq] at heq
      obtain ⟨rfl, rfl⟩ := heq
      have hsz : cargs.size = 1 := hargs.size
      have hu := (hT.told hti').slice hk
      obtain ⟨cv0, rfl⟩ : ∃ cv0, cargs = #[cv0] := Array.size_eq_one_iff.1 hsz
      have hr0 : Rel F (cl w) β (.fz rows) cv0 := by simpa [Array.getD] using hargs.at_ 0 _ rfl
      have hcx : CxOK P { T, fns := fun _ => none, call := fun _ _ _ => none } := ⟨hT, ⟨fun g fn h => by cases h⟩, fun g fn h => by cases h⟩
      have fin : ∀ (e : Env) (a' : Act) (w' : World) (β' : Place) (F' : Froz) (H : Heap) (h' : Heap) (v : V) (r : V), finish 0 false v H = some (r, h') → Sim ⟨w, KOf β w, F⟩ β 8 { env := e, heap := H } a' w' β' F' → lk e 2 = v →
          bodyPost P fc (fun e w' => ∃ cv β' F', e = .returned cv ∧ Post w β F r h' cv w' β' F') .ret a' w' := by
        intro e a' w' β' F' H h' v r hfin hS hv
        obtain ⟨cv, h3, h4⟩ := results_ok hT hS (fn := fc) (vs := [v]) (by rw [hres]; simp [resAll, resOne, hv])
        obtain ⟨β2, F2, h5, h6, h7⟩ := finish_ok (keep := 0) (by simpa using hfresh) hfin hS.inv hS.ext h4
        exact ⟨hS.defers, cv, h3, cv, β2, F2, rfl, h5, h6, h7⟩
      refine calls_of_wp hf hb ?_
      have hS0 : Sim ⟨w, KOf β w, F⟩ β 8 { env := [(0, .fz rows)], heap := [] } { tmps := #[cv0] ++ Array.replicate (fc.ntmps - (#[cv0] : Array Value).size) undef, defers := [] } w β F := by
        refine ⟨hI, fun t => ?_, rfl, by simp [hn], by simpa using hfresh, .refl _ _ _⟩
        rw [lk_cons]
        by_cases e : 0 = t
        · subst e
          have : (#[cv0] ++ Array.replicate (fc.ntmps - (#[cv0] : Array Value).size) undef).getD 0 undef = cv0 := by simp [Array.getD, hn]
          simp only [this, if_true]
          exact hr0
        · rw [if_neg e]; exact .undef _ _
      unfold cloneCode
      refine wp_seq (code_ok hcx hm (R := 0) (gcs := []) (keep := 0) (ntmps := 8) (by simpa using hfresh) _ none _ .normal { env := [(2, .nils), (0, .fz rows)], heap := [] } _ _ _ _ _ rfl rfl hS0 fun a1 w1 β1 F1 hS1 => ?_)
      have hr1 : Rel F1 (cl w1) β1 (.fz rows) (a1.tmps.getD 0 undef) := hS1.env 0
      obtain ⟨adr, cap, hcv⟩ : ∃ adr cap, a1.tmps.getD 0 undef = .slice adr rows.length cap ∧ (adr = none → rows = []) := by
        generalize a1.tmps.getD 0 undef = cv at hr1
        cases hr1 with
        | fz0 => exact ⟨_, _, rfl, fun _ => rfl⟩
        | fz => exact ⟨_, _, rfl, fun h => by cases h⟩
      have hS2 : Sim ⟨w, KOf β w, F⟩ β 8 { env := [(4, .bool adr.isNone), (3, .fz rows), (2, .nils), (0, .fz rows)], heap := [] } ((a1.put (some 3) (a1.tmps.getD 0 undef)).put (some 4) (.bool adr.isNone)) w1 β1 F1 := by
        obtain ⟨k1, k2, k3, _⟩ := putDst_env (d := some 3) hS1.env hS1.size hr1 (e' := [(3, .fz rows), (2, .nils), (0, .fz rows)]) rfl
        obtain ⟨g1, g2, g3, _⟩ := putDst_env (d := some 4) k1 k2 (Rel.bool β1 adr.isNone) (e' := [(4, .bool adr.isNone), (3, .fz rows), (2, .nils), (0, .fz rows)]) rfl
        exact ⟨hS1.inv, g1, by rw [g3, k3, hS1.defers], g2, hS1.fresh, hS1.ext⟩
      have first : ∀ Q : Exit → Act → World → Prop, Q .normal ((a1.put (some 3) (a1.tmps.getD 0 undef)).put (some 4) (.bool adr.isNone)) w1 → (Code.region 1 (cl1 t) false).wp P Q a1 w1 := by
        intro Q hQ
        refine wp_region ?_
        show wpOps P (cl1 t) _ [0, 1] a1 w1
        have hw0 : ∀ (a : Act), Region.wanted ((cl1 t)[0]'(by simp [cl1])) (yielded (cl1 t) a.tmps) = true := fun a => rfl
        have hw1 : ∀ (a : Act), Region.wanted ((cl1 t)[1]'(by simp [cl1])) (yielded (cl1 t) a.tmps) = true := fun a => rfl
        rw [wpOps_cons]
        unfold wpOp
        simp only [show (cl1 t)[0]? = some ((cl1 t)[0]'(by simp [cl1])) from rfl, hw0, if_true]
        left
        refine wp_value (cv := a1.tmps.getD 0 undef) rfl ?_
        rw [wpOps_cons]
        unfold wpOp
        simp only [show (cl1 t)[1]? = some ((cl1 t)[1]'(by simp [cl1])) from rfl, hw1, if_true]
        left
        refine wp_value (cv := .bool adr.isNone) ?_ hQ
        show (do pure (Next.value (← (do eqGuard .eql t (.tmp 3) (.const (.slice none 0 0)) ((a1.put (some 3) (a1.tmps.getD 0 undef)).eval (.tmp 3)) (.slice none 0 0); binOp .eql t ((a1.put (some 3) (a1.tmps.getD 0 undef)).eval (.tmp 3)) (.slice none 0 0) : Sem Value))) : Sem _).run P w1 = _
        have he : (a1.put (some 3) (a1.tmps.getD 0 undef)).eval (.tmp 3) = .slice adr rows.length cap := by
          have h3 : 3 < a1.tmps.size := by rw [hS1.size]; omega
          rw [hcv.1]
          simp [Act.eval, Act.put, Array.getD, h3]
        rw [he]
        have heq : (Op.equal t (.slice adr rows.length cap) (.slice none 0 0)).run P w1 = .ok adr.isNone w1 :=
          (show ∀ d, (Op.equalIn (d + 1) t _ _).run P w1 = _ from fun d => by cases adr <;> simp [Op.equalIn, run_underlying hu]) 9999
        rw [Sem.run_bind, Sem.run_bind, eqGuard_free (by simp) (by simp)]
        simp only [Result.andThen_ok]
        rw [show binOp .eql t (.slice adr rows.length cap) (.slice none 0 0) = (do pure (.bool (← Op.equal t (.slice adr rows.length cap) (.slice none 0 0))) : Sem Value) from rfl]
        simp [heq]
      refine wp_seq (wp_seq (first _ (wp_cond (t := adr.isNone) ?_ ?_)))
      · have := hS2.env 4
        show (((a1.put (some 3) (a1.tmps.getD 0 undef)).put (some 4) (.bool adr.isNone)).tmps.getD 4 undef) = _
        generalize ((a1.put (some 3) (a1.tmps.getD 0 undef)).put (some 4) (.bool adr.isNone)).tmps.getD 4 undef = cv at this
        cases this
        rfl
      cases hadr : adr with
      | none =>
        obtain rfl := hcv.2 hadr
        subst hadr
        simp only [Option.isNone_none, if_true]
        refine code_ok hcx hm (R := 0) (gcs := []) (keep := 0) (ntmps := 8) (by simpa using hfresh) _ none _ .ret { env := [(2, .nils), (4, .bool true), (3, .fz []), (2, .nils), (0, .fz [])], heap := [] } _ _ _ _ _ rfl rfl hS2 fun a3 w3 β3 F3 hS3 => ?_
        have hI3 := hS3.inv.addNil (n := 0) (hS3.fresh 0 (Nat.le_refl _)) rfl ti.size
        have hx3 : Ext β3 (β3.set 0 .nil) F3 F3 w3 w3 := ⟨set_ext (hS3.fresh 0 (Nat.le_refl _)), fun _ _ h => ⟨h, rfl⟩⟩
        obtain ⟨cv, g3, g4⟩ := results_ok hT hS3 (fn := fc) (vs := [.nils]) (by rw [hres]; rfl)
        refine ⟨hS3.defers, cv, g3, cv, _, F3, rfl, ?_, hI3, hS3.ext.trans hx3⟩
        have g5 : Rel F3 (cl w3) β3 .nils cv := g4
        cases g5
        exact .ms0 _ _ _ _ (by simp [Place.set]) (by simp)
      | some ad =>
        subst hadr
        simp only [Option.isNone_some, Bool.false_eq_true, if_false]
        refine wp_skip ?_
        have hb' : ¬ (ti.size = 0 ∨ 16777216 < 0 * ti.size) := by omega
        have h1 : buildSliceR T 0 t 0 [] = .pure (.ms 0 ti.size 0 0 none, [(0, some (.buf ti.size [] false true))]) := by
          simp only [buildSliceR, hti', hk, hti, if_neg hb']
          rfl
        have h3 : appendB T 1 t t (.ms 0 ti.size 0 0 none) (.fz rows) = appendR ti 1 (.ms 0 ti.size 0 0 none) rows true := by
          simp only [appendB, hti', hk, hti, if_neg h0, rows?, hall, if_true]
        let cx : Cx := { T, fns := fun _ => none, call := fun _ _ _ => none }
        have three : ∀ v u l, (appendR ti 1 (.ms 0 ti.size 0 0 none) rows true).run [some (.buf ti.size [] false true)] [] = some ((v, u), l) →
            acode cx 8 0 0 [] ((Code.region 3 (cl3 t) false).seq .ret) none { env := [(4, .bool false), (3, .fz rows), (2, .nils), (0, .fz rows)], heap := [] } =
              some (.ret, { env := [(2, v), (7, v), (6, .fz rows), (5, .ms 0 ti.size 0 0 none), (4, .bool false), (3, .fz rows), (2, .nils), (0, .fz rows)], heap := Heap.puts [some (.buf ti.size [] false true)] u }) := by
          intro v u l hv
          show ((Option.map (fun s => (Ex.normal, s)) (match (buildSliceR T 0 t 0 []).run [] [] with
            | none => none
            | some ((v, u), _) => (putDst 8 [(4, .bool false), (3, .fz rows), (2, .nils), (0, .fz rows)] (some 5) v).bind fun e => runOps cx 8 (cl3 t) (cl3 t).toList.tail { env := e, heap := Heap.puts [] u })).bind _) = _
          rw [h1]
          show ((Option.map (fun s => (Ex.normal, s)) (match (appendB T 1 t t (.ms 0 ti.size 0 0 none) (.fz rows)).run [some (.buf ti.size [] false true)] [] with
            | none => none
            | some ((v, u), _) => (putDst 8 [(6, .fz rows), (5, .ms 0 ti.size 0 0 none), (4, .bool false), (3, .fz rows), (2, .nils), (0, .fz rows)] (some 7) v).bind fun e => runOps cx 8 (cl3 t) (cl3 t).toList.tail.tail.tail { env := e, heap := Heap.puts [some (.buf ti.size [] false true)] u })).bind _) = _
          rw [h3, hv]
          rfl
        by_cases hr : rows = []
        · subst hr
          refine code_ok hcx hm (R := 0) (gcs := []) (keep := 0) (ntmps := 8) (by simpa using hfresh) _ none _ .ret _ _ _ _ _ _ rfl (three (.ms 0 ti.size 0 0 none) [] [] rfl) hS2 fun a3 w3 β3 F3 hS3 => ?_
          exact fin _ a3 w3 β3 F3 _ _ _ _ rfl hS3 rfl
        · have hl : rows.length ≠ 0 := by simpa using hr
          refine code_ok hcx hm (R := 0) (gcs := []) (keep := 0) (ntmps := 8) (by simpa using hfresh) _ none _ .ret _ _ _ _ _ _ rfl (three (.ms 1 ti.size 0 rows.length none) [(0, none), (1, some (.buf ti.size rows false true))] [0] ?_) hS2 fun a3 w3 β3 F3 hS3 => ?_
          · have hle : rows.length ≤ rows.length * ti.bytes := Nat.le_mul_of_pos_right _ hbz
            simp only [appendR, if_neg hl, if_true, Rd.run, Heap.at?, Nat.zero_add, Nat.add_zero, List.length_nil, Nat.le_refl, true_and]
            rw [if_pos ⟨hbytes, by omega⟩]
            simp only [appendM, List.length_nil, Nat.zero_add]
            rw [if_neg (by omega)]
            simp [Rd.run]
          · exact fin _ a3 w3 β3 F3 _ _ _ _ rfl hS3 rfl
    · cases heq
  · cases heq
end
end Go.Proofs.Ytfdemnefkfkghaa.R
