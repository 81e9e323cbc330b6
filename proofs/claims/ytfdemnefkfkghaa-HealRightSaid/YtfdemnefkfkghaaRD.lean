/- More operations that turn nothing: comparisons, cuts of slices, look-ups. -/
import Derived.Test.YtfdemnefkfkghaaRC
import Derived.Laws.StructEq
namespace Go.Proofs.Ytfdemnefkfkghaa.R
open Go Go.RowKit

section
variable {P : Program} {T : TT} (hT : TOK P T) {F : Froz} {w : World} {β : Place} {H : Heap} {l l' : List Nat} {v : V} {u : Upd}

theorem eqKind_ok {t : TypeId} {ti : TI} (ht : Told P t ti) {x y : V} {cx cy : Value} {b : Bool} (h : eqKind ti.kd x y = some b) (hx : Rel F (cl w) β x cx) (hy : Rel F (cl w) β y cy) (d : Nat) :
    (Op.equalIn (d + 1) t cx cy).run P w = .ok b w := by
  unfold eqKind at h
  split at h
  · have hk := ‹ti.kd = .bool›
    cases h; cases hx; cases hy
    simp [Op.equalIn, run_underlying (ht.bool hk)]
  · have hk := ‹ti.kd = .int _›
    split at h
    · rename_i hkk
      subst hkk
      cases h; cases hx; cases hy
      simp [Op.equalIn, run_underlying (ht.int hk)]
    · cases h
  · have hk := ‹ti.kd = .str›
    cases h; cases hx; cases hy
    simp [Op.equalIn, run_underlying (ht.str hk)]
  · cases h

theorem agg_false {ti : TI} (h : ∀ gs, ti.kd ≠ .struct gs) : ti.agg = false := by
  unfold TI.agg
  split
  · rename_i fs hfs
    exact absurd hfs (h fs)
  · rfl

include hT in
theorem eqAgg_ok : ∀ (d : Nat) (Fs : List Field) (xs ys : List V) (cxs cys : Array Value) (b : Bool), (∀ f ∈ Fs, f.name ≠ "_") → eqAgg T d (Fs.map fun f => (f.offset, f.type)) xs ys = some b →
    cxs.size = xs.length → (∀ (j : Nat) (v : V), xs[j]? = some v → Rel F (cl w) β v (cxs.getD j undef)) → cys.size = ys.length → (∀ (j : Nat) (v : V), ys[j]? = some v → Rel F (cl w) β v (cys.getD j undef)) →
    ∀ D, d ≤ D → (Op.eqFields D cxs cys Fs).run P w = .ok b w
  | 0, Fs, xs, ys, cxs, cys, b, _, h, _, _, _, _, D, _ => by simp [eqAgg] at h
  | d + 1, [], xs, ys, cxs, cys, b, _, h, _, _, _, _, D, _ => by
    simp only [eqAgg, List.map_nil, Option.some.injEq] at h
    subst h
    simp [Op.eqFields]
  | d + 1, f :: Fs, xs, ys, cxs, cys, b, hn, h, hxs, hx, hys, hy, D, hD => by
    obtain ⟨D, rfl⟩ : ∃ m, D = m + 1 := ⟨D - 1, by omega⟩
    simp only [List.map_cons, eqAgg] at h
    split at h
    · cases h
    · rename_i ti hti
      have ht := hT.told hti
      -- here
      have here : ∀ b', (match ti.kd with
        | .struct gs => if f.offset + ti.size ≤ xs.length ∧ f.offset + ti.size ≤ ys.length then eqAgg T d gs ((xs.drop f.offset).take ti.size) ((ys.drop f.offset).take ti.size) else none
        | kd => match xs[f.offset]?, ys[f.offset]? with
          | some x, some y => eqKind kd x y
          | _, _ => none) = some b' → ∃ ca cb, (part f.type cxs f.offset).run P w = .ok ca w ∧ (part f.type cys f.offset).run P w = .ok cb w ∧ (Op.equalIn (D + 1) f.type ca cb).run P w = .ok b' w := by
        intro b' hb
        split at hb
        · rename_i gs hgs
          split at hb
          · rename_i hlen
            have ha : ti.agg = true := by unfold TI.agg; rw [hgs]
            obtain ⟨Gs, hu, rfl, hnames⟩ := ht.struct hgs
            obtain ⟨ca, h1, r1⟩ := partOf_rel (P := P) (o := f.offset) (v := .agg ((xs.drop f.offset).take ti.size)) ht hxs hx (by simp [partOf, ha, hlen.1])
            obtain ⟨cb, h2, r2⟩ := partOf_rel (P := P) (o := f.offset) (v := .agg ((ys.drop f.offset).take ti.size)) ht hys hy (by simp [partOf, ha, hlen.2])
            refine ⟨ca, cb, h1, h2, ?_⟩
            cases r1 with
            | agg _ _ c1 s1 g1 =>
              cases r2 with
              | agg _ _ c2 s2 g2 =>
                have hf : P.fieldsOf f.type = Gs := by simp [Program.fieldsOf, hu]
                rw [run_equalIn_struct w D f.type c1 c2 (by rw [hf]; exact hu) (ht.held ha).1, hf]
                exact eqAgg_ok d Gs.toList _ _ c1 c2 b' hnames hb s1 g1 s2 g2 D (by omega)
          · cases hb
        · rename_i hns
          have ha : ti.agg = false := agg_false hns
          split at hb
          · rename_i x y hx1 hy1
            obtain ⟨ca, h1, r1⟩ := partOf_rel (P := P) (o := f.offset) (v := x) ht hxs hx (by simp [partOf, ha, hx1])
            obtain ⟨cb, h2, r2⟩ := partOf_rel (P := P) (o := f.offset) (v := y) ht hys hy (by simp [partOf, ha, hy1])
            exact ⟨ca, cb, h1, h2, eqKind_ok ht hb r1 r2 D⟩
          · cases hb
      have rest : ∀ b', eqAgg T d (Fs.map fun f => (f.offset, f.type)) xs ys = some b' → (Op.eqFields (D + 1) cxs cys Fs).run P w = .ok b' w := fun b' hb =>
        eqAgg_ok d Fs xs ys cxs cys b' (fun g hg => hn g (.tail _ hg)) hb hxs hx hys hy (D + 1) (by omega)
      split at h
      · rename_i hh
        obtain ⟨ca, cb, h1, h2, h3⟩ := here true hh
        have := rest b h
        simp [Op.eqFields, hn f (.head _), h1, h2, h3, this]
      · rename_i hne
        cases b with
        | true => exact absurd h hne
        | false =>
          obtain ⟨ca, cb, h1, h2, h3⟩ := here false h
          simp [Op.eqFields, hn f (.head _), h1, h2, h3]

theorem eqGuard_free {t : TypeId} {cx cy : Value} (h1 : ∀ xs ys, ¬ (cx = .agg xs ∧ cy = .agg ys)) (h2 : ¬ (cx = .nilIface ∧ cy = .nilIface)) (op : BinOp) (ox oy : Operand) : (eqGuard op t ox oy cx cy).run P w = .ok () w := by
  cases op
  case eql | neq =>
    cases cx <;> cases cy <;> first | rfl | exact absurd ⟨rfl, rfl⟩ h2 | exact absurd ⟨rfl, rfl⟩ (h1 _ _)
  all_goals rfl

include hT in
/-- Two values, equal or not; and the model's look at two nil interface values. -/
theorem eqV_ok {t : TypeId} {x y : V} {cx cy : Value} {b : Bool} (h : eqV T t x y = some b) (hx : Rel F (cl w) β x cx) (hy : Rel F (cl w) β y cy) :
    (Op.equal t cx cy).run P w = .ok b w ∧ (∀ op ox oy, (eqGuard op t ox oy cx cy).run P w = .ok () w) ∧ (∀ k n, cx ≠ .int k n) ∧ (∀ s, cx ≠ .string s) ∧ (∀ k n, cx ≠ .float k n) ∧ (∀ k n m, cx ≠ .complex k n m) := by
  unfold eqV at h
  split at h
  · cases h
  · rename_i ti hti
    have ht := hT.told hti
    obtain ⟨d, hd, hk⟩ := ht.und
    have eg : ∀ op ox oy, (∀ xs ys, ¬ (cx = .agg xs ∧ cy = .agg ys)) → ¬ (cx = .nilIface ∧ cy = .nilIface) → (eqGuard op t ox oy cx cy).run P w = .ok () w := fun op ox oy h1 h2 => eqGuard_free h1 h2 op ox oy
    split at h
    case h_14 =>
      rename_i fs xs ys hkd
      have ha : ti.agg = true := by unfold TI.agg; rw [hkd]
      obtain ⟨Gs, hu, rfl, hnames⟩ := ht.struct hkd
      cases hx with
      | agg _ _ c1 s1 g1 =>
        cases hy with
        | agg _ _ c2 s2 g2 =>
          have hf : P.fieldsOf t = Gs := by simp [Program.fieldsOf, hu]
          refine ⟨?_, ?_, by simp, by simp, by simp, by simp⟩
          · show (Op.equalIn (9999 + 1) t _ _).run P w = _
            rw [run_equalIn_struct w 9999 t c1 c2 (by rw [hf]; exact hu) (ht.held ha).1, hf]
            exact eqAgg_ok hT 12 Gs.toList _ _ c1 c2 b hnames h s1 g1 s2 g2 9999 (by omega)
          · intro op ox oy
            simp [eqGuard, (ht.held ha).2]
    case h_16 => cases h
    case h_15 =>
      have hu := ht.bool ‹_›
      cases h; cases hx; cases hy
      exact ⟨(show ∀ d, (Op.equalIn (d + 1) t _ _).run P w = _ from fun d => by simp [Op.equalIn, run_underlying hu]) 9999, fun _ _ _ => eg _ _ _ (by simp) (by simp), by simp, by simp, by simp, by simp⟩
    case h_1 | h_2 | h_3 | h_4 | h_5 =>
      obtain ⟨e, hu⟩ := ht.ptr ‹_›
      cases h; cases hx; cases hy
      exact ⟨(show ∀ d, (Op.equalIn (d + 1) t _ _).run P w = _ from fun d => by simp [Op.equalIn, run_underlying hu]) 9999, fun _ _ _ => eg _ _ _ (by simp) (by simp), by simp, by simp, by simp, by simp⟩
    case h_6 =>
      have hu := ht.slice ‹_›
      cases h; cases hx; cases hy
      exact ⟨(show ∀ d, (Op.equalIn (d + 1) t _ _).run P w = _ from fun d => by simp [Op.equalIn, run_underlying hu]) 9999, fun _ _ _ => eg _ _ _ (by simp) (by simp), by simp, by simp, by simp, by simp⟩
    case h_7 =>
      have hu := ht.slice ‹_›
      cases h; cases hy
      cases hx with
      | fz => exact ⟨(show ∀ d, (Op.equalIn (d + 1) t _ _).run P w = _ from fun d => by simp [Op.equalIn, run_underlying hu]) 9999, fun _ _ _ => eg _ _ _ (by simp) (by simp), by simp, by simp, by simp, by simp⟩
    case h_8 =>
      have hu := ht.slice ‹_›
      cases h; cases hy
      cases hx with
      | ms => exact ⟨(show ∀ d, (Op.equalIn (d + 1) t _ _).run P w = _ from fun d => by simp [Op.equalIn, run_underlying hu]) 9999, fun _ _ _ => eg _ _ _ (by simp) (by simp), by simp, by simp, by simp, by simp⟩
    case h_9 | h_10 =>
      have hu := ht.map ‹_›
      cases h; cases hx; cases hy
      exact ⟨(show ∀ d, (Op.equalIn (d + 1) t _ _).run P w = _ from fun d => by simp [Op.equalIn, run_underlying hu]) 9999, fun _ _ _ => eg _ _ _ (by simp) (by simp), by simp, by simp, by simp, by simp⟩
    case h_11 | h_12 =>
      obtain ⟨_, _, _, hu⟩ := ht.func ‹_›
      cases h; cases hx; cases hy
      exact ⟨(show ∀ d, (Op.equalIn (d + 1) t _ _).run P w = _ from fun d => by simp [Op.equalIn, run_underlying hu]) 9999, fun _ _ _ => eg _ _ _ (by simp) (by simp), by simp, by simp, by simp, by simp⟩
    case h_13 =>
      obtain ⟨_, hu⟩ := ht.iface ‹_›
      cases h; cases hx; cases hy
      exact ⟨(show ∀ d, (Op.equalIn (d + 1) t _ _).run P w = _ from fun d => by simp [Op.equalIn, run_underlying hu]) 9999, fun _ _ _ => eg _ _ _ (by simp) (by simp), by simp, by simp, by simp, by simp⟩

include hT in
theorem bin_ok {op : BinOp} {t : TypeId} {x y : V} {cx cy : Value} (h : bin T op t x y = some v) (hx : Rel F (cl w) β x cx) (hy : Rel F (cl w) β y cy) (ox oy : Operand) :
    ∃ cw, (do eqGuard op t ox oy cx cy; binOp op t cx cy : Sem Value).run P w = .ok cw w ∧ Rel F (cl w) β v cw := by
  unfold bin at h
  split at h
  · rename_i k a k' b
    cases hx; cases hy
    have eg : (eqGuard op t ox oy (.int k a) (.int k' b)).run P w = .ok () w := by
      unfold eqGuard
      split <;> simp
    split at h
    · split at h
      · rename_i hb
        cases h
        refine ⟨_, ?_, .int _ _ _⟩
        simp [eg, binOp, Op.shift, Int.not_lt.2 hb]
      · cases h
    · split at h
      · rename_i hb
        cases h
        refine ⟨_, ?_, .int _ _ _⟩
        simp [eg, binOp, Op.shift, Int.not_lt.2 hb]
      · cases h
    · rename_i h1 h2
      split at h
      · rename_i hk
        subst hk
        unfold binInt at h
        split at h <;> first
          | (cases h; refine ⟨_, ?_, by constructor⟩; simp [eg, binOp, Op.intArith, Op.intBits, Op.intCmp])
          | (split at h
             · cases h
             · rename_i h0
               cases h
               refine ⟨_, ?_, by constructor⟩
               simp [eg, binOp, Op.intDiv, h0])
          | cases h
      · cases h
  · rename_i a b
    cases hx; cases hy
    have eg : (eqGuard op t ox oy (.string a) (.string b)).run P w = .ok () w := by
      unfold eqGuard
      split <;> simp
    unfold binStr at h
    split at h <;> first
      | (cases h; refine ⟨_, ?_, by constructor⟩; simp [eg, binOp, Op.stringOp])
      | (split at h
         · rename_i hl
           cases h
           have hl' : ¬ (((a.size + b.size : Nat) : Int) > IntKind.i64.max) := by
             have : IntKind.i64.max = 9223372036854775807 := rfl
             omega
           refine ⟨_, ?_, by constructor⟩
           simp only [Sem.run_bind, eg, Result.andThen_ok, binOp, Op.stringOp, if_neg hl', Sem.run_pure]
         · cases h)
      | cases h
  · split at h
    · simp only [Option.map_eq_some_iff] at h
      obtain ⟨b, hb, rfl⟩ := h
      obtain ⟨h1, h2, h3, h4, h5, h6⟩ := eqV_ok hT hb hx hy
      refine ⟨.bool b, ?_, .bool _ _⟩
      rw [Sem.run_bind, h2]
      simp only [Result.andThen_ok]
      have : binOp .eql t cx cy = (do pure (.bool (← Op.equal t cx cy)) : Sem Value) := by
        cases cx <;> first | rfl | (exact absurd rfl (h3 _ _)) | (exact absurd rfl (h4 _)) | (exact absurd rfl (h5 _ _)) | (exact absurd rfl (h6 _ _ _))
      rw [this]
      simp [h1]
    · simp only [Option.map_eq_some_iff] at h
      obtain ⟨b, hb, rfl⟩ := h
      obtain ⟨h1, h2, h3, h4, h5, h6⟩ := eqV_ok hT hb hx hy
      refine ⟨.bool !b, ?_, .bool _ _⟩
      rw [Sem.run_bind, h2]
      simp only [Result.andThen_ok]
      have : binOp .neq t cx cy = (do pure (.bool (!(← Op.equal t cx cy))) : Sem Value) := by
        cases cx <;> first | rfl | (exact absurd rfl (h3 _ _)) | (exact absurd rfl (h4 _)) | (exact absurd rfl (h5 _ _)) | (exact absurd rfl (h6 _ _ _))
      rw [this]
      simp [h1]
    · cases h
end

end Go.Proofs.Ytfdemnefkfkghaa.R
