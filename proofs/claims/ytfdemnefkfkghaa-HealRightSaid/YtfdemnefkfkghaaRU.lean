/- Types and functions are the program's. -/
import Derived.Test.YtfdemnefkfkghaaRT
import Derived.Test.YtfdemnefkfkghaaRO
import Derived.KernelRfl
namespace Go.Proofs.Ytfdemnefkfkghaa.R
open Go Go.Proofs
theorem tok_ : (table.zipIdx.all fun p => match p.1 with | some ti => tiOK Try.prog p.2 ti | none => true) = true := by kernel_rfl
theorem tok : TOK Try.prog T := fun t ti h => by
  have hl : table[t]? = some (some ti) := by
    unfold T at h
    split at h
    · rename_i x hx; rw [hx, h]
    · cases h
  have := List.all_eq_true.1 tok_ (some ti, t) (by
    rw [List.mem_iff_getElem?]
    exact ⟨t, by rw [List.getElem?_zipIdx, hl]; simp⟩)
  simpa using this
theorem mixed_ : Try.prog.follows .mixedOrders = true := by kernel_rfl
theorem good_3 : FnGood Try.prog 3 fn3 := ⟨⟨Try.f3, by kernel_rfl, by kernel_rfl, by kernel_rfl, fun _ => ⟨by kernel_rfl, by kernel_rfl, by kernel_rfl, by kernel_rfl⟩⟩, fun _ _ h => by cases h⟩
theorem good_4 : FnGood Try.prog 4 fn4 := ⟨⟨Try.f4, by kernel_rfl, by kernel_rfl, by kernel_rfl, fun _ => ⟨by kernel_rfl, by kernel_rfl, by kernel_rfl, by kernel_rfl⟩⟩, fun _ _ h => by cases h⟩
theorem good_14 : FnGood Try.prog 14 fn14 := ⟨⟨Try.f14, by kernel_rfl, by kernel_rfl, by kernel_rfl, fun _ => ⟨by kernel_rfl, by kernel_rfl, by kernel_rfl, by kernel_rfl⟩⟩, fun _ _ h => by cases h⟩
theorem good_15 : FnGood Try.prog 15 fn15 := ⟨⟨Try.f15, by kernel_rfl, by kernel_rfl, by kernel_rfl, fun _ => ⟨by kernel_rfl, by kernel_rfl, by kernel_rfl, by kernel_rfl⟩⟩, fun _ _ h => by cases h⟩
theorem good_16 : FnGood Try.prog 16 fn16 := ⟨⟨Try.f16, by kernel_rfl, by kernel_rfl, by kernel_rfl, fun _ => ⟨by kernel_rfl, by kernel_rfl, by kernel_rfl, by kernel_rfl⟩⟩, fun _ _ h => by cases h⟩
theorem good_17 : FnGood Try.prog 17 fn17 := ⟨⟨Try.f17, by kernel_rfl, by kernel_rfl, by kernel_rfl, fun _ => ⟨by kernel_rfl, by kernel_rfl, by kernel_rfl, by kernel_rfl⟩⟩, fun _ _ h => by cases h⟩
theorem good_18 : FnGood Try.prog 18 fn18 := ⟨⟨Try.f18, by kernel_rfl, by kernel_rfl, by kernel_rfl, fun _ => ⟨by kernel_rfl, by kernel_rfl, by kernel_rfl, by kernel_rfl⟩⟩, fun _ _ h => by cases h⟩
theorem good_19 : FnGood Try.prog 19 fn19 := ⟨⟨Try.f19, by kernel_rfl, by kernel_rfl, by kernel_rfl, fun _ => ⟨by kernel_rfl, by kernel_rfl, by kernel_rfl, by kernel_rfl⟩⟩, fun _ _ h => by cases h⟩
theorem good_34 : FnGood Try.prog 34 fn34 := ⟨⟨Try.f34, by kernel_rfl, by kernel_rfl, by kernel_rfl, fun _ => ⟨by kernel_rfl, by kernel_rfl, by kernel_rfl, by kernel_rfl⟩⟩, fun _ _ h => by cases h⟩
theorem good_44 : FnGood Try.prog 44 fn44 := ⟨⟨Try.f44, by kernel_rfl, by kernel_rfl, by kernel_rfl, fun _ => ⟨by kernel_rfl, by kernel_rfl, by kernel_rfl, by kernel_rfl⟩⟩, fun _ _ h => by cases h⟩
theorem good_59 : FnGood Try.prog 59 fn59 := ⟨⟨Try.f59, by kernel_rfl, by kernel_rfl, by kernel_rfl, fun _ => ⟨by kernel_rfl, by kernel_rfl, by kernel_rfl, by kernel_rfl⟩⟩, fun _ _ h => by cases h⟩
theorem good_60 : FnGood Try.prog 60 fn60 := ⟨⟨Try.f60, by kernel_rfl, by kernel_rfl, by kernel_rfl, fun _ => ⟨by kernel_rfl, by kernel_rfl, by kernel_rfl, by kernel_rfl⟩⟩, fun _ _ h => by cases h⟩
theorem good_61 : FnGood Try.prog 61 fn61 := ⟨⟨Try.f61, by kernel_rfl, by kernel_rfl, by kernel_rfl, fun _ => ⟨by kernel_rfl, by kernel_rfl, by kernel_rfl, by kernel_rfl⟩⟩, fun _ _ h => by cases h⟩
theorem good_62 : FnGood Try.prog 62 fn62 := ⟨⟨Try.f62, by kernel_rfl, by kernel_rfl, by kernel_rfl, fun _ => ⟨by kernel_rfl, by kernel_rfl, by kernel_rfl, by kernel_rfl⟩⟩, fun _ _ h => by cases h⟩
theorem good_63 : FnGood Try.prog 63 fn63 := ⟨⟨Try.f63, by kernel_rfl, by kernel_rfl, by kernel_rfl, fun _ => ⟨by kernel_rfl, by kernel_rfl, by kernel_rfl, by kernel_rfl⟩⟩, fun _ _ h => by cases h⟩
theorem good_64 : FnGood Try.prog 64 fn64 := ⟨⟨Try.f64, by kernel_rfl, by kernel_rfl, by kernel_rfl, fun _ => ⟨by kernel_rfl, by kernel_rfl, by kernel_rfl, by kernel_rfl⟩⟩, fun _ _ h => by cases h⟩
theorem good_65 : FnGood Try.prog 65 fn65 := ⟨⟨Try.f65, by kernel_rfl, by kernel_rfl, by kernel_rfl, fun _ => ⟨by kernel_rfl, by kernel_rfl, by kernel_rfl, by kernel_rfl⟩⟩, fun _ _ h => by cases h⟩
theorem good_66 : FnGood Try.prog 66 fn66 := ⟨⟨Try.f66, by kernel_rfl, by kernel_rfl, by kernel_rfl, fun _ => ⟨by kernel_rfl, by kernel_rfl, by kernel_rfl, by kernel_rfl⟩⟩, fun _ _ h => by cases h⟩
theorem good_67 : FnGood Try.prog 67 fn67 := ⟨⟨Try.f67, by kernel_rfl, by kernel_rfl, by kernel_rfl, fun _ => ⟨by kernel_rfl, by kernel_rfl, by kernel_rfl, by kernel_rfl⟩⟩, fun _ _ h => by cases h⟩
theorem good_68 : FnGood Try.prog 68 fn68 := ⟨⟨Try.f68, by kernel_rfl, by kernel_rfl, by kernel_rfl, fun _ => ⟨by kernel_rfl, by kernel_rfl, by kernel_rfl, by kernel_rfl⟩⟩, fun _ _ h => by cases h⟩
theorem good_69 : FnGood Try.prog 69 fn69 := ⟨⟨Try.f69, by kernel_rfl, by kernel_rfl, by kernel_rfl, fun _ => ⟨by kernel_rfl, by kernel_rfl, by kernel_rfl, by kernel_rfl⟩⟩, fun _ _ h => by cases h⟩
theorem good_70 : FnGood Try.prog 70 fn70 := ⟨⟨Try.f70, by kernel_rfl, by kernel_rfl, by kernel_rfl, fun _ => ⟨by kernel_rfl, by kernel_rfl, by kernel_rfl, by kernel_rfl⟩⟩, fun _ _ h => by cases h⟩
theorem good_71 : FnGood Try.prog 71 fn71 := ⟨⟨Try.f71, by kernel_rfl, by kernel_rfl, by kernel_rfl, fun _ => ⟨by kernel_rfl, by kernel_rfl, by kernel_rfl, by kernel_rfl⟩⟩, fun _ _ h => by cases h⟩
theorem good_90 : FnGood Try.prog 90 fn90 := ⟨⟨Try.f90, by kernel_rfl, by kernel_rfl, by kernel_rfl, fun _ => ⟨by kernel_rfl, by kernel_rfl, by kernel_rfl, by kernel_rfl⟩⟩, fun _ _ h => by cases h⟩
theorem good_116 : FnGood Try.prog 116 fn116 := ⟨⟨Try.f116, by kernel_rfl, by kernel_rfl, by kernel_rfl, fun _ => ⟨by kernel_rfl, by kernel_rfl, by kernel_rfl, by kernel_rfl⟩⟩, fun _ _ h => by cases h⟩
theorem good_125 : FnGood Try.prog 125 fn125 := ⟨⟨Try.f125, by kernel_rfl, by kernel_rfl, by kernel_rfl, fun _ => ⟨by kernel_rfl, by kernel_rfl, by kernel_rfl, by kernel_rfl⟩⟩, fun _ _ h => by cases h⟩
theorem good_127 : FnGood Try.prog 127 fn127 := ⟨⟨Try.f127, by kernel_rfl, by kernel_rfl, by kernel_rfl, fun _ => ⟨by kernel_rfl, by kernel_rfl, by kernel_rfl, by kernel_rfl⟩⟩, fun _ _ h => by cases h⟩
theorem good_128 : FnGood Try.prog 128 fn128 := ⟨⟨Try.f128, by kernel_rfl, by kernel_rfl, by kernel_rfl, fun _ => ⟨by kernel_rfl, by kernel_rfl, by kernel_rfl, by kernel_rfl⟩⟩, fun _ _ h => by cases h⟩
theorem good_129 : FnGood Try.prog 129 fn129 := ⟨⟨Try.f129, by kernel_rfl, by kernel_rfl, by kernel_rfl, fun _ => ⟨by kernel_rfl, by kernel_rfl, by kernel_rfl, by kernel_rfl⟩⟩, fun _ _ h => by cases h⟩
theorem good_130 : FnGood Try.prog 130 fn130 := ⟨⟨Try.f130, by kernel_rfl, by kernel_rfl, by kernel_rfl, fun _ => ⟨by kernel_rfl, by kernel_rfl, by kernel_rfl, by kernel_rfl⟩⟩, fun _ _ h => by cases h⟩
theorem good_131 : FnGood Try.prog 131 fn131 := ⟨⟨Try.f131, by kernel_rfl, by kernel_rfl, by kernel_rfl, fun _ => ⟨by kernel_rfl, by kernel_rfl, by kernel_rfl, by kernel_rfl⟩⟩, fun _ _ h => by cases h⟩
theorem good_132 : FnGood Try.prog 132 fn132 := ⟨⟨Try.f132, by kernel_rfl, by kernel_rfl, by kernel_rfl, fun _ => ⟨by kernel_rfl, by kernel_rfl, by kernel_rfl, by kernel_rfl⟩⟩, fun _ _ h => by cases h⟩
theorem good_133 : FnGood Try.prog 133 fn133 := ⟨⟨Try.f133, by kernel_rfl, by kernel_rfl, by kernel_rfl, fun _ => ⟨by kernel_rfl, by kernel_rfl, by kernel_rfl, by kernel_rfl⟩⟩, fun _ _ h => by cases h⟩
theorem good_134 : FnGood Try.prog 134 fn134 := ⟨⟨Try.f134, by kernel_rfl, by kernel_rfl, by kernel_rfl, fun _ => ⟨by kernel_rfl, by kernel_rfl, by kernel_rfl, by kernel_rfl⟩⟩, fun _ _ h => by cases h⟩
theorem good_135 : FnGood Try.prog 135 fn135 := ⟨⟨Try.f135, by kernel_rfl, by kernel_rfl, by kernel_rfl, fun _ => ⟨by kernel_rfl, by kernel_rfl, by kernel_rfl, by kernel_rfl⟩⟩, fun _ _ h => by cases h⟩
theorem good_136 : FnGood Try.prog 136 fn136 := ⟨⟨Try.f136, by kernel_rfl, by kernel_rfl, by kernel_rfl, fun _ => ⟨by kernel_rfl, by kernel_rfl, by kernel_rfl, by kernel_rfl⟩⟩, fun _ _ h => by cases h⟩
theorem good_137 : FnGood Try.prog 137 fn137 := ⟨⟨Try.f137, by kernel_rfl, by kernel_rfl, by kernel_rfl, fun _ => ⟨by kernel_rfl, by kernel_rfl, by kernel_rfl, by kernel_rfl⟩⟩, fun _ _ h => by cases h⟩
theorem good_159 : FnGood Try.prog 159 fn159 := ⟨⟨Try.f159, by kernel_rfl, by kernel_rfl, by kernel_rfl, fun h => by cases h⟩, fun _ _ h => by cases h; exact clone_ok tok mixed_ T_69 rfl T_9 (by decide) (fc := Try.f159) (by kernel_rfl) (by kernel_rfl) (by kernel_rfl) (by kernel_rfl)⟩
theorem good_185 : FnGood Try.prog 185 fn185 := ⟨⟨Try.f185, by kernel_rfl, by kernel_rfl, by kernel_rfl, fun _ => ⟨by kernel_rfl, by kernel_rfl, by kernel_rfl, by kernel_rfl⟩⟩, fun _ _ h => by cases h⟩
theorem good_186 : FnGood Try.prog 186 fn186 := ⟨⟨Try.f186, by kernel_rfl, by kernel_rfl, by kernel_rfl, fun _ => ⟨by kernel_rfl, by kernel_rfl, by kernel_rfl, by kernel_rfl⟩⟩, fun _ _ h => by cases h⟩
theorem good_187 : FnGood Try.prog 187 fn187 := ⟨⟨Try.f187, by kernel_rfl, by kernel_rfl, by kernel_rfl, fun _ => ⟨by kernel_rfl, by kernel_rfl, by kernel_rfl, by kernel_rfl⟩⟩, fun _ _ h => by cases h⟩
theorem good_188 : FnGood Try.prog 188 fn188 := ⟨⟨Try.f188, by kernel_rfl, by kernel_rfl, by kernel_rfl, fun h => by cases h⟩, fun _ _ h => by cases h; exact clone_ok tok mixed_ T_51 rfl T_145 (by decide) (fc := Try.f188) (by kernel_rfl) (by kernel_rfl) (by kernel_rfl) (by kernel_rfl)⟩
theorem good_189 : FnGood Try.prog 189 fn189 := ⟨⟨Try.f189, by kernel_rfl, by kernel_rfl, by kernel_rfl, fun h => by cases h⟩, fun _ _ h => by cases h; exact clone_ok tok mixed_ T_90 rfl T_100 (by decide) (fc := Try.f189) (by kernel_rfl) (by kernel_rfl) (by kernel_rfl) (by kernel_rfl)⟩
theorem good_190 : FnGood Try.prog 190 fn190 := ⟨⟨Try.f190, by kernel_rfl, by kernel_rfl, by kernel_rfl, fun h => by cases h⟩, fun _ _ h => by cases h; exact clone_ok tok mixed_ T_91 rfl T_121 (by decide) (fc := Try.f190) (by kernel_rfl) (by kernel_rfl) (by kernel_rfl) (by kernel_rfl)⟩
theorem good_219 : FnGood Try.prog 219 fn219 := ⟨⟨Try.f219, by kernel_rfl, by kernel_rfl, by kernel_rfl, fun _ => ⟨by kernel_rfl, by kernel_rfl, by kernel_rfl, by kernel_rfl⟩⟩, fun _ _ h => by cases h⟩
theorem good_220 : FnGood Try.prog 220 fn220 := ⟨⟨Try.f220, by kernel_rfl, by kernel_rfl, by kernel_rfl, fun _ => ⟨by kernel_rfl, by kernel_rfl, by kernel_rfl, by kernel_rfl⟩⟩, fun _ _ h => by cases h⟩
theorem good_221 : FnGood Try.prog 221 fn221 := ⟨⟨Try.f221, by kernel_rfl, by kernel_rfl, by kernel_rfl, fun _ => ⟨by kernel_rfl, by kernel_rfl, by kernel_rfl, by kernel_rfl⟩⟩, fun _ _ h => by cases h⟩
theorem good_222 : FnGood Try.prog 222 fn222 := ⟨⟨Try.f222, by kernel_rfl, by kernel_rfl, by kernel_rfl, fun _ => ⟨by kernel_rfl, by kernel_rfl, by kernel_rfl, by kernel_rfl⟩⟩, fun _ _ h => by cases h⟩
theorem good_236 : FnGood Try.prog 236 fn236 := ⟨⟨Try.f236, by kernel_rfl, by kernel_rfl, by kernel_rfl, fun _ => ⟨by kernel_rfl, by kernel_rfl, by kernel_rfl, by kernel_rfl⟩⟩, fun _ _ h => by cases h⟩
theorem good : ∀ g fn, fns g = some fn → FnGood Try.prog g fn := by
  intro g fn h
  unfold fns at h
  split at h <;> first | (cases h; done) | (cases h; first | exact good_3 | exact good_4 | exact good_14 | exact good_15 | exact good_16 | exact good_17 | exact good_18 | exact good_19 | exact good_34 | exact good_44 | exact good_59 | exact good_60 | exact good_61 | exact good_62 | exact good_63 | exact good_64 | exact good_65 | exact good_66 | exact good_67 | exact good_68 | exact good_69 | exact good_70 | exact good_71 | exact good_90 | exact good_116 | exact good_125 | exact good_127 | exact good_128 | exact good_129 | exact good_130 | exact good_131 | exact good_132 | exact good_133 | exact good_134 | exact good_135 | exact good_136 | exact good_137 | exact good_159 | exact good_185 | exact good_186 | exact good_187 | exact good_188 | exact good_189 | exact good_190 | exact good_219 | exact good_220 | exact good_221 | exact good_222 | exact good_236)
theorem called (R d : Nat) (g : FuncId) : FunOK Try.prog g (acall T fns R d g) := acall_ok tok mixed_ good d g
end Go.Proofs.Ytfdemnefkfkghaa.R
