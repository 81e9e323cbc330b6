/- The kinds of the arguments of marcot/marcotlaw16.PlaceNumbers: what they read as, as Lean values. -/
import Derived.Test.YtkjgiapiomnmiaaOpen
namespace Go.Proofs.Ytkjgiapiomnmiaa.KPlaceNumbers
open Go.RowKit Go.Proofs.YtkjgiapiomnmiaaW.PrintWords Go.Proofs.Ytkjgiapiomnmiaa.Opn
def g3 (x : Int) : Prop := (Lit.int .i64 x).wf = true
def m3 (_ : Int) : Nat := 1
theorem o3 : Opens Try.prog 3 (Kd.int .i64) g3 m3 := opens_int Try.underlying3 (by kernel_rfl)
structure S23 where
  f0 : Int
  f1 : Int
  f2 : Int
  f3 : Int
  f4 : Int
  f5 : Int
  f6 : Int
def k23 : Kd S23 := Kd.iso (Kd.pair (Kd.int .i64) (Kd.pair (Kd.int .i64) (Kd.pair (Kd.int .i64) (Kd.pair (Kd.int .i64) (Kd.pair (Kd.int .i64) (Kd.pair (Kd.int .i64) (Kd.int .i64))))))) (fun x : S23 => (x.f0, x.f1, x.f2, x.f3, x.f4, x.f5, x.f6))
theorem k23_open {w : World} {x : S23} {cs : List Value} (h : k23.K w x cs) : cs = [.int .i64 x.f0, .int .i64 x.f1, .int .i64 x.f2, .int .i64 x.f3, .int .i64 x.f4, .int .i64 x.f5, .int .i64 x.f6] := by
  obtain ⟨_, _, rfl, rfl, ⟨_, _, rfl, rfl, ⟨_, _, rfl, rfl, ⟨_, _, rfl, rfl, ⟨_, _, rfl, rfl, ⟨_, _, rfl, rfl, rfl⟩⟩⟩⟩⟩⟩ := h
  exact rfl
def g23 (x : S23) : Prop := g3 x.f0 ∧ g3 x.f1 ∧ g3 x.f2 ∧ g3 x.f3 ∧ g3 x.f4 ∧ g3 x.f5 ∧ g3 x.f6
def m23 (x : S23) : Nat := m3 x.f0 + m3 x.f1 + m3 x.f2 + m3 x.f3 + m3 x.f4 + m3 x.f5 + m3 x.f6
theorem o23 : Opens Try.prog 23 k23 g23 m23 :=
  opens_imp (opens_struct (fun x : S23 => (x.f0, x.f1, x.f2, x.f3, x.f4, x.f5, x.f6)) (fun x => ⟨x.1, x.2.1, x.2.2.1, x.2.2.2.1, x.2.2.2.2.1, x.2.2.2.2.2.1, x.2.2.2.2.2.2⟩) (fun _ => rfl) Try.underlying23 (by kernel_rfl) (by kernel_rfl) (opensF_cons o3 (opensF_cons o3 (opensF_cons o3 (opensF_cons o3 (opensF_cons o3 (opensF_cons o3 (opensF_one o3)))))))) (fun _ h => h) (fun x => by simp only [m23]; omega)
def g28 (x : Int) : Prop := (Lit.int .u64 x).wf = true
def m28 (_ : Int) : Nat := 1
theorem o28 : Opens Try.prog 28 (Kd.int .u64) g28 m28 := opens_int Try.underlying28 (by kernel_rfl)
def g32 (x : Int) : Prop := (Lit.int .u32 x).wf = true
def m32 (_ : Int) : Nat := 1
theorem o32 : Opens Try.prog 32 (Kd.int .u32) g32 m32 := opens_int Try.underlying32 (by kernel_rfl)
def g33 (x : Int) : Prop := (Lit.int .u16 x).wf = true
def m33 (_ : Int) : Nat := 1
theorem o33 : Opens Try.prog 33 (Kd.int .u16) g33 m33 := opens_int Try.underlying33 (by kernel_rfl)
end Go.Proofs.Ytkjgiapiomnmiaa.KPlaceNumbers
