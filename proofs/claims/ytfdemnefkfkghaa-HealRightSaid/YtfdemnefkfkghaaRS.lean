/- The kinds of the laws' arguments: what they read as, as Lean values and as the machine's. -/
import Derived.Test.YtfdemnefkfkghaaRP
import Derived.KernelRfl
namespace Go.Proofs.Ytfdemnefkfkghaa.R
open Go Go.RowKit Go.Proofs
def g42 (x : Int) : Prop := (Lit.int .u32 x).wf = true
def m42 (_ : Int) : Nat := 1
theorem o42 : Opens Try.prog 42 (Cd.int .u32) g42 m42 := opens_int Try.underlying42 (by kernel_rfl)
def g4 (_ : Bool) : Prop := True
def m4 (_ : Bool) : Nat := 1
theorem o4 : Opens Try.prog 4 Cd.bool g4 m4 := opens_bool Try.underlying4 (by kernel_rfl)
def g9 (s : ByteArray) : Prop := s.size ≤ 140737488351232
def m9 (s : ByteArray) : Nat := s.size + 1
theorem o9 : Opens Try.prog 9 Cd.str g9 m9 := opens_string Try.underlying9 (by kernel_rfl)
structure S145 where
  f0 : ByteArray
  f1 : ByteArray
deriving DecidableEq
def k145 : Cd S145 := Cd.iso (Cd.pair Cd.str Cd.str) (fun x : S145 => (x.f0, x.f1))
theorem k145_enc (x : S145) : k145.enc x = [.str x.f0, .str x.f1] := rfl
theorem all145 (l : List S145) : ((l.map k145.enc).all fun r => r.length == 2) = true := all_enc k145 l
def g145 (x : S145) : Prop := g9 x.f0 ∧ g9 x.f1
def m145 (x : S145) : Nat := m9 x.f0 + m9 x.f1
theorem o145 : Opens Try.prog 145 k145 g145 m145 :=
  opens_imp (opens_struct (fun x : S145 => (x.f0, x.f1)) (fun x => ⟨x.1, x.2⟩) (fun _ => rfl) Try.underlying145 (by kernel_rfl) (by kernel_rfl) (opensF_cons o9 (opensF_one o9))) (fun _ h => h) (fun x => by simp only [m145]; omega)
def g51 (xs : List S145) : Prop := xs.length * 32 ≤ 140737488351232 ∧ ∀ a ∈ xs, g145 a
def m51 (xs : List S145) : Nat := (xs.map m145).sum + 1
theorem b51 : Try.prog.bytesOf 145 = 32 := by kernel_rfl
theorem o51 : Opens Try.prog 51 (Cd.slice k145) g51 m51 := by
  refine opens_imp (opens_slice Try.underlying51 (by kernel_rfl) (by decide) o145) (fun a h => ?_) (fun a => Nat.le_refl _)
  rw [b51] at h
  exact h
def g69 (xs : List ByteArray) : Prop := xs.length * 16 ≤ 140737488351232 ∧ ∀ a ∈ xs, g9 a
def m69 (xs : List ByteArray) : Nat := (xs.map m9).sum + 1
theorem b69 : Try.prog.bytesOf 9 = 16 := by kernel_rfl
theorem o69 : Opens Try.prog 69 (Cd.slice Cd.str) g69 m69 := by
  refine opens_imp (opens_slice Try.underlying69 (by kernel_rfl) (by decide) o9) (fun a h => ?_) (fun a => Nat.le_refl _)
  rw [b69] at h
  exact h
def g96 (x : Int) : Prop := (Lit.int .u16 x).wf = true
def m96 (_ : Int) : Nat := 1
theorem o96 : Opens Try.prog 96 (Cd.int .u16) g96 m96 := opens_int Try.underlying96 (by kernel_rfl)
structure S98 where
  f0 : ByteArray
  f1 : ByteArray
deriving DecidableEq
def k98 : Cd S98 := Cd.iso (Cd.pair Cd.str Cd.str) (fun x : S98 => (x.f0, x.f1))
theorem k98_enc (x : S98) : k98.enc x = [.str x.f0, .str x.f1] := rfl
theorem all98 (l : List S98) : ((l.map k98.enc).all fun r => r.length == 2) = true := all_enc k98 l
def g98 (x : S98) : Prop := g9 x.f0 ∧ g9 x.f1
def m98 (x : S98) : Nat := m9 x.f0 + m9 x.f1
theorem o98 : Opens Try.prog 98 k98 g98 m98 :=
  opens_imp (opens_struct (fun x : S98 => (x.f0, x.f1)) (fun x => ⟨x.1, x.2⟩) (fun _ => rfl) Try.underlying98 (by kernel_rfl) (by kernel_rfl) (opensF_cons o9 (opensF_one o9))) (fun _ h => h) (fun x => by simp only [m98]; omega)
structure S100 where
  f0 : Int
  f1 : Int
  f2 : S98
deriving DecidableEq
def k100 : Cd S100 := Cd.iso (Cd.pair (Cd.int .u32) (Cd.pair (Cd.int .u16) k98)) (fun x : S100 => (x.f0, x.f1, x.f2))
theorem k100_enc (x : S100) : k100.enc x = [.int .u32 x.f0, .int .u16 x.f1, .str x.f2.f0, .str x.f2.f1] := rfl
theorem all100 (l : List S100) : ((l.map k100.enc).all fun r => r.length == 4) = true := all_enc k100 l
def g100 (x : S100) : Prop := g42 x.f0 ∧ g96 x.f1 ∧ g98 x.f2
def m100 (x : S100) : Nat := m42 x.f0 + m96 x.f1 + m98 x.f2
theorem o100 : Opens Try.prog 100 k100 g100 m100 :=
  opens_imp (opens_struct (fun x : S100 => (x.f0, x.f1, x.f2)) (fun x => ⟨x.1, x.2.1, x.2.2⟩) (fun _ => rfl) Try.underlying100 (by kernel_rfl) (by kernel_rfl) (opensF_cons o42 (opensF_cons o96 (opensF_one o98)))) (fun _ h => h) (fun x => by simp only [m100]; omega)
def g90 (xs : List S100) : Prop := xs.length * 40 ≤ 140737488351232 ∧ ∀ a ∈ xs, g100 a
def m90 (xs : List S100) : Nat := (xs.map m100).sum + 1
theorem b90 : Try.prog.bytesOf 100 = 40 := by kernel_rfl
theorem o90 : Opens Try.prog 90 (Cd.slice k100) g90 m90 := by
  refine opens_imp (opens_slice Try.underlying90 (by kernel_rfl) (by decide) o100) (fun a h => ?_) (fun a => Nat.le_refl _)
  rw [b90] at h
  exact h
def g5 (x : Int) : Prop := (Lit.int .u8 x).wf = true
def m5 (_ : Int) : Nat := 1
theorem o5 : Opens Try.prog 5 (Cd.int .u8) g5 m5 := opens_int Try.underlying5 (by kernel_rfl)
structure S121 where
  f0 : Int
  f1 : ByteArray
  f2 : ByteArray
  f3 : Int
  f4 : Int
  f5 : ByteArray
deriving DecidableEq
def k121 : Cd S121 := Cd.iso (Cd.pair (Cd.int .u8) (Cd.pair Cd.str (Cd.pair Cd.str (Cd.pair (Cd.int .u32) (Cd.pair (Cd.int .u16) Cd.str))))) (fun x : S121 => (x.f0, x.f1, x.f2, x.f3, x.f4, x.f5))
theorem k121_enc (x : S121) : k121.enc x = [.int .u8 x.f0, .str x.f1, .str x.f2, .int .u32 x.f3, .int .u16 x.f4, .str x.f5] := rfl
theorem all121 (l : List S121) : ((l.map k121.enc).all fun r => r.length == 6) = true := all_enc k121 l
def g121 (x : S121) : Prop := g5 x.f0 ∧ g9 x.f1 ∧ g9 x.f2 ∧ g42 x.f3 ∧ g96 x.f4 ∧ g9 x.f5
def m121 (x : S121) : Nat := m5 x.f0 + m9 x.f1 + m9 x.f2 + m42 x.f3 + m96 x.f4 + m9 x.f5
theorem o121 : Opens Try.prog 121 k121 g121 m121 :=
  opens_imp (opens_struct (fun x : S121 => (x.f0, x.f1, x.f2, x.f3, x.f4, x.f5)) (fun x => ⟨x.1, x.2.1, x.2.2.1, x.2.2.2.1, x.2.2.2.2.1, x.2.2.2.2.2⟩) (fun _ => rfl) Try.underlying121 (by kernel_rfl) (by kernel_rfl) (opensF_cons o5 (opensF_cons o9 (opensF_cons o9 (opensF_cons o42 (opensF_cons o96 (opensF_one o9))))))) (fun _ h => h) (fun x => by simp only [m121]; omega)
def g91 (xs : List S121) : Prop := xs.length * 64 ≤ 140737488351232 ∧ ∀ a ∈ xs, g121 a
def m91 (xs : List S121) : Nat := (xs.map m121).sum + 1
theorem b91 : Try.prog.bytesOf 121 = 64 := by kernel_rfl
theorem o91 : Opens Try.prog 91 (Cd.slice k121) g91 m91 := by
  refine opens_imp (opens_slice Try.underlying91 (by kernel_rfl) (by decide) o121) (fun a h => ?_) (fun a => Nat.le_refl _)
  rw [b91] at h
  exact h
structure S93 where
  f0 : Bool
  f1 : (List S145)
  f2 : (List ByteArray)
  f3 : (List S100)
  f4 : (List S121)
deriving DecidableEq
def k93 : Cd S93 := Cd.iso (Cd.pair Cd.bool (Cd.pair (Cd.slice k145) (Cd.pair (Cd.slice Cd.str) (Cd.pair (Cd.slice k100) (Cd.slice k121))))) (fun x : S93 => (x.f0, x.f1, x.f2, x.f3, x.f4))
theorem k93_enc (x : S93) : k93.enc x = [.bool x.f0, .fz (x.f1.map k145.enc), .fz (x.f2.map Cd.str.enc), .fz (x.f3.map k100.enc), .fz (x.f4.map k121.enc)] := rfl
theorem all93 (l : List S93) : ((l.map k93.enc).all fun r => r.length == 5) = true := all_enc k93 l
def g93 (x : S93) : Prop := g4 x.f0 ∧ g51 x.f1 ∧ g69 x.f2 ∧ g90 x.f3 ∧ g91 x.f4
def m93 (x : S93) : Nat := m4 x.f0 + m51 x.f1 + m69 x.f2 + m90 x.f3 + m91 x.f4
theorem o93 : Opens Try.prog 93 k93 g93 m93 :=
  opens_imp (opens_struct (fun x : S93 => (x.f0, x.f1, x.f2, x.f3, x.f4)) (fun x => ⟨x.1, x.2.1, x.2.2.1, x.2.2.2.1, x.2.2.2.2⟩) (fun _ => rfl) Try.underlying93 (by kernel_rfl) (by kernel_rfl) (opensF_cons o4 (opensF_cons o51 (opensF_cons o69 (opensF_cons o90 (opensF_one o91)))))) (fun _ h => h) (fun x => by simp only [m93]; omega)
structure S95 where
  f0 : Int
  f1 : S93
deriving DecidableEq
def k95 : Cd S95 := Cd.iso (Cd.pair (Cd.int .u32) k93) (fun x : S95 => (x.f0, x.f1))
theorem k95_enc (x : S95) : k95.enc x = [.int .u32 x.f0, .bool x.f1.f0, .fz (x.f1.f1.map k145.enc), .fz (x.f1.f2.map Cd.str.enc), .fz (x.f1.f3.map k100.enc), .fz (x.f1.f4.map k121.enc)] := rfl
theorem all95 (l : List S95) : ((l.map k95.enc).all fun r => r.length == 6) = true := all_enc k95 l
def g95 (x : S95) : Prop := g42 x.f0 ∧ g93 x.f1
def m95 (x : S95) : Nat := m42 x.f0 + m93 x.f1
theorem o95 : Opens Try.prog 95 k95 g95 m95 :=
  opens_imp (opens_struct (fun x : S95 => (x.f0, x.f1)) (fun x => ⟨x.1, x.2⟩) (fun _ => rfl) Try.underlying95 (by kernel_rfl) (by kernel_rfl) (opensF_cons o42 (opensF_one o93))) (fun _ h => h) (fun x => by simp only [m95]; omega)
def g22 (xs : List S95) : Prop := xs.length * 112 ≤ 140737488351232 ∧ ∀ a ∈ xs, g95 a
def m22 (xs : List S95) : Nat := (xs.map m95).sum + 1
theorem b22 : Try.prog.bytesOf 95 = 112 := by kernel_rfl
theorem o22 : Opens Try.prog 22 (Cd.slice k95) g22 m22 := by
  refine opens_imp (opens_slice Try.underlying22 (by kernel_rfl) (by decide) o95) (fun a h => ?_) (fun a => Nat.le_refl _)
  rw [b22] at h
  exact h
end Go.Proofs.Ytfdemnefkfkghaa.R
