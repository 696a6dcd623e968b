/- What a reading of the laws' arguments tells. Conditions: none. -/
import Derived.Test.YtiiokhoonailaaaDoorO
import Derived.Test.YtiiokhoonailaaaDoorR0
import Derived.KernelRfl
namespace Go.Proofs.YtiiokhoonailaaaDoor.D
open Go.RowKit Go.Proofs.YtiiokhoonailaaaDoorW.PrintWords
open Go.Proofs.YtiiokhoonailaaaDoor.R

theorem opens_ints : Opens Tryd.prog (Kd.slice 3 (Kd.int .i64)) 23 (fun xs => ∀ x ∈ xs, (Lit.int .i64 x).wf = true) := .slice Tryd.underlying23 (by kernel_rfl) (.int Tryd.underlying3 (by kernel_rfl))
theorem opens_names : Opens Tryd.prog (Kd.slice 9 Kd.string) 30 (fun xs => ∀ x ∈ xs, x.size ≤ maxLen) := .slice Tryd.underlying30 (by kernel_rfl) (.string Tryd.underlying9 (by kernel_rfl))
theorem opens_pl : Opens Tryd.prog k26 26 (fun _ => True) :=
  Opens.mono (Opens.iso (Opens.struct Tryd.underlying26 (by kernel_rfl) (.cons (.string Tryd.underlying9 (by kernel_rfl)) rfl (.one opens_ints rfl))) (fun x : S26 => (x.f0, x.f1)) (fun y => ⟨y.1, y.2⟩) (fun _ => rfl)) (fun _ _ => trivial)
theorem opens_pls : Opens Tryd.prog (Kd.slice 26 k26) 22 (fun xs => ∀ x ∈ xs, True) := .slice Tryd.underlying22 (by kernel_rfl) opens_pl
end Go.Proofs.YtiiokhoonailaaaDoor.D
