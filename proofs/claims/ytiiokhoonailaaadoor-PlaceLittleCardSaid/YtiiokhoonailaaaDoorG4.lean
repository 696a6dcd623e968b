/- An argument that is a change: two lists of nodes. Conditions: the type, as the program has it. -/
import Derived.Test.YtiiokhoonailaaaDoorG3
import Derived.Test.YtiiokhoonailaaaDoorG2
namespace Go.Proofs.YtiiokhoonailaaaDoor.D
open Go.RowKit Go.Proofs.YtiiokhoonailaaaDoorW.PrintWords Go.Proofs.YtiiokhoonailaaaDoorW.PrintLast Go.Proofs.YtiiokhoonailaaaDoorW.PrintMore
theorem opens_change : Opens Tryd.prog (Kd.pair KL KL) 45 (fun _ => True) :=
  Opens.mono (Opens.struct Tryd.underlying45 (by kernel_rfl) (.cons opens_ints rfl (.one opens_ints rfl))) (fun _ _ => trivial)
theorem open_change {H : Type} {enc : TypeId × Value → H} {w : World} {base : Nat} {spare : Nat → Bool} {held : Bool} {cs : Array Value} {dd : DataW H} {ps : List MemPlace}
    (hd : DataW.Trod enc Tryd.prog w base spare held 45 (.agg cs) dd ps) : ∃ (x y : List Int) (A B : Option Addr) (a b : Nat), cs = #[.slice A x.length a, .slice B y.length b] ∧ (Kd.C (Kd.int .i64) w A x.length x ∧ x.length ≤ a) ∧ Kd.C (Kd.int .i64) w B y.length y ∧ y.length ≤ b := by
  obtain ⟨n, hn⟩ := hd
  obtain ⟨y, ⟨c1, c2, e, ⟨A, a, rfl, h1, h2⟩, ⟨B, b, rfl, h3, h4⟩⟩, _⟩ := opens_change.op hn
  refine ⟨y.1, y.2, A, B, a, b, ?_, ⟨h2, h1⟩, h4, h3⟩
  have e' : cs.toList = [.slice A y.1.length a, .slice B y.2.length b] := e
  exact Array.toList_inj.1 e'
end Go.Proofs.YtiiokhoonailaaaDoor.D
