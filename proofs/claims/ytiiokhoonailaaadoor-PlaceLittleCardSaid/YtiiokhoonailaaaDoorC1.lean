/- Rank's comparison, and the stable sort of at most 20 nodes. Conditions: as each theorem says. -/
import Derived.Test.YtiiokhoonailaaaDoorC0
import Derived.Shelf.SlSortCmp.Insertion1
import Derived.WalkLawsBesides
namespace Go.Proofs.YtiiokhoonailaaaDoor.D
open Go.RowKit Go.Sort Go.Proofs.YtiiokhoonailaaaDoorW.PrintWords Go.Proofs.YtiiokhoonailaaaDoorW.PrintLast Go.Proofs.YtiiokhoonailaaaDoorW.PrintMore
open Go.Proofs.YtiiokhoonailaaaDoor.R

def encF (i : Fin 7) : Value := .int .i64 ((i.val : Nat) : Int)
def cfF (s : ByteArray) (x y : Fin 7) : Int := (scN s y.val : Int) - (scN s x.val : Int)

set_option maxRecDepth 100000 in
set_option maxHeartbeats 400000 in
theorem cmp_calls (s : ByteArray) (hs : s.size ≤ 1073741000) (a b : Nat) (ha : a < 7) (hb : b < 7) (W : World) (g : Nat) (hc : W.cell? ⟨g, 0, none⟩ = some (.string s)) :
    Calls Tryd.prog 29 #[.int .i64 (a : Int), .int .i64 (b : Int), .pointer (some ⟨g, 0, none⟩)] W fun e w' => e = .returned (.int .i64 ((scN s b : Int) - (scN s a : Int))) ∧ Grn W w' := by
  have hA : Aside0 (∀ V, Calls Tryd.prog 26 #[.string s, .int .i64 (a : Int)] V fun e w' => e = .returned (.int .i64 ((scN s a : Nat) : Int)) ∧ Grn V w') := ⟨fun V => score_calls s a ha hs V⟩
  have hB : Aside0 (∀ V, Calls Tryd.prog 26 #[.string s, .int .i64 (b : Int)] V fun e w' => e = .returned (.int .i64 ((scN s b : Nat) : Int)) ∧ Grn V w') := ⟨fun V => score_calls s b hb hs V⟩
  have hp := scN_lt s a
  have hq := scN_lt s b
  generalize scN s a = p at *
  generalize scN s b = q at *
  have hcd : Aside0 (W.drew.cell? ⟨g, 0, none⟩ = some (.string s)) := ⟨hc⟩
  have hw : IntKind.i64.wrap ((q : Int) - (p : Int)) = (q : Int) - (p : Int) := IntWalk.i64_in _ (by omega)
  clear ha hb hs
  go_enter Tryd.func29, Tryd.ntmps29
  go_wp2
  go_region_with (go_at_call 26; first
    | ((with_reducible refine (hA.out _).mono ?_); rintro e wa ⟨rfl, ga⟩; have ca : wa.cell? ⟨g, 0, none⟩ = some (.string s) := (by first | exact pw_cell_below ga.below hcd.out | exact pw_cell_below ga.below cb); have GA := Aside0.mk ga; clear ga)
    | ((with_reducible refine (hB.out _).mono ?_); rintro e wb ⟨rfl, gb⟩; have cb : wb.cell? ⟨g, 0, none⟩ = some (.string s) := (by first | exact pw_cell_below gb.below hcd.out | exact pw_cell_below gb.below ca); have GB := Aside0.mk gb; clear gb))
  all_goals
    go_wp2
    go_ret
    exact ⟨rfl, by first | exact (Grn.drew _).then_ (GA.out.then_ GB.out) | exact (Grn.drew _).then_ (GB.out.then_ GA.out)⟩
end Go.Proofs.YtiiokhoonailaaaDoor.D
