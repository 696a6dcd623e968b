/- An argument that is two numbers in an array. Conditions: the type, as the program has it. -/
import Derived.Test.YtiiokhoonailaaaDoorG4
import Derived.Test.YtiiokhoonailaaaDoorG5
import Derived.OpenShut
import Derived.WideShapes
namespace Go.Proofs.YtiiokhoonailaaaDoor.D
open Go.RowKit Go.Proofs.YtiiokhoonailaaaDoorW.PrintWords
theorem okWide_array {P : Program} {w : World} {r : Reach} {base : Nat} {t : TypeId} {v : Value} {n : Nat} {e : TypeId} (ht : P.underlying t = some (.array n e)) (h : Value.okWide P w r base t v) : ∃ cs, v = .agg cs ∧ cs.size = P.cellsOf t := by
  simp only [Value.okWide, ht] at h
  obtain ⟨cs, h1, h2, _⟩ := h
  exact ⟨cs, h1, h2⟩
theorem open_two {H : Type} {enc : TypeId × Value → H} {w : World} {base : Nat} {spare : Nat → Bool} {held : Bool} {cs : Array Value} {dd : DataW H} {ps : List MemPlace}
    (hd : DataW.Trod enc Tryd.prog w base spare held 31 (.agg cs) dd ps) : ∃ a b : Int, cs = #[.int .i64 a, .int .i64 b] ∧ True := by
  obtain ⟨n, hn⟩ := hd
  obtain ⟨xs, m, _, _, hl, hxl, hf⟩ := DataW.trod_array Tryd.underlying31 hn
  have h3 : Tryd.prog.cellsOf 3 = 1 := by kernel_rfl
  have h31 : Tryd.prog.cellsOf 31 = 2 := by kernel_rfl
  rw [h31] at hl
  rw [h3] at hf
  have hg : ∀ i, i < 2 → ∃ z, ((cs.toList.drop (i * 1)).take 1) = [Value.int .i64 z] := fun i hi => by
    have h := hf i hi
    rw [List.getElem?_eq_getElem (by omega)] at h
    obtain ⟨z, hz, _⟩ := DataW.trod_int Tryd.underlying3 h
    exact ⟨z, hz⟩
  obtain ⟨a, ha⟩ := hg 0 (by decide)
  obtain ⟨b, hb⟩ := hg 1 (by decide)
  refine ⟨a, b, ?_, trivial⟩
  have hl : cs.toList.length = 2 := hl
  apply Array.toList_inj.1
  match hc : cs.toList with
  | [] => rw [hc] at hl; simp at hl
  | [_] => rw [hc] at hl; simp at hl
  | [u, v] =>
    rw [hc] at ha hb
    simp at ha hb
    rw [ha, hb]
  | _ :: _ :: _ :: _ => rw [hc] at hl; simp at hl
end Go.Proofs.YtiiokhoonailaaaDoor.D
