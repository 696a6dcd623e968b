/- The reference's Same, on two lists that hold the same. Conditions: as the theorem says. -/
import Derived.Test.YtiiokhoonailaaaDoorC4
import Derived.Deep.QuietTactic
import Derived.BigQuiet
namespace Go.Proofs.YtiiokhoonailaaaDoor.D
open Go.RowKit Go.Sort Go.Proofs.YtiiokhoonailaaaDoorW.PrintWords Go.Proofs.YtiiokhoonailaaaDoorW.PrintLast Go.Proofs.YtiiokhoonailaaaDoorW.PrintMore
open Go.Proofs.YtiiokhoonailaaaDoor.R

def TruePost (w : World) (e : Ending) (w' : World) : Prop := e = .returned (.bool true) ∧ Below w.heap.size w w'
set_option maxRecDepth 100000 in
set_option maxHeartbeats 400000 in
theorem same_calls (T : List S26) (A B : Option Addr) (ca cb : Nat) (w : World) (hA : Kd.C k26 w A T.length T) (hB : Kd.C k26 w B T.length T) (hT : T.length < 1073741824) (hp : ∀ p ∈ T, p.f1.length < 1073741824) :
    Calls Tryd.prog 21 #[.slice A T.length ca, .slice B T.length cb] w (TruePost w) := by
  unfold TruePost
  have HA := Aside0.mk hA
  have HB := Aside0.mk hB
  have hu26 := Tryd.underlying26
  clear hA hB
  go_enter Tryd.func21, Tryd.ntmps21
  go_wp2
  go_loopw [14] (fun vi wr => ∃ k : Nat, k ≤ T.length ∧ vi = .int .i64 k ∧ Below w.heap.size w wr) (fun vi _ => T.length - (intOf vi).toNat)
  case atStart => exact ⟨0, Nat.zero_le _, rfl, Below.refl _ _⟩
  case round =>
    obtain ⟨k, hk, rfl, hbr⟩ := hrel
    by_cases hkn : k < T.length
    · have dk : decide ((k : Int) < (T.length : Int)) = true := by simp; omega
      obtain ⟨ad, A1, c1, ead, hq0, hq1, hl1, hC1⟩ := at_T26 (Kd.C_below HA.out hbr) (k : Int) (by omega) (by omega)
      obtain ⟨bd, B1, d1, ebd, hr0, hr1, hm1, hD1⟩ := at_T26 (Kd.C_below HB.out hbr) (k : Int) (by omega) (by omega)
      have hpk := hp T[k] (List.getElem_mem hkn)
      rw [rdT hkn] at hq0 hq1 hl1 hC1 hr0 hr1 hm1 hD1
      rw [Int.toNat_natCast] at hq0 hq1 hr0 hr1
      subst ead
      subst ebd
      generalize T[k] = x at *
      have HBR := Aside0.mk hbr
      have hba := below_alloc (Below.refl _ wr) (.cells #[.string x.f0, .slice A1 x.f1.length c1] 26)
      have hbx := heap_alloc_new wr (.cells #[.string x.f0, .slice A1 x.f1.length c1] 26)
      have hr0' := pw_cell_below hba hr0
      have hr1' := pw_cell_below hba hr1
      have h8 : Aside0 (∀ n, Calls Tryd.prog 8 #[.slice A1 x.f1.length c1, .slice B1 x.f1.length d1] ((wr.alloc (.cells #[.string x.f0, .slice A1 x.f1.length c1] 26)).drewN n) fun e w' => e = .returned (.bool true) ∧ ∃ m, w' = ((wr.alloc (.cells #[.string x.f0, .slice A1 x.f1.length c1] 26)).drewN n).drewN m) := ⟨fun n => by
        have hbn := pw_below_drewN hba n
        refine (slices_Equal_int_int.calls (x.f1.length + 1) A1 c1 x.f1 B1 d1 x.f1 true _ (Kd.C_below hC1 hbn) hl1 (Kd.C_below hD1 hbn) hm1 (by rw [equal_f _ _ (by omega)]; simp)).mono ?_
        rintro e w' ⟨rfl, hd⟩
        exact ⟨rfl, hd.out⟩⟩
      have hx0 := blk_cell hbx 0
      have hx1 := blk_cell hbx 1
      have HBA := Aside0.mk hba
      clear hC1 hD1 hbr hpk hba hbx hr0 hr1
      go_wp2
      generalize wr.alloc (.cells #[.string x.f0, .slice A1 x.f1.length c1] 26) = wa at *
      go_quiet ((go_at_call 8; exact Calls.quiet_of (h8.out _)))
      go_wp2
      go_roundw
      case rel => exact ⟨k + 1, by omega, by go_num, pw_below_drewN (below_step HBR.out HBA.out) _⟩
      case measure => simp [intOf]; omega
    · have dk : decide ((k : Int) < (T.length : Int)) = false := by simp; omega
      have HBR := Aside0.mk hbr
      clear hbr
      go_wp2
      go_ret
      exact ⟨rfl, HBR.out⟩
end Go.Proofs.YtiiokhoonailaaaDoor.D
