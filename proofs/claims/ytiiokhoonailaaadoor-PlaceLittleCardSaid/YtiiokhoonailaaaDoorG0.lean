/- The laws PlaceLoads, PlaceRanks: each answers true for every input, if the example of the chapter holds. Conditions: the arguments lie in memory. -/
import Derived.Test.YtiiokhoonailaaaDoorC9
import Derived.Test.YtiiokhoonailaaaDoorCa
namespace Go.Proofs.YtiiokhoonailaaaDoor.D
open Go.RowKit Go.Sort Go.Proofs.YtiiokhoonailaaaDoorW.PrintWords Go.Proofs.YtiiokhoonailaaaDoorW.PrintLast Go.Proofs.YtiiokhoonailaaaDoorW.PrintMore
open Go.Proofs.YtiiokhoonailaaaDoor.R

theorem rload_calls (T : List S26) (nodes : List Int) (A B : Option Addr) (a b : Nat) (w : World) (hT : T.length ≤ 40) (hp : ∀ p ∈ T, p.f1.length ≤ 60) (hn : nodes.length ≤ 60) (hA : Kd.C k26 w A T.length T) (ha : T.length ≤ a) (hB : Kd.C KI w B nodes.length nodes) (hb : nodes.length ≤ b) :
    Calls Tryd.prog 10 #[.slice A T.length a, .slice B nodes.length b] w (ListPost w (loads T nodes)) :=
  (brokerref42_Load.calls _ A a T B b nodes _ w hA ha hB hb (rload_f T nodes hT hp hn)).mono fun _ _ h => h
theorem loads_length (T : List S26) (nodes : List Int) : (loads T nodes).length = nodes.length := List.length_map _

/-- What the example of the chapter is worth. -/
def ExOk : Prop := ∀ W, Calls Tryd.prog 7 #[] W (TruePost W)
set_option maxRecDepth 100000 in
set_option maxHeartbeats 1000000 in
theorem placeLoads_calls (hex : ExOk) (w : World) (T : List S26) (nodes : List Int) (A B : Option Addr) (a b : Nat) (hA : Kd.C k26 w A T.length T) (ha : T.length ≤ a) (hB : Kd.C KI w B nodes.length nodes) (hb : nodes.length ≤ b) :
    Calls Tryd.prog 3 #[.slice A T.length a, .slice B nodes.length b] w (TruePost w) := by
  have HEX := Aside0.mk hex
  have HA := Aside0.mk hA
  have HB := Aside0.mk hB
  have hu26 := Tryd.underlying26
  unfold TruePost
  clear hex hA hB
  by_cases h1 : 40 < T.length
  · have d1 : decide ((40 : Int) < (T.length : Int)) = true := by simp; omega
    go_enter Tryd.func3, Tryd.ntmps3
    go_wp2_with (go_at_call 7; refine (HEX.out w).mono ?_; rintro e w1 ⟨rfl, hb1⟩)
    go_ret
    exact ⟨rfl, hb1⟩
  have d1 : decide ((40 : Int) < (T.length : Int)) = false := by simp; omega
  by_cases h2 : 60 < nodes.length
  · have d2 : decide ((60 : Int) < (nodes.length : Int)) = true := by simp; omega
    go_enter Tryd.func3, Tryd.ntmps3
    go_wp2_with (go_at_call 7; refine (HEX.out w).mono ?_; rintro e w1 ⟨rfl, hb1⟩)
    go_ret
    exact ⟨rfl, hb1⟩
  have d2 : decide ((60 : Int) < (nodes.length : Int)) = false := by simp; omega
  go_enter Tryd.func3, Tryd.ntmps3
  go_wp2
  go_loopw [18] (fun vi wr => ∃ k : Nat, k ≤ T.length ∧ vi = .int .i64 k ∧ Below w.heap.size w wr ∧ Hid (∀ i (h : i < T.length), i < k → (T[i]).f1.length ≤ 60)) (fun vi _ => T.length - (intOf vi).toNat)
  case atStart => exact ⟨0, Nat.zero_le _, rfl, Below.refl _ _, fun i _ h => absurd h (by omega)⟩
  case round =>
    obtain ⟨k, hk, rfl, hbr, hall⟩ := hrel
    have HBR := Aside0.mk hbr
    by_cases hkn : k < T.length
    · have dk : decide ((k : Int) < (T.length : Int)) = true := by simp; omega
      obtain ⟨ad, A1, c1, ead, hq0, hq1, hl1, hC1⟩ := at_T26 (Kd.C_below HA.out hbr) (k : Int) (by omega) (by omega)
      rw [rdT hkn] at hq0 hq1 hl1 hC1
      rw [Int.toNat_natCast] at hq0 hq1
      subst ead
      have hstep : (T[k]).f1.length ≤ 60 → Hid (∀ i (h : i < T.length), i < k + 1 → (T[i]).f1.length ≤ 60) := fun h i hi hij => by
        by_cases e : i = k
        · subst e; exact h
        · exact hall.out i hi (by omega)
      generalize T[k] = x at *
      have hba := Aside0.mk (below_step hbr (below_alloc (Below.refl _ wr) (.cells #[.string x.f0, .slice A1 x.f1.length c1] 26)))
      clear hC1 hbr hall
      by_cases h60 : 60 < x.f1.length
      · have d6 : decide ((60 : Int) < (x.f1.length : Int)) = true := by simp; omega
        clear hstep
        go_wp2_with (go_at_call 7; refine (HEX.out _).mono ?_; rintro e w1 ⟨rfl, hb1⟩)
        go_ret
        exact ⟨rfl, below_step hba.out hb1⟩
      · have d6 : decide ((60 : Int) < (x.f1.length : Int)) = false := by simp; omega
        have hst := hstep (by omega)
        have HST := Aside0.mk hst
        clear hstep hst
        go_wp2
        go_roundw
        case rel => exact ⟨k + 1, by omega, by go_num, hba.out, HST.out⟩
        case measure => simp [intOf]; omega
    · have dk : decide ((k : Int) < (T.length : Int)) = false := by simp; omega
      have hp : ∀ p ∈ T, p.f1.length ≤ 60 := fun p hp => by
        obtain ⟨i, hi, rfl⟩ := List.mem_iff_getElem.1 hp
        exact hall.out i hi (by omega)
      have h9 := Aside0.mk (load_calls T nodes A B a b wr (by omega) hp (by omega) (Kd.C_below HA.out hbr) ha (Kd.C_below HB.out hbr) hb)
      have h10 : Aside0 (∀ W, Below w.heap.size w W → Calls Tryd.prog 10 #[.slice A T.length a, .slice B nodes.length b] W (ListPost W (loads T nodes))) := ⟨fun W hW => rload_calls T nodes A B a b W (by omega) hp (by omega) (Kd.C_below HA.out hW) ha (Kd.C_below HB.out hW) hb⟩
      have hll := loads_length T nodes
      have hlt : (loads T nodes).length < 1073741824 := by omega
      generalize loads T nodes = L at *
      clear hall hp hbr hk hll
      go_wp2_with fail
      refine h9.out.mono ?_
      rintro e w1 ⟨v1, rfl, hv1, hb1⟩
      obtain ⟨A1, c1, e1, hl1, hC1⟩ := Kd.R_reads hv1
      rw [e1]
      have HB1 := Aside0.mk (below_step HBR.out hb1)
      have HC1 := Aside0.mk hC1
      clear hv1 hb1 hC1 e1 h9
      go_wp2_with fail
      refine (h10.out w1 HB1.out).mono ?_
      rintro e w2 ⟨v2, rfl, hv2, hb2⟩
      obtain ⟨A2, c2, e2, hl2, hC2⟩ := Kd.R_reads hv2
      rw [e2]
      have HB2 := Aside0.mk (below_step HB1.out hb2)
      have h8 := Aside0.mk (equal_calls L L A1 A2 c1 c2 w2 hlt (Kd.C_below HC1.out hb2) hl1 hC2 hl2)
      rw [decide_eq_true rfl] at h8
      clear hv2 hb2 hC2 e2 h10
      go_wp2_with fail
      refine h8.out.mono ?_
      rintro e w3 ⟨rfl, hg3⟩
      have HB3 := Aside0.mk (below_step HB2.out hg3.below)
      clear hg3 h8
      go_wp2_with (go_at_call 7; refine (HEX.out w3).mono ?_; rintro e w4 ⟨rfl, hb4⟩)
      go_ret
      exact ⟨rfl, below_step HB3.out hb4⟩
end Go.Proofs.YtiiokhoonailaaaDoor.D
