-- PRINTED by the kit's print program for chosen functions (xprint.sh)
import Derived.Test.YtahifafnfjcfpaaR0
namespace Go.Proofs.Ytahifafnfjcfpaa.R
open Go.RowKit Go.Proofs.YtahifafnfjcfpaaW.PrintWords Go.Proofs.YtahifafnfjcfpaaW.PrintLast Go.Proofs.YtahifafnfjcfpaaW.PrintMore
attribute [local go_sem] max2_int min2_int max_two min_two max_three min_three max_four min_four   -- for this text's walks alone
set_option linter.unusedVariables false
set_option linter.unusedSimpArgs false

/-! ### brokerlaw36_short: function 14 -/
def brokerlaw36_short.l0 : Nat → List (S45) → Int → Option (Bool)
  | 0, _, _ => none
  | k + 1, x0, x3 => if x3 < (x0.length : Int) then (if 0 ≤ x3 then (if (((rd_T45 x0 x3).f3).length : Int) > 400 then (some false) else (if (((rd_T45 x0 x3).f1).size : Int) > 400 then (some false) else (if (((rd_T45 x0 x3).f2).size : Int) > 400 then (some false) else (if (((rd_T45 x0 x3).f4).length : Int) > 20 then (some false) else (brokerlaw36_short.l0 k x0 (wrap64 (x3 + 1))))))) else (none)) else (some true)
def brokerlaw36_short.f (k : Nat) (l0 : List (S45)) : Option (Bool) := if (l0.length : Int) > 40 then (some false) else (brokerlaw36_short.l0 k l0 0)
theorem brokerlaw36_short.mono_l : ∀ k, (∀ y0 y1, LeO (brokerlaw36_short.l0 k y0 y1) (brokerlaw36_short.l0 (k + 1) y0 y1))
  | 0 => fun _ _ r h => by simp [brokerlaw36_short.l0] at h
  | k + 1 => by
    have ih0 := brokerlaw36_short.mono_l k
    · intro y0 y1
      unfold brokerlaw36_short.l0
      repeat' first
      | (with_reducible exact ih0 _ _)
      | (with_reducible exact LeO.refl _)
      | (with_reducible exact LeO.none _)
      | (with_reducible refine LeO.ite ?_ ?_)
      | (with_reducible refine LeO.bind ?_ (fun _ => ?_))
      | exact ih0 _ _
      | exact LeO.none _
      | refine LeO.ite ?_ ?_
      | refine LeO.bind ?_ (fun _ => ?_)
theorem brokerlaw36_short.mono : ∀ a0 k, LeO (brokerlaw36_short.f k a0) (brokerlaw36_short.f (k + 1) a0) := by
  intro a0 k
  have ih0 := brokerlaw36_short.mono_l k
  unfold brokerlaw36_short.f
  repeat' first
      | (with_reducible exact ih0 _ _)
      | (with_reducible exact LeO.refl _)
      | (with_reducible exact LeO.none _)
      | (with_reducible refine LeO.ite ?_ ?_)
      | (with_reducible refine LeO.bind ?_ (fun _ => ?_))
      | exact ih0 _ _
      | exact LeO.none _
      | refine LeO.ite ?_ ?_
      | refine LeO.bind ?_ (fun _ => ?_)
set_option maxHeartbeats 8000000 in
set_option maxRecDepth 100000 in
theorem brokerlaw36_short.calls (k : Nat) (A0 : Option Addr) (c0 : Nat) (l0 : List (S45)) (r : Bool) (w : World) (hr0 : Kd.C k45 w A0 l0.length l0) (hc0 : l0.length ≤ c0) (h : brokerlaw36_short.f k l0 = some r) :
    Calls Try.prog 14 #[.slice A0 l0.length c0] w fun e w' => e = .returned (.bool r) ∧ Drawn0 w w' := by
  have HR0 := Aside0.mk hr0
  have HC0 := Aside0.mk hc0
  clear hr0 hc0
  have H : (if (l0.length : Int) > 40 then (some false) else (brokerlaw36_short.l0 k l0 0)) = some r := h
  clear h
  by_cases c2 : (l0.length : Int) > 40
  · rw [if_pos c2] at H
    have c2b0 : decide (40 < (l0.length : Int)) = true := decide_eq_true c2
    have c2b1 : decide (40 < l0.length) = true := decide_eq_true (by omega)
    clear c2
    obtain rfl := Option.some.inj H
    go_enter Try.func14, Try.ntmps14
    go_wp2
    go_ret
    exact ⟨by first | rfl | (simp; done) | (simp [*]; done), by repeat (first | exact Drawn0.refl _ | apply Drawn0.step)⟩
  · rw [if_neg c2] at H
    have c2b0 : decide (40 < (l0.length : Int)) = false := decide_eq_false c2
    have c2b1 : decide (40 < l0.length) = false := decide_eq_false (by omega)
    clear c2
    have H' := Aside0.mk H
    clear H
    go_enter Try.func14, Try.ntmps14
    go_wp2
    go_loopg [3] k (fun kq v3 w' => ∃ (x3_1 : Int), v3 = .int .i64 x3_1 ∧ Aside0 (brokerlaw36_short.l0 kq l0 x3_1 = some r) ∧ Aside0 (kq ≤ k) ∧ Drawn0 w w')
    case atStart => exact ⟨(0), (by first | rfl | (simp; done) | (simp [*]; done)), H', ⟨Nat.le_refl _⟩, by repeat (first | exact Drawn0.refl _ | apply Drawn0.step)⟩
    case round =>
      clear H'
      try clear c1
      try clear c2
      try clear c2b0
      try clear c2b1
      try clear p2
      obtain ⟨x3_1, rfl, HA, HK1, ⟨m1, rfl⟩⟩ := hrel
      cases gk with
      | zero => exact absurd HA.out (by simp [brokerlaw36_short.l0])
      | succ k1 =>
        have H := HA.out
        clear HA
        simp only [brokerlaw36_short.l0] at H
        by_cases c3 : x3_1 < (l0.length : Int)
        · rw [if_pos c3] at H
          have c3b0 : decide (x3_1 < (l0.length : Int)) = true := decide_eq_true c3
          clear c3
          by_cases c4 : 0 ≤ x3_1
          · rw [if_pos c4] at H
            have c4b0 : decide (0 ≤ x3_1) = true := decide_eq_true c4
            clear c4
            by_cases c5 : (((rd_T45 l0 x3_1).f3).length : Int) > 400
            · rw [if_pos c5] at H
              have c5b0 : decide (400 < (((rd_T45 l0 x3_1).f3).length : Int)) = true := decide_eq_true c5
              have c5b1 : decide (400 < ((rd_T45 l0 x3_1).f3).length) = true := decide_eq_true (by omega)
              clear c5
              obtain rfl := Option.some.inj H
              have p178 : 0 ≤ (x3_1 : Int) := of_decide_eq_true (by first | (with_reducible assumption) | assumption)
              have q178 : x3_1 < (l0.length : Int) := of_decide_eq_true (by first | (with_reducible assumption) | assumption)
              obtain ⟨ad178, A178_3, c178_3, A178_4, c178_4, e178, hx178_0, hx178_1, hx178_2, hx178_3, hx178_4, hl178_3, hi178_3, hl178_4, hi178_4⟩ := at_T45 HR0.out x3_1 p178 q178
              cases e178
              have HR178_3 := Aside0.mk hi178_3
              have HC178_3 := Aside0.mk hl178_3
              clear hi178_3 hl178_3
              have HR178_4 := Aside0.mk hi178_4
              have HC178_4 := Aside0.mk hl178_4
              clear hi178_4 hl178_4
              replace p178 := eq_true p178
              replace q178 := eq_true q178
              go_wp2
              go_ret
              exact ⟨by first | rfl | (simp; done) | (simp [*]; done), by repeat (first | exact Drawn0.refl _ | apply Drawn0.step)⟩
            · rw [if_neg c5] at H
              have c5b0 : decide (400 < (((rd_T45 l0 x3_1).f3).length : Int)) = false := decide_eq_false c5
              have c5b1 : decide (400 < ((rd_T45 l0 x3_1).f3).length) = false := decide_eq_false (by omega)
              clear c5
              by_cases c6 : (((rd_T45 l0 x3_1).f1).size : Int) > 400
              · rw [if_pos c6] at H
                have c6b0 : decide (400 < (((rd_T45 l0 x3_1).f1).size : Int)) = true := decide_eq_true c6
                have c6b1 : decide (400 < ((rd_T45 l0 x3_1).f1).size) = true := decide_eq_true (by omega)
                clear c6
                obtain rfl := Option.some.inj H
                have p178 : 0 ≤ (x3_1 : Int) := of_decide_eq_true (by first | (with_reducible assumption) | assumption)
                have q178 : x3_1 < (l0.length : Int) := of_decide_eq_true (by first | (with_reducible assumption) | assumption)
                obtain ⟨ad178, A178_3, c178_3, A178_4, c178_4, e178, hx178_0, hx178_1, hx178_2, hx178_3, hx178_4, hl178_3, hi178_3, hl178_4, hi178_4⟩ := at_T45 HR0.out x3_1 p178 q178
                cases e178
                have HR178_3 := Aside0.mk hi178_3
                have HC178_3 := Aside0.mk hl178_3
                clear hi178_3 hl178_3
                have HR178_4 := Aside0.mk hi178_4
                have HC178_4 := Aside0.mk hl178_4
                clear hi178_4 hl178_4
                replace p178 := eq_true p178
                replace q178 := eq_true q178
                have p179 : 0 ≤ (x3_1 : Int) := of_decide_eq_true (by first | (with_reducible assumption) | assumption)
                have q179 : x3_1 < (l0.length : Int) := of_decide_eq_true (by first | (with_reducible assumption) | assumption)
                obtain ⟨ad179, A179_3, c179_3, A179_4, c179_4, e179, hx179_0, hx179_1, hx179_2, hx179_3, hx179_4, hl179_3, hi179_3, hl179_4, hi179_4⟩ := at_T45 HR0.out x3_1 p179 q179
                obtain rfl : ad178 = ad179 := (by injection e179)
                have HR179_3 := Aside0.mk hi179_3
                have HC179_3 := Aside0.mk hl179_3
                clear hi179_3 hl179_3
                have HR179_4 := Aside0.mk hi179_4
                have HC179_4 := Aside0.mk hl179_4
                clear hi179_4 hl179_4
                replace p179 := eq_true p179
                replace q179 := eq_true q179
                have ea_ := Option.some.inj (hx178_3.symm.trans hx179_3)
                injection ea_ with ea_ en_ ec_
                subst ea_
                subst ec_
                clear en_
                have ea_ := Option.some.inj (hx178_4.symm.trans hx179_4)
                injection ea_ with ea_ en_ ec_
                subst ea_
                subst ec_
                clear en_
                go_wp2
                go_ret
                exact ⟨by first | rfl | (simp; done) | (simp [*]; done), by repeat (first | exact Drawn0.refl _ | apply Drawn0.step)⟩
              · rw [if_neg c6] at H
                have c6b0 : decide (400 < (((rd_T45 l0 x3_1).f1).size : Int)) = false := decide_eq_false c6
                have c6b1 : decide (400 < ((rd_T45 l0 x3_1).f1).size) = false := decide_eq_false (by omega)
                clear c6
                by_cases c7 : (((rd_T45 l0 x3_1).f2).size : Int) > 400
                · rw [if_pos c7] at H
                  have c7b0 : decide (400 < (((rd_T45 l0 x3_1).f2).size : Int)) = true := decide_eq_true c7
                  have c7b1 : decide (400 < ((rd_T45 l0 x3_1).f2).size) = true := decide_eq_true (by omega)
                  clear c7
                  obtain rfl := Option.some.inj H
                  have p178 : 0 ≤ (x3_1 : Int) := of_decide_eq_true (by first | (with_reducible assumption) | assumption)
                  have q178 : x3_1 < (l0.length : Int) := of_decide_eq_true (by first | (with_reducible assumption) | assumption)
                  obtain ⟨ad178, A178_3, c178_3, A178_4, c178_4, e178, hx178_0, hx178_1, hx178_2, hx178_3, hx178_4, hl178_3, hi178_3, hl178_4, hi178_4⟩ := at_T45 HR0.out x3_1 p178 q178
                  cases e178
                  have HR178_3 := Aside0.mk hi178_3
                  have HC178_3 := Aside0.mk hl178_3
                  clear hi178_3 hl178_3
                  have HR178_4 := Aside0.mk hi178_4
                  have HC178_4 := Aside0.mk hl178_4
                  clear hi178_4 hl178_4
                  replace p178 := eq_true p178
                  replace q178 := eq_true q178
                  have p179 : 0 ≤ (x3_1 : Int) := of_decide_eq_true (by first | (with_reducible assumption) | assumption)
                  have q179 : x3_1 < (l0.length : Int) := of_decide_eq_true (by first | (with_reducible assumption) | assumption)
                  obtain ⟨ad179, A179_3, c179_3, A179_4, c179_4, e179, hx179_0, hx179_1, hx179_2, hx179_3, hx179_4, hl179_3, hi179_3, hl179_4, hi179_4⟩ := at_T45 HR0.out x3_1 p179 q179
                  obtain rfl : ad178 = ad179 := (by injection e179)
                  have HR179_3 := Aside0.mk hi179_3
                  have HC179_3 := Aside0.mk hl179_3
                  clear hi179_3 hl179_3
                  have HR179_4 := Aside0.mk hi179_4
                  have HC179_4 := Aside0.mk hl179_4
                  clear hi179_4 hl179_4
                  replace p179 := eq_true p179
                  replace q179 := eq_true q179
                  have ea_ := Option.some.inj (hx178_3.symm.trans hx179_3)
                  injection ea_ with ea_ en_ ec_
                  subst ea_
                  subst ec_
                  clear en_
                  have ea_ := Option.some.inj (hx178_4.symm.trans hx179_4)
                  injection ea_ with ea_ en_ ec_
                  subst ea_
                  subst ec_
                  clear en_
                  have p180 : 0 ≤ (x3_1 : Int) := of_decide_eq_true (by first | (with_reducible assumption) | assumption)
                  have q180 : x3_1 < (l0.length : Int) := of_decide_eq_true (by first | (with_reducible assumption) | assumption)
                  obtain ⟨ad180, A180_3, c180_3, A180_4, c180_4, e180, hx180_0, hx180_1, hx180_2, hx180_3, hx180_4, hl180_3, hi180_3, hl180_4, hi180_4⟩ := at_T45 HR0.out x3_1 p180 q180
                  obtain rfl : ad178 = ad180 := (by injection e180)
                  have HR180_3 := Aside0.mk hi180_3
                  have HC180_3 := Aside0.mk hl180_3
                  clear hi180_3 hl180_3
                  have HR180_4 := Aside0.mk hi180_4
                  have HC180_4 := Aside0.mk hl180_4
                  clear hi180_4 hl180_4
                  replace p180 := eq_true p180
                  replace q180 := eq_true q180
                  have ea_ := Option.some.inj (hx178_3.symm.trans hx180_3)
                  injection ea_ with ea_ en_ ec_
                  subst ea_
                  subst ec_
                  clear en_
                  have ea_ := Option.some.inj (hx178_4.symm.trans hx180_4)
                  injection ea_ with ea_ en_ ec_
                  subst ea_
                  subst ec_
                  clear en_
                  go_wp2
                  go_ret
                  exact ⟨by first | rfl | (simp; done) | (simp [*]; done), by repeat (first | exact Drawn0.refl _ | apply Drawn0.step)⟩
                · rw [if_neg c7] at H
                  have c7b0 : decide (400 < (((rd_T45 l0 x3_1).f2).size : Int)) = false := decide_eq_false c7
                  have c7b1 : decide (400 < ((rd_T45 l0 x3_1).f2).size) = false := decide_eq_false (by omega)
                  clear c7
                  by_cases c8 : (((rd_T45 l0 x3_1).f4).length : Int) > 20
                  · rw [if_pos c8] at H
                    have c8b0 : decide (20 < (((rd_T45 l0 x3_1).f4).length : Int)) = true := decide_eq_true c8
                    have c8b1 : decide (20 < ((rd_T45 l0 x3_1).f4).length) = true := decide_eq_true (by omega)
                    clear c8
                    obtain rfl := Option.some.inj H
                    have p178 : 0 ≤ (x3_1 : Int) := of_decide_eq_true (by first | (with_reducible assumption) | assumption)
                    have q178 : x3_1 < (l0.length : Int) := of_decide_eq_true (by first | (with_reducible assumption) | assumption)
                    obtain ⟨ad178, A178_3, c178_3, A178_4, c178_4, e178, hx178_0, hx178_1, hx178_2, hx178_3, hx178_4, hl178_3, hi178_3, hl178_4, hi178_4⟩ := at_T45 HR0.out x3_1 p178 q178
                    cases e178
                    have HR178_3 := Aside0.mk hi178_3
                    have HC178_3 := Aside0.mk hl178_3
                    clear hi178_3 hl178_3
                    have HR178_4 := Aside0.mk hi178_4
                    have HC178_4 := Aside0.mk hl178_4
                    clear hi178_4 hl178_4
                    replace p178 := eq_true p178
                    replace q178 := eq_true q178
                    have p179 : 0 ≤ (x3_1 : Int) := of_decide_eq_true (by first | (with_reducible assumption) | assumption)
                    have q179 : x3_1 < (l0.length : Int) := of_decide_eq_true (by first | (with_reducible assumption) | assumption)
                    obtain ⟨ad179, A179_3, c179_3, A179_4, c179_4, e179, hx179_0, hx179_1, hx179_2, hx179_3, hx179_4, hl179_3, hi179_3, hl179_4, hi179_4⟩ := at_T45 HR0.out x3_1 p179 q179
                    obtain rfl : ad178 = ad179 := (by injection e179)
                    have HR179_3 := Aside0.mk hi179_3
                    have HC179_3 := Aside0.mk hl179_3
                    clear hi179_3 hl179_3
                    have HR179_4 := Aside0.mk hi179_4
                    have HC179_4 := Aside0.mk hl179_4
                    clear hi179_4 hl179_4
                    replace p179 := eq_true p179
                    replace q179 := eq_true q179
                    have ea_ := Option.some.inj (hx178_3.symm.trans hx179_3)
                    injection ea_ with ea_ en_ ec_
                    subst ea_
                    subst ec_
                    clear en_
                    have ea_ := Option.some.inj (hx178_4.symm.trans hx179_4)
                    injection ea_ with ea_ en_ ec_
                    subst ea_
                    subst ec_
                    clear en_
                    have p180 : 0 ≤ (x3_1 : Int) := of_decide_eq_true (by first | (with_reducible assumption) | assumption)
                    have q180 : x3_1 < (l0.length : Int) := of_decide_eq_true (by first | (with_reducible assumption) | assumption)
                    obtain ⟨ad180, A180_3, c180_3, A180_4, c180_4, e180, hx180_0, hx180_1, hx180_2, hx180_3, hx180_4, hl180_3, hi180_3, hl180_4, hi180_4⟩ := at_T45 HR0.out x3_1 p180 q180
                    obtain rfl : ad178 = ad180 := (by injection e180)
                    have HR180_3 := Aside0.mk hi180_3
                    have HC180_3 := Aside0.mk hl180_3
                    clear hi180_3 hl180_3
                    have HR180_4 := Aside0.mk hi180_4
                    have HC180_4 := Aside0.mk hl180_4
                    clear hi180_4 hl180_4
                    replace p180 := eq_true p180
                    replace q180 := eq_true q180
                    have ea_ := Option.some.inj (hx178_3.symm.trans hx180_3)
                    injection ea_ with ea_ en_ ec_
                    subst ea_
                    subst ec_
                    clear en_
                    have ea_ := Option.some.inj (hx178_4.symm.trans hx180_4)
                    injection ea_ with ea_ en_ ec_
                    subst ea_
                    subst ec_
                    clear en_
                    have p181 : 0 ≤ (x3_1 : Int) := of_decide_eq_true (by first | (with_reducible assumption) | assumption)
                    have q181 : x3_1 < (l0.length : Int) := of_decide_eq_true (by first | (with_reducible assumption) | assumption)
                    obtain ⟨ad181, A181_3, c181_3, A181_4, c181_4, e181, hx181_0, hx181_1, hx181_2, hx181_3, hx181_4, hl181_3, hi181_3, hl181_4, hi181_4⟩ := at_T45 HR0.out x3_1 p181 q181
                    obtain rfl : ad178 = ad181 := (by injection e181)
                    have HR181_3 := Aside0.mk hi181_3
                    have HC181_3 := Aside0.mk hl181_3
                    clear hi181_3 hl181_3
                    have HR181_4 := Aside0.mk hi181_4
                    have HC181_4 := Aside0.mk hl181_4
                    clear hi181_4 hl181_4
                    replace p181 := eq_true p181
                    replace q181 := eq_true q181
                    have ea_ := Option.some.inj (hx178_3.symm.trans hx181_3)
                    injection ea_ with ea_ en_ ec_
                    subst ea_
                    subst ec_
                    clear en_
                    have ea_ := Option.some.inj (hx178_4.symm.trans hx181_4)
                    injection ea_ with ea_ en_ ec_
                    subst ea_
                    subst ec_
                    clear en_
                    go_wp2
                    go_ret
                    exact ⟨by first | rfl | (simp; done) | (simp [*]; done), by repeat (first | exact Drawn0.refl _ | apply Drawn0.step)⟩
                  · rw [if_neg c8] at H
                    have c8b0 : decide (20 < (((rd_T45 l0 x3_1).f4).length : Int)) = false := decide_eq_false c8
                    have c8b1 : decide (20 < ((rd_T45 l0 x3_1).f4).length) = false := decide_eq_false (by omega)
                    clear c8
                    have H' := Aside0.mk H
                    clear H
                    have p178 : 0 ≤ (x3_1 : Int) := of_decide_eq_true (by first | (with_reducible assumption) | assumption)
                    have q178 : x3_1 < (l0.length : Int) := of_decide_eq_true (by first | (with_reducible assumption) | assumption)
                    obtain ⟨ad178, A178_3, c178_3, A178_4, c178_4, e178, hx178_0, hx178_1, hx178_2, hx178_3, hx178_4, hl178_3, hi178_3, hl178_4, hi178_4⟩ := at_T45 HR0.out x3_1 p178 q178
                    cases e178
                    have HR178_3 := Aside0.mk hi178_3
                    have HC178_3 := Aside0.mk hl178_3
                    clear hi178_3 hl178_3
                    have HR178_4 := Aside0.mk hi178_4
                    have HC178_4 := Aside0.mk hl178_4
                    clear hi178_4 hl178_4
                    replace p178 := eq_true p178
                    replace q178 := eq_true q178
                    have p179 : 0 ≤ (x3_1 : Int) := of_decide_eq_true (by first | (with_reducible assumption) | assumption)
                    have q179 : x3_1 < (l0.length : Int) := of_decide_eq_true (by first | (with_reducible assumption) | assumption)
                    obtain ⟨ad179, A179_3, c179_3, A179_4, c179_4, e179, hx179_0, hx179_1, hx179_2, hx179_3, hx179_4, hl179_3, hi179_3, hl179_4, hi179_4⟩ := at_T45 HR0.out x3_1 p179 q179
                    obtain rfl : ad178 = ad179 := (by injection e179)
                    have HR179_3 := Aside0.mk hi179_3
                    have HC179_3 := Aside0.mk hl179_3
                    clear hi179_3 hl179_3
                    have HR179_4 := Aside0.mk hi179_4
                    have HC179_4 := Aside0.mk hl179_4
                    clear hi179_4 hl179_4
                    replace p179 := eq_true p179
                    replace q179 := eq_true q179
                    have ea_ := Option.some.inj (hx178_3.symm.trans hx179_3)
                    injection ea_ with ea_ en_ ec_
                    subst ea_
                    subst ec_
                    clear en_
                    have ea_ := Option.some.inj (hx178_4.symm.trans hx179_4)
                    injection ea_ with ea_ en_ ec_
                    subst ea_
                    subst ec_
                    clear en_
                    have p180 : 0 ≤ (x3_1 : Int) := of_decide_eq_true (by first | (with_reducible assumption) | assumption)
                    have q180 : x3_1 < (l0.length : Int) := of_decide_eq_true (by first | (with_reducible assumption) | assumption)
                    obtain ⟨ad180, A180_3, c180_3, A180_4, c180_4, e180, hx180_0, hx180_1, hx180_2, hx180_3, hx180_4, hl180_3, hi180_3, hl180_4, hi180_4⟩ := at_T45 HR0.out x3_1 p180 q180
                    obtain rfl : ad178 = ad180 := (by injection e180)
                    have HR180_3 := Aside0.mk hi180_3
                    have HC180_3 := Aside0.mk hl180_3
                    clear hi180_3 hl180_3
                    have HR180_4 := Aside0.mk hi180_4
                    have HC180_4 := Aside0.mk hl180_4
                    clear hi180_4 hl180_4
                    replace p180 := eq_true p180
                    replace q180 := eq_true q180
                    have ea_ := Option.some.inj (hx178_3.symm.trans hx180_3)
                    injection ea_ with ea_ en_ ec_
                    subst ea_
                    subst ec_
                    clear en_
                    have ea_ := Option.some.inj (hx178_4.symm.trans hx180_4)
                    injection ea_ with ea_ en_ ec_
                    subst ea_
                    subst ec_
                    clear en_
                    have p181 : 0 ≤ (x3_1 : Int) := of_decide_eq_true (by first | (with_reducible assumption) | assumption)
                    have q181 : x3_1 < (l0.length : Int) := of_decide_eq_true (by first | (with_reducible assumption) | assumption)
                    obtain ⟨ad181, A181_3, c181_3, A181_4, c181_4, e181, hx181_0, hx181_1, hx181_2, hx181_3, hx181_4, hl181_3, hi181_3, hl181_4, hi181_4⟩ := at_T45 HR0.out x3_1 p181 q181
                    obtain rfl : ad178 = ad181 := (by injection e181)
                    have HR181_3 := Aside0.mk hi181_3
                    have HC181_3 := Aside0.mk hl181_3
                    clear hi181_3 hl181_3
                    have HR181_4 := Aside0.mk hi181_4
                    have HC181_4 := Aside0.mk hl181_4
                    clear hi181_4 hl181_4
                    replace p181 := eq_true p181
                    replace q181 := eq_true q181
                    have ea_ := Option.some.inj (hx178_3.symm.trans hx181_3)
                    injection ea_ with ea_ en_ ec_
                    subst ea_
                    subst ec_
                    clear en_
                    have ea_ := Option.some.inj (hx178_4.symm.trans hx181_4)
                    injection ea_ with ea_ en_ ec_
                    subst ea_
                    subst ec_
                    clear en_
                    go_wp2
                    go_roundg k1
                    case measure => have := HK1.out; omega
                    case rel => exact ⟨(wrap64 (x3_1 + 1)), (by first | rfl | (simp; done) | (simp [*]; done)), H', ⟨by have := HK1.out; omega⟩, by repeat (first | exact Drawn0.refl _ | apply Drawn0.step)⟩
          · rw [if_neg c4] at H
            exact absurd H (by simp)
        · rw [if_neg c3] at H
          have c3b0 : decide (x3_1 < (l0.length : Int)) = false := decide_eq_false c3
          clear c3
          obtain rfl := Option.some.inj H
          go_wp2
          go_ret
          exact ⟨by first | rfl | (simp; done) | (simp [*]; done), by repeat (first | exact Drawn0.refl _ | apply Drawn0.step)⟩

end Go.Proofs.Ytahifafnfjcfpaa.R
