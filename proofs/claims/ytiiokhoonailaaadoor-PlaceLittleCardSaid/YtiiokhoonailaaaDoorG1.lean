/- The law PlaceRanks: it answers true for every input, if the example of the chapter holds. Conditions: the arguments lie in memory. -/
import Derived.Test.YtiiokhoonailaaaDoorG0
namespace Go.Proofs.YtiiokhoonailaaaDoor.D
open Go.RowKit Go.Sort Go.Proofs.YtiiokhoonailaaaDoorW.PrintWords Go.Proofs.YtiiokhoonailaaaDoorW.PrintLast Go.Proofs.YtiiokhoonailaaaDoorW.PrintMore
open Go.Proofs.YtiiokhoonailaaaDoor.R

abbrev KL : Kd (List Int) := Kd.slice 3 (Kd.int .i64)
theorem few_calls (names : List ByteArray) (lists : List (List Int)) (N L : Option Addr) (cn cl : Nat) (w : World) (hN : Kd.C Kd.string w N names.length names) (hc : names.length ≤ cn) (hL : Kd.C KL w L lists.length lists) (hcl : lists.length ≤ cl) :
    Calls Tryd.prog 11 #[.slice N names.length cn, .slice L lists.length cl] w fun e w' => e = .returned (.bool (fewB names lists)) ∧ Below w.heap.size w w' :=
  (brokerlaw42_few.calls _ N cn names L cl lists _ w hN hc hL hcl (few_f names lists hN.2.1 hL.2.1)).mono fun _ _ ⟨h1, h2⟩ => ⟨h1, h2.below⟩
theorem C_one (W : World) (x : S26) (A : Option Addr) (a : Nat) (ha : x.f1.length ≤ a) (hA : Kd.C KI W A x.f1.length x.f1) : Kd.C k26 (W.alloc (.cells #[.string x.f0, .slice A x.f1.length a] 26)) (some ⟨W.heap.size, 0, none⟩) 1 [x] := by
  have hbw := below_alloc (Below.refl _ W) (.cells #[.string x.f0, .slice A x.f1.length a] 26)
  have hx := heap_alloc_new W (.cells #[.string x.f0, .slice A x.f1.length a] 26)
  refine ⟨rfl, by decide, fun _ => ⟨_, rfl, fun j p hj => ?_⟩⟩
  match j, hj with
  | 0, hj =>
    obtain rfl : x = p := by simpa using hj
    refine ⟨_, rfl, k26_mk _ x ha (Kd.C_below hA hbw), fun i u hu => ?_⟩
    match i, hu with
    | 0, hu => obtain rfl := Option.some.inj hu; exact blk_cell hx 0
    | 1, hu => obtain rfl := Option.some.inj hu; exact blk_cell hx 1
/-- One list among lists, laid just now. -/
theorem L_one (W : World) (xs : List Int) (A : Option Addr) (a : Nat) (t : TypeId) (ha : xs.length ≤ a) (hA : Kd.C KI W A xs.length xs) : Kd.C KL (W.alloc (.cells #[.slice A xs.length a] t)) (some ⟨W.heap.size, 0, none⟩) 1 [xs] := by
  have hbw := below_alloc (Below.refl _ W) (.cells #[.slice A xs.length a] t)
  have hx := heap_alloc_new W (.cells #[.slice A xs.length a] t)
  refine ⟨rfl, by decide, fun _ => ⟨_, rfl, fun j p hj => ?_⟩⟩
  match j, hj with
  | 0, hj =>
    obtain rfl : xs = p := by simpa using hj
    refine ⟨_, rfl, ⟨A, a, rfl, ha, Kd.C_below hA hbw⟩, fun i u hu => ?_⟩
    match i, hu with
    | 0, hu => obtain rfl := Option.some.inj hu; exact blk_cell hx 0
theorem L_two (W : World) (xs ys : List Int) (A B : Option Addr) (a b : Nat) (t : TypeId) (ha : xs.length ≤ a) (hA : Kd.C KI W A xs.length xs) (hb : ys.length ≤ b) (hB : Kd.C KI W B ys.length ys) : Kd.C KL (W.alloc (.cells #[.slice A xs.length a, .slice B ys.length b] t)) (some ⟨W.heap.size, 0, none⟩) 2 [xs, ys] := by
  have hbw := below_alloc (Below.refl _ W) (.cells #[.slice A xs.length a, .slice B ys.length b] t)
  have hx := heap_alloc_new W (.cells #[.slice A xs.length a, .slice B ys.length b] t)
  refine ⟨rfl, by decide, fun _ => ⟨_, rfl, fun j p hj => ?_⟩⟩
  match j, hj with
  | 0, hj =>
    obtain rfl : xs = p := by simpa using hj
    refine ⟨_, rfl, ⟨A, a, rfl, ha, Kd.C_below hA hbw⟩, fun i u hu => ?_⟩
    match i, hu with
    | 0, hu => obtain rfl := Option.some.inj hu; exact blk_cell hx 0
  | 1, hj =>
    obtain rfl : ys = p := by simpa using hj
    refine ⟨_, rfl, ⟨B, b, rfl, hb, Kd.C_below hB hbw⟩, fun i u hu => ?_⟩
    match i, hu with
    | 0, hu => obtain rfl := Option.some.inj hu; exact blk_cell hx 1
theorem few_of {names : List ByteArray} {lists : List (List Int)} (h : fewB names lists = true) : (∀ s ∈ names, s.size ≤ 200) ∧ (∀ l ∈ lists, l.length ≤ 60) ∧ names.length ≤ 40 := by
  unfold fewB at h
  rw [Bool.and_eq_true, Bool.and_eq_true, List.all_eq_true, List.all_eq_true, decide_eq_true_eq] at h
  exact ⟨fun s hs => of_decide_eq_true (h.1 s hs), fun l hl => of_decide_eq_true (h.2.1 l hl), h.2.2⟩

set_option maxRecDepth 100000 in
set_option maxHeartbeats 2000000 in
theorem placeRanks_calls (hex : ExOk) (w : World) (names : List ByteArray) (nodes : List Int) (N B : Option Addr) (cn b : Nat) (n : Int) (hN : Kd.C Kd.string w N names.length names) (hcn : names.length ≤ cn) (hB : Kd.C KI w B nodes.length nodes) (hb : nodes.length ≤ b) :
    Calls Tryd.prog 5 #[.slice N names.length cn, .slice B nodes.length b, .int .i64 n] w (TruePost w) := by
  have HEX := Aside0.mk hex
  have HN := Aside0.mk hN
  have HB := Aside0.mk hB
  unfold TruePost
  have hf := few_calls names [nodes] N _ cn 1 _ (Kd.C_below hN (below_alloc (Below.refl _ w) (.cells #[.slice B nodes.length b] 23))) hcn (L_one w nodes B b 23 hb hB) (Nat.le_refl _)
  have hb0 := below_alloc (Below.refl _ w) (.cells #[.slice B nodes.length b] 23)
  clear hex hN hB
  cases hfb : fewB names [nodes] with
  | false =>
    rw [hfb] at hf
    go_enter Tryd.func5, Tryd.ntmps5
    go_wp2_with fail
    refine hf.mono ?_
    rintro e w1 ⟨rfl, hb1⟩
    have HB1 := Aside0.mk (below_step hb0 hb1)
    clear hf hfb hb0 hb1
    go_wp2_with (go_at_call 7; refine (HEX.out w1).mono ?_; rintro e w2 ⟨rfl, hb2⟩)
    go_ret
    exact ⟨rfl, below_step HB1.out hb2⟩
  | true =>
    rw [hfb] at hf
    obtain ⟨f1, f2, f3⟩ := few_of hfb
    have f2' := f2 nodes (by simp)
    go_enter Tryd.func5, Tryd.ntmps5
    go_wp2_with fail
    refine hf.mono ?_
    rintro e w1 ⟨rfl, hb1⟩
    have HB1 := Aside0.mk (below_step hb0 hb1)
    have F1 := Aside0.mk f1
    clear hf hfb hb0 hb1 f1 f2
    go_wp2
    go_loopw [17] (fun vi wr => ∃ k : Nat, k ≤ names.length ∧ vi = .int .i64 k ∧ Below w.heap.size w wr) (fun vi _ => names.length - (intOf vi).toNat)
    case atStart => exact ⟨0, Nat.zero_le _, rfl, HB1.out⟩
    case round =>
      obtain ⟨k, hk, rfl, hbr⟩ := hrel
      have HBR := Aside0.mk hbr
      by_cases hkn : k < names.length
      · have dk : decide ((k : Int) < (names.length : Int)) = true := by simp; omega
        obtain ⟨ad, ead, hq⟩ := Kd.at_string (Kd.C_below HN.out hbr) (k : Int) (by omega) (by omega)
        rw [rdS hkn, Int.toNat_natCast] at hq
        subst ead
        have hs := F1.out names[k] (List.getElem_mem hkn)
        generalize names[k] = s at *
        have h16 : Aside0 (∀ W, Below w.heap.size w W → Calls Tryd.prog 16 #[.string s, .slice B nodes.length b] W (RankPost W (rankF s nodes))) := ⟨fun W hW => rank_calls s (by omega) nodes B b W (Kd.C_below HB.out hW) hb (by omega)⟩
        have h20 : Aside0 (∀ W, Below w.heap.size w W → Calls Tryd.prog 20 #[.string s, .slice B nodes.length b] W (RankPost W (rankF s nodes))) := ⟨fun W hW => rrank_calls s (by omega) nodes B b W (Kd.C_below HB.out hW) hb (by omega)⟩
        have h15 : Aside0 (∀ W, Below w.heap.size w W → Calls Tryd.prog 15 #[.string s, .slice B nodes.length b, .int .i64 n] W (PlacePost W s (placeF s nodes n))) := ⟨fun W hW => place_calls s (by omega) nodes B b n W (Kd.C_below HB.out hW) hb (by omega)⟩
        have h22 : Aside0 (∀ W, Below w.heap.size w W → Calls Tryd.prog 22 #[.string s, .slice B nodes.length b, .int .i64 n] W (PlacePost W s (placeF s nodes n))) := ⟨fun W hW => rplace_calls s (by omega) nodes B b n W (Kd.C_below HB.out hW) hb (by omega)⟩
        have hle := rankF_le s nodes
        rw [← ints_length] at hle
        have hple := placeF_le s nodes n
        rw [← ints_length] at hple
        generalize rankF s nodes = RL at *
        generalize placeF s nodes n = PL at *
        clear hbr hs
        go_wp2_with fail
        refine (h16.out wr HBR.out).mono ?_
        rintro e w2 ⟨v2, rfl, hv2, hb2⟩
        obtain ⟨A2, c2, e2, hl2, hC2⟩ := Kd.R_reads hv2
        rw [e2]
        have HB2 := Aside0.mk (below_step HBR.out hb2)
        have HC2 := Aside0.mk hC2
        clear hv2 hb2 hC2 e2
        go_wp2_with fail
        refine (h20.out w2 HB2.out).mono ?_
        rintro e w3 ⟨v3, rfl, hv3, hb3⟩
        obtain ⟨A3, c3, e3, hl3, hC3⟩ := Kd.R_reads hv3
        rw [e3]
        have HB3 := Aside0.mk (below_step HB2.out hb3)
        have h8 := Aside0.mk (equal_calls (intsOf RL) (intsOf RL) A2 A3 c2 c3 w3 (by omega) (Kd.C_below HC2.out hb3) hl2 hC3 hl3)
        rw [decide_eq_true rfl] at h8
        clear hv3 hb3 hC3 e3
        go_wp2_with fail
        refine h8.out.mono ?_
        rintro e w4 ⟨rfl, hg4⟩
        have HB4 := Aside0.mk (below_step HB3.out hg4.below)
        clear hg4 h8
        go_wp2_with fail
        refine (h15.out w4 HB4.out).mono ?_
        rintro e w5 ⟨v5, rfl, hv5, hb5⟩
        obtain ⟨A5, c5, e5, hl5, hC5⟩ := Kd.R_reads hv5
        rw [e5]
        have HB5 := Aside0.mk (below_step HB4.out hb5)
        have HC5 := Aside0.mk (C_one w5 ⟨s, intsOf PL⟩ A5 c5 hl5 hC5)
        have HBA := Aside0.mk (below_step HB5.out (below_alloc (Below.refl _ w5) (.cells #[.string s, .slice A5 (intsOf PL).length c5] 26)))
        clear hv5 hb5 hC5 e5
        go_wp2_with fail
        refine (h22.out _ HBA.out).mono ?_
        rintro e w6 ⟨v6, rfl, hv6, hb6⟩
        obtain ⟨A6, c6, e6, hl6, hC6⟩ := Kd.R_reads hv6
        rw [e6]
        have hb6a := below_alloc (Below.refl _ w6) (.cells #[.string s, .slice A6 (intsOf PL).length c6] 26)
        have h21 := Aside0.mk (same_calls [⟨s, intsOf PL⟩] _ _ 1 1 _ (Kd.C_below (Kd.C_below HC5.out hb6) hb6a) (C_one w6 ⟨s, intsOf PL⟩ A6 c6 hl6 hC6) (by rw [List.length_singleton]; decide) (fun p hp => by
          have : p = ⟨s, intsOf PL⟩ := by simpa using hp
          subst this
          show (intsOf PL).length < _
          omega))
        have HB6 := Aside0.mk (below_step (below_step HBA.out hb6) hb6a)
        clear hv6 hb6 hb6a hC6 e6
        go_wp2_with fail
        refine h21.out.mono ?_
        rintro e w7 ⟨rfl, hb7⟩
        have HB7 := Aside0.mk (below_step HB6.out hb7)
        clear hb7 h21
        go_wp2
        go_roundw
        case rel => exact ⟨k + 1, by omega, by go_num, HB7.out⟩
        case measure => simp [intOf]; omega
      · have dk : decide ((k : Int) < (names.length : Int)) = false := by simp; omega
        have hs : ∀ s ∈ names, s.size ≤ 1073741000 := fun s hs => Nat.le_trans (F1.out s hs) (by decide)
        have h18 := Aside0.mk (plan_calls names hs (by omega) N cn nodes B b n wr (Kd.C_below HN.out hbr) (Kd.C_below HB.out hbr) hb (by omega))
        have h23 : Aside0 (∀ W, Below w.heap.size w W → Calls Tryd.prog 23 #[.slice N names.length cn, .slice B nodes.length b, .int .i64 n] W (PlanPost W (planF names nodes n))) := ⟨fun W hW => rplan_calls names hs (by omega) N cn nodes B b n W (Kd.C_below HN.out hW) (Kd.C_below HB.out hW) hb (by omega)⟩
        have hpl : (planF names nodes n).length < 1073741824 := by unfold planF; rw [List.length_map]; omega
        have hpn : Aside0 (∀ p ∈ planF names nodes n, p.f1.length < 1073741824) := ⟨fun p hp => by
          unfold planF at hp
          obtain ⟨s, _, rfl⟩ := List.mem_map.1 hp
          show (intsOf (placeF s nodes n)).length < _
          rw [ints_length]
          have := placeF_le s nodes n
          omega⟩
        generalize planF names nodes n = T at *
        clear hs hbr hk
        go_wp2_with fail
        refine h18.out.mono ?_
        rintro e w2 ⟨v2, rfl, hv2, hb2⟩
        obtain ⟨A2, c2, e2, hl2, hC2⟩ := Kd.R_reads hv2
        rw [e2]
        have HB2 := Aside0.mk (below_step HBR.out hb2)
        have HC2 := Aside0.mk hC2
        clear hv2 hb2 hC2 e2 h18
        go_wp2_with fail
        refine (h23.out w2 HB2.out).mono ?_
        rintro e w3 ⟨v3, rfl, hv3, hb3⟩
        obtain ⟨A3, c3, e3, hl3, hC3⟩ := Kd.R_reads hv3
        rw [e3]
        have HB3 := Aside0.mk (below_step HB2.out hb3)
        have h21 := Aside0.mk (same_calls T A2 A3 c2 c3 w3 (Kd.C_below HC2.out hb3) hC3 hpl hpn.out)
        clear hv3 hb3 hC3 e3 h23
        go_wp2_with fail
        refine h21.out.mono ?_
        rintro e w4 ⟨rfl, hb4⟩
        have HB4 := Aside0.mk (below_step HB3.out hb4)
        clear hb4 h21
        go_wp2_with (go_at_call 7; refine (HEX.out w4).mono ?_; rintro e w5 ⟨rfl, hb5⟩)
        go_ret
        exact ⟨rfl, below_step HB4.out hb5⟩
end Go.Proofs.YtiiokhoonailaaaDoor.D
