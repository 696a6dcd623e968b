/- The law PlaceLittle: it answers true for every input, if the example of the chapter holds. Conditions: the arguments lie in memory. -/
import Derived.Test.YtiiokhoonailaaaDoorG2
import Derived.Test.YtiiokhoonailaaaDoorP1
namespace Go.Proofs.YtiiokhoonailaaaDoor.D
open Go.RowKit Go.Sort Go.Proofs.YtiiokhoonailaaaDoorW.PrintWords Go.Proofs.YtiiokhoonailaaaDoorW.PrintLast Go.Proofs.YtiiokhoonailaaaDoorW.PrintMore
open Go.Proofs.YtiiokhoonailaaaDoor.R

theorem wrap_nat (z : Nat) (h : z < 9223372036854775808) : IntKind.i64.wrap (z : Int) = (z : Int) := by
  simp [IntKind.wrap, IntKind.signed, IntKind.bits]
  omega
theorem without_calls (l : List Int) (A : Option Addr) (c : Nat) (x : Int) (w : World) (hr : Kd.C KI w A l.length l) (hc : l.length ≤ c) (hl : l.length < 1073741824) : Calls Tryd.prog 13 #[.slice A l.length c, .int .i64 x] w (ListPost w (l.filter fun y => decide (y ≠ x))) :=
  (brokerlaw42_without.calls _ A c l x _ w hr hc (without_f l x hl)).mono fun _ _ h => h
theorem reverse_calls (w0 w : World) (v : Value) (l : List Int) (hB : Below w0.heap.size w0 w) (hv : Kd.R KI 3 w w0.heap.size (fun _ => True) v l) (hl : l.length < 1073741824) :
    Calls Tryd.prog 14 #[v] w fun e w' => e = .returned (.tuple #[]) ∧ Kd.R KI 3 w' w0.heap.size (fun _ => True) v l.reverse ∧ Below w0.heap.size w0 w' :=
  (slices_Reverse_int_int.calls _ (fun _ => True) v l _ w0 w hB hv (rev_f l hl)).mono fun _ _ ⟨h1, h2, h3, _⟩ => ⟨h1, Kd.R_mono h2 (fun _ _ => trivial), h3⟩

set_option maxRecDepth 100000 in
set_option maxHeartbeats 4000000 in
theorem placeLittle_calls (hex : ExOk) (w : World) (names : List ByteArray) (nodes : List Int) (N B : Option Addr) (cn b : Nat) (n x : Int) (hN : Kd.C Kd.string w N names.length names) (hcn : names.length ≤ cn) (hB : Kd.C KI w B nodes.length nodes) (hb : nodes.length ≤ b) :
    Calls Tryd.prog 4 #[.slice N names.length cn, .slice B nodes.length b, .agg #[.int .i64 n, .int .i64 x]] w (TruePost w) := by
  have HEX := Aside0.mk hex
  have HN := Aside0.mk hN
  have HB := Aside0.mk hB
  unfold TruePost
  have hx1 := heap_alloc_new w (.cells #[.int .i64 n, .int .i64 x] 31)
  have hb1 := below_alloc (Below.refl _ w) (.cells #[.int .i64 n, .int .i64 x] 31)
  have hsz := World.size_alloc w (.cells #[.int .i64 n, .int .i64 x] 31)
  have hq := below_alloc (Below.refl _ (w.alloc (.cells #[.int .i64 n, .int .i64 x] 31))) (.cells #[.slice B nodes.length b] 23)
  have hb12 := below_step hb1 hq
  have hf := few_calls names [nodes] N _ cn 1 _ (Kd.C_below hN hb12) hcn (L_one (w.alloc (.cells #[.int .i64 n, .int .i64 x] 31)) nodes B b 23 hb (Kd.C_below hB hb1)) (Nat.le_refl _)
  rw [hsz] at hf
  have hu31 := Tryd.underlying31
  clear hex hN hB
  cases hfb : fewB names [nodes] with
  | false =>
    rw [hfb] at hf
    go_enter Tryd.func4, Tryd.ntmps4
    go_wp2_with fail
    refine hf.mono ?_
    rintro e w2 ⟨rfl, hb2⟩
    have HB2 := Aside0.mk (below_step hb12 hb2)
    clear hf hfb hb12 hb1 hb2 hq hx1
    go_wp2_with (go_at_call 7; refine (HEX.out w2).mono ?_; rintro e w3 ⟨rfl, hb3⟩)
    go_ret
    exact ⟨rfl, below_step HB2.out hb3⟩
  | true =>
    rw [hfb] at hf
    obtain ⟨f1, f2, f3⟩ := few_of hfb
    have g1 := f2 nodes (by simp)
    have F1 := Aside0.mk f1
    go_enter Tryd.func4, Tryd.ntmps4
    go_wp2_with fail
    refine hf.mono ?_
    rintro e w2 ⟨rfl, hb2⟩
    have HB2 := Aside0.mk (below_step hb12 hb2)
    have hbx := ((hq.trans (hb2.mono (by rw [World.size_alloc, World.size_alloc]; omega))).block w.heap.size (by rw [World.size_alloc]; omega)).trans hx1
    have hc0 := blk_cell hbx 0
    have hc1 := blk_cell hbx 1
    clear hf hfb hb12 hb1 hb2 hq hx1 f1 f2 hbx
    go_wp2
    go_quiet (fail)
    have h12 : Aside0 (∀ W, Below w.heap.size w W → Calls Tryd.prog 12 #[.slice B nodes.length b] W (ListPost W nodes)) := ⟨fun W hW => clone_calls nodes B b W (Kd.C_below HB.out hW) (by omega)⟩
    have h13 : Aside0 (∀ W, Below w.heap.size w W → Calls Tryd.prog 13 #[.slice B nodes.length b, .int .i64 x] W (ListPost W (nodes.filter fun y => decide (y ≠ x)))) := ⟨fun W hW => without_calls nodes B b x W (Kd.C_below HB.out hW) hb (by omega)⟩
    have h16 : Aside0 (∀ s, s ∈ names → ∀ W, Below w.heap.size w W → Calls Tryd.prog 16 #[.string s, .slice B nodes.length b] W (RankPost W (rankF s nodes))) := ⟨fun s hs W hW => rank_calls s (Nat.le_trans (F1.out s hs) (by decide)) nodes B b W (Kd.C_below HB.out hW) hb (by omega)⟩
    have hws : (nodes ++ [x]).length ≤ 61 := by rw [List.length_append, List.length_singleton]; omega
    have hbs : (nodes.filter fun y => decide (y ≠ x)).length ≤ 60 := Nat.le_trans (List.length_filter_le _ _) g1
    have hks : nodes.reverse.length ≤ 60 := by rw [List.length_reverse]; omega
    have LR : Aside0 (∀ s, rankF s nodes.reverse = rankF s nodes) := ⟨fun s => rank_rev s nodes⟩
    have LO : Aside0 (∀ s, x ∉ intsOf (placeF s (nodes ++ [x]) n) → placeF s (nodes.filter fun y => decide (y ≠ x)) n = placeF s (nodes ++ [x]) n) := ⟨fun s => little_out s nodes x n⟩
    have LI : Aside0 (∀ s, x ∈ intsOf (placeF s (nodes ++ [x]) n) →
      ((placeF s (nodes ++ [x]) n).filter fun i => decide (((i.val : Nat) : Int) ≠ x)).length + 1 = (placeF s (nodes ++ [x]) n).length ∧
      (placeF s (nodes.filter fun y => decide (y ≠ x)) n).take ((placeF s (nodes ++ [x]) n).filter fun i => decide (((i.val : Nat) : Int) ≠ x)).length = (placeF s (nodes ++ [x]) n).filter fun i => decide (((i.val : Nat) : Int) ≠ x)) := ⟨fun s => little_in s nodes x n⟩
    have LM : Aside0 (movesF names nodes nodes.reverse n = []) := ⟨moves_rev names nodes n⟩
    have HB3 := Aside0.mk (pw_below_drewN HB2.out nq)
    clear hc0 hc1 HB2
    generalize w2.drewN nq = w3 at *
    go_wp2_with fail
    refine (h12.out _ HB3.out).mono ?_
    rintro e w4 ⟨v4, rfl, hv4, hb4⟩
    go_wp2_with (at_builtin; refine Kd.R_append KI (w0 := w3) w3.heap.size rfl (.tmp 34) (.tmp 36) 23 3 (.int .i64 0) 8 rfl Tryd.underlying23 info3 rfl (by decide) (by omega) v4 nodes x [.int .i64 x] (fun _ => True) (fun _ => False) rfl rfl rfl (fun _ hk => hk.elim) (fun _ _ => trivial) hv4 hb4 hb4.size (by omega) ?_; intro v5 w5 ho5 hb5 hg5 _)
    refine (h13.out _ (below_step HB3.out hb5)).mono ?_
    rintro e w6 ⟨v6, rfl, hv6, hb6⟩
    have HB6 := Aside0.mk (below_step (below_step HB3.out hb5) hb6)
    obtain ⟨Aw, cw, ew, hlw, hCw⟩ := Kd.R_reads ho5
    have HCw := Aside0.mk (Kd.C_below hCw hb6)
    obtain ⟨Ab, cb, eb, hlb, hCb⟩ := Kd.R_reads hv6
    have HCb := Aside0.mk hCb
    subst ew
    subst eb
    clear hv4 hb4 ho5 hb5 hg5 hv6 hb6 hCw hCb
    generalize (nodes.filter fun y => decide (y ≠ x)) = BL at *
    generalize nodes ++ [x] = WL at *
    go_wp2_with fail
    refine (h12.out _ HB6.out).mono ?_
    rintro e w7 ⟨v7, rfl, hv7, hb7⟩
    have h14 := Aside0.mk (reverse_calls w6 w7 v7 nodes hb7 hv7 (by omega))
    clear hv7 hb7
    go_wp2_with fail
    refine h14.out.mono ?_
    rintro e w8 ⟨rfl, hv8, hb8⟩
    obtain ⟨Ak, ck, ek, hlk, hCk⟩ := Kd.R_reads hv8
    subst ek
    have HB8 := Aside0.mk (below_step HB6.out hb8)
    have HCk := Aside0.mk hCk
    have HCw8 := Aside0.mk (Kd.C_below HCw.out hb8)
    have HCb8 := Aside0.mk (Kd.C_below HCb.out hb8)
    clear hv8 hb8 hCk h14 HCw HCb h12 h13
    generalize nodes.reverse = BK at *
    have hpw : Aside0 (∀ s, s ∈ names → ∀ W, Below w8.heap.size w8 W → Calls Tryd.prog 15 #[.string s, .slice Aw WL.length cw, .int .i64 n] W (PlacePost W s (placeF s WL n))) := ⟨fun s hs W hW => place_calls s (Nat.le_trans (F1.out s hs) (by decide)) WL Aw cw n W (Kd.C_below HCw8.out hW) hlw (by omega)⟩
    have hpb : Aside0 (∀ s, s ∈ names → ∀ W, Below w8.heap.size w8 W → Calls Tryd.prog 15 #[.string s, .slice Ab BL.length cb, .int .i64 n] W (PlacePost W s (placeF s BL n))) := ⟨fun s hs W hW => place_calls s (Nat.le_trans (F1.out s hs) (by decide)) BL Ab cb n W (Kd.C_below HCb8.out hW) hlb (by omega)⟩
    have hpk : Aside0 (∀ s, s ∈ names → ∀ W, Below w8.heap.size w8 W → Calls Tryd.prog 16 #[.string s, .slice Ak BK.length ck] W (RankPost W (rankF s nodes))) := ⟨fun s hs W hW => by
      have h := rank_calls s (Nat.le_trans (F1.out s hs) (by decide)) BK Ak ck W (Kd.C_below HCk.out hW) hlk (by omega)
      rw [LR.out] at h
      exact h⟩
    have h19 : Aside0 (∀ W, Below w8.heap.size w8 W → Calls Tryd.prog 19 #[.slice N names.length cn, .slice B nodes.length b, .slice Ak BK.length ck, .int .i64 n] W (MovesPost W [])) := ⟨fun W hW => by
      have h := moves_calls names (fun s hs => Nat.le_trans (F1.out s hs) (by decide)) (by omega) N cn nodes BK B Ak b ck n W (Kd.C_below HN.out (below_step HB8.out hW)) (Kd.C_below HB.out (below_step HB8.out hW)) hb (by omega) (Kd.C_below HCk.out hW) hlk (by omega)
      rw [LM.out] at h
      exact h⟩
    have h18 : Aside0 (∀ W, Below w8.heap.size w8 W → Calls Tryd.prog 18 #[.slice N names.length cn, .slice B nodes.length b, .int .i64 n] W (PlanPost W (planF names nodes n))) := ⟨fun W hW => plan_calls names (fun s hs => Nat.le_trans (F1.out s hs) (by decide)) (by omega) N cn nodes B b n W (Kd.C_below HN.out (below_step HB8.out hW)) (Kd.C_below HB.out (below_step HB8.out hW)) hb (by omega)⟩
    clear HCw8 HCb8 HCk LR LM F1 hlw hlb hlk hws hbs hks
    generalize BK.length = lk at *
    generalize hlW : WL.length = lw at *
    generalize hlB : BL.length = lb at *
    clear hlW hlB
    go_wp2
    go_loopw [47] (fun vi wr => ∃ k : Nat, k ≤ names.length ∧ vi = .int .i64 k ∧ Below w8.heap.size w8 wr) (fun vi _ => names.length - (intOf vi).toNat)
    case atStart => exact ⟨0, Nat.zero_le _, rfl, Below.refl _ _⟩
    case round =>
      obtain ⟨k, hk, rfl, hbr⟩ := hrel
      have HBR := Aside0.mk hbr
      by_cases hkn : k < names.length
      · have dk : decide ((k : Int) < (names.length : Int)) = true := by simp; omega
        obtain ⟨ad, ead, hqk⟩ := Kd.at_string (Kd.C_below HN.out (below_step HB8.out hbr)) (k : Int) (by omega) (by omega)
        rw [rdS hkn, Int.toNat_natCast] at hqk
        subst ead
        have hmem := List.getElem_mem hkn
        generalize names[k] = s at *
        have qb := Aside0.mk (hpb.out s hmem wr hbr)
        have qw := Aside0.mk (hpw.out s hmem)
        have qn := Aside0.mk (h16.out s hmem)
        have qk := Aside0.mk (hpk.out s hmem)
        have LOs := Aside0.mk (LO.out s)
        have LIs := Aside0.mk (LI.out s)
        have hff := run_field26 s
        have le1 := placeF_le s BL n
        have le2 := placeF_le s WL n
        have le3 := rankF_le s nodes
        clear hbr hmem
        generalize placeF s BL n = PB at *
        generalize placeF s WL n = PW at *
        generalize rankF s nodes = RN at *
        go_wp2_with fail
        refine qb.out.mono ?_
        rintro e wa ⟨v1, rfl, hv1, hba⟩
        obtain ⟨A1, c1, e1, hl1, hC1⟩ := Kd.R_reads hv1
        subst e1
        have HBA := Aside0.mk (below_step HBR.out hba)
        have HC1 := Aside0.mk hC1
        clear hv1 hba hC1 qb
        go_wp2_with fail
        refine (qw.out wa HBA.out).mono ?_
        rintro e wb ⟨v2, rfl, hv2, hbb⟩
        obtain ⟨A2, c2, e2, hl2, hC2⟩ := Kd.R_reads hv2
        subst e2
        have HBB := Aside0.mk (below_step HBA.out hbb)
        have HC1b := Aside0.mk (Kd.C_below HC1.out hbb)
        have HC2 := Aside0.mk hC2
        clear hv2 hbb hC2 HC1 qw
        go_wp2_with fail
        refine (qn.out wb (below_step HB8.out HBB.out)).mono ?_
        rintro e wc ⟨v3, rfl, hv3, hbc⟩
        obtain ⟨A3, c3, e3, hl3, hC3⟩ := Kd.R_reads hv3
        subst e3
        have HBC := Aside0.mk (below_step HBB.out hbc)
        have HBc := Aside0.mk hbc
        have HC3 := Aside0.mk hC3
        clear hv3 hbc hC3 qn
        go_wp2_with fail
        refine (qk.out wc HBC.out).mono ?_
        rintro e wd ⟨v4, rfl, hv4, hbd⟩
        obtain ⟨A4, c4, e4, hl4, hC4⟩ := Kd.R_reads hv4
        subst e4
        have h8 := Aside0.mk (equal_calls (intsOf RN) (intsOf RN) A3 A4 c3 c4 wd (by rw [ints_length]; omega) (Kd.C_below HC3.out hbd) hl3 hC4 hl4)
        rw [decide_eq_true rfl] at h8
        have HBD := Aside0.mk (below_step HBC.out hbd)
        have HBd := Aside0.mk (below_step HBc.out hbd)
        clear hv4 hbd hC4 HC3 qk
        go_wp2_with fail
        refine h8.out.mono ?_
        rintro e we ⟨rfl, hge⟩
        have HBE := Aside0.mk (below_step HBD.out hge.below)
        have HC1e := Aside0.mk (Kd.C_below HC1b.out (below_step HBd.out hge.below))
        have HC2e := Aside0.mk (Kd.C_below HC2.out (below_step HBd.out hge.below))
        have h17 := Aside0.mk (contains_calls (intsOf PW) A2 c2 x we HC2e.out hl2 (by rw [ints_length]; omega))
        clear hge h8 HC1b HC2 HBd HBD HBC HBc HBB HBA
        by_cases hin : x ∈ intsOf PW
        · obtain ⟨L1, L2⟩ := LIs.out hin
          rw [decide_eq_true hin] at h17
          have L1' : (intsOf (PW.filter fun i => decide (((i.val : Nat) : Int) ≠ x))).length + 1 = (intsOf PW).length := by rw [ints_length, ints_length]; exact L1
          have L2' : (intsOf PB).take (intsOf (PW.filter fun i => decide (((i.val : Nat) : Int) ≠ x))).length = intsOf (PW.filter fun i => decide (((i.val : Nat) : Int) ≠ x)) := by rw [ints_take, ints_length, L2]
          have L3 : (intsOf (PW.filter fun i => decide (((i.val : Nat) : Int) ≠ x))).length ≤ (intsOf PB).length := by
            have h := congrArg List.length L2'
            rw [List.length_take] at h
            omega
          have L4 : (intsOf PW).length ≤ 7 := by rw [ints_length]; omega
          have h13 : Aside0 (∀ W, Below we.heap.size we W → Calls Tryd.prog 13 #[.slice A2 (intsOf PW).length c2, .int .i64 x] W (ListPost W (intsOf (PW.filter fun i => decide (((i.val : Nat) : Int) ≠ x))))) := ⟨fun W hW => by
            have h := without_calls (intsOf PW) A2 c2 x W (Kd.C_below HC2e.out hW) hl2 (by omega)
            rw [without_ints] at h
            exact h⟩
          clear L1 L2 LOs LIs le1 le2 le3 hin
          generalize intsOf (PW.filter fun i => decide (((i.val : Nat) : Int) ≠ x)) = R at *
          generalize intsOf PB = b1 at *
          generalize intsOf PW = b2 at *
          go_wp2_with fail
          refine h17.out.mono ?_
          rintro e wf ⟨rfl, hgf⟩
          have HGF := Aside0.mk hgf.below
          clear hgf h17
          go_wp2_with fail
          refine (h13.out wf HGF.out).mono ?_
          rintro e wg ⟨v5, rfl, hv5, hbg⟩
          obtain ⟨A5, c5, e5, hl5, hC5⟩ := Kd.R_reads hv5
          subst e5
          have HBG := Aside0.mk (below_step HBE.out (below_step HGF.out hbg))
          have hCt := Kd.C_take (m := R.length) (Kd.C_below HC1e.out (below_step HGF.out hbg)) (by omega)
          rw [L2'] at hCt
          have hRc : R.length ≤ c1 := by omega
          have h8q : Aside0 (Calls Tryd.prog 8 #[.slice A1 R.length c1, .slice A5 R.length c5] wg fun e w' => e = .returned (.bool true) ∧ Grn wg w') := ⟨by
            have h := equal_calls R R A1 A5 c1 c5 wg (by omega) hCt hRc hC5 hl5
            rw [decide_eq_true rfl] at h
            exact h⟩
          have hwr : IntKind.i64.wrap ((b2.length : Int) - 1) = (R.length : Int) := by
            rw [show (b2.length : Int) - 1 = (R.length : Int) by omega]
            have hR7 : R.length ≤ 7 := by omega
            generalize R.length = z at hR7
            simp [IntKind.wrap, IntKind.signed, IntKind.bits]
            omega
          have d2 : decide ((b1.length : Int) < (R.length : Int)) = false := by simp; omega
          clear hv5 hbg hC5 hCt h13 HGF HC1e HC2e L1' L2'
          generalize R.length = m at *
          generalize b1.length = l1 at *
          generalize b2.length = l2 at *
          go_wp2_with fail
          refine h8q.out.mono ?_
          rintro e wh ⟨rfl, hgh⟩
          have HBH := Aside0.mk (below_step HBG.out hgh.below)
          clear hgh h8q
          go_wp2
          go_roundw
          case rel => exact ⟨k + 1, by omega, by go_num, HBH.out⟩
          case measure => simp [intOf]; omega
        · have e := LOs.out hin
          subst e
          rw [decide_eq_false hin] at h17
          have h8b : Aside0 (∀ W, Below we.heap.size we W → Calls Tryd.prog 8 #[.slice A1 (intsOf PB).length c1, .slice A2 (intsOf PB).length c2] W fun e w' => e = .returned (.bool true) ∧ Grn W w') := ⟨fun W hW => by
            have h := equal_calls (intsOf PB) (intsOf PB) A1 A2 c1 c2 W (by rw [ints_length]; omega) (Kd.C_below HC1e.out hW) hl1 (Kd.C_below HC2e.out hW) hl2
            rw [decide_eq_true rfl] at h
            exact h⟩
          clear LOs LIs le1 le2 le3 hin
          go_wp2_with fail
          refine h17.out.mono ?_
          rintro e wf ⟨rfl, hgf⟩
          have HGF := Aside0.mk hgf.below
          clear hgf h17
          go_wp2_with fail
          refine (h8b.out wf HGF.out).mono ?_
          rintro e wg ⟨rfl, hgg⟩
          have HBG := Aside0.mk (below_step HBE.out (below_step HGF.out hgg.below))
          clear hgg h8b HGF HC1e HC2e
          go_wp2
          go_roundw
          case rel => exact ⟨k + 1, by omega, by go_num, HBG.out⟩
          case measure => simp [intOf]; omega
      · have dk : decide ((k : Int) < (names.length : Int)) = false := by simp; omega
        have HBE := HBR
        clear hbr hk
        go_wp2_with fail
        clear hkn dk
        obtain ⟨w9, rfl⟩ : ∃ w9, w9 = wr := ⟨_, rfl⟩
        go_loopw [17, 105] (fun vo vi wr => ∃ q : Nat, q ≤ nodes.length ∧ vi = .int .i64 q ∧ Kd.R KI 3 wr w9.heap.size (fun _ => True) vo (diffF (nodes.take q)) ∧ Below w9.heap.size w9 wr) (fun _ vi _ => nodes.length - (intOf vi).toNat)
        case atStart => exact ⟨0, Nat.zero_le _, rfl, Kd.R_nil _ _ _ _ _, Below.refl _ _⟩
        case round =>
          obtain ⟨q, hq, rfl, hvo, hbq⟩ := hrel
          have HBQ := Aside0.mk hbq
          have hdl := diff_le (nodes.take q)
          by_cases hqn : q < nodes.length
          · have dq : decide ((q : Int) < (nodes.length : Int)) = true := by simp; omega
            obtain ⟨ad, ead, hcq⟩ := Kd.at_int (Kd.C_below HB.out (below_step (below_step HB8.out HBR.out) hbq)) (q : Int) (by omega) (by omega)
            rw [rdI hqn, Int.toNat_natCast] at hcq
            subst ead
            have hmore := diff_more nodes hqn
            generalize nodes[q] = y at *
            generalize diffF (nodes.take q) = D at *
            obtain ⟨Ad, cd, ed, hld, hCd⟩ := Kd.R_reads hvo
            subst ed
            have h17 := Aside0.mk (contains_calls D Ad cd y wr hCd hld (by omega))
            have HVO := Aside0.mk hvo
            clear hvo hCd hbq
            by_cases y0 : (0 : Int) ≤ y
            · by_cases y7 : y < 7
              · by_cases hm : y ∈ D
                · rw [decide_eq_true hm] at h17
                  rw [show diffStep D y = D by unfold diffStep; rw [if_neg (fun h => h.2.2 hm)]] at hmore
                  have HM := Aside0.mk hmore
                  clear hmore hm
                  go_wp2_with fail
                  refine h17.out.mono ?_
                  rintro e wz ⟨rfl, hgz⟩
                  have HGZ := Aside0.mk hgz.below
                  clear hgz h17
                  go_wp2
                  go_roundw
                  case rel => exact ⟨q + 1, by omega, by go_num, by rw [HM.out]; exact Kd.R_below HVO.out HGZ.out, below_step HBQ.out HGZ.out⟩
                  case measure => simp [intOf]; omega
                · rw [decide_eq_false hm] at h17
                  rw [show diffStep D y = D ++ [y] by unfold diffStep; rw [if_pos ⟨y0, y7, hm⟩]] at hmore
                  have HM := Aside0.mk hmore
                  clear hmore hm
                  go_wp2_with fail
                  refine h17.out.mono ?_
                  rintro e wz ⟨rfl, hgz⟩
                  have HGZ := Aside0.mk hgz.below
                  clear hgz h17
                  go_wp2_with (at_builtin; refine Kd.R_append KI (w0 := w9) w9.heap.size rfl (.tmp 121) (.tmp 123) 23 3 (.int .i64 0) 8 rfl Tryd.underlying23 info3 rfl (by decide) (by omega) (.slice Ad D.length cd) D y [.int .i64 y] (fun _ => True) (fun _ => False) rfl rfl rfl (fun _ hk => hk.elim) (fun _ _ => trivial) (Kd.R_below HVO.out HGZ.out) (below_step HBQ.out HGZ.out) (below_step HBQ.out HGZ.out).size (by omega) ?_; intro v1 wy ho hby hgy _)
                  go_roundw
                  case rel => exact ⟨q + 1, by omega, by go_num, by rw [HM.out]; exact ho, hby⟩
                  case measure => simp [intOf]; omega
              · rw [show diffStep D y = D by unfold diffStep; rw [if_neg (fun h => y7 h.2.1)]] at hmore
                have HM := Aside0.mk hmore
                clear hmore h17
                go_wp2_with fail
                go_roundw
                case rel => exact ⟨q + 1, by omega, by go_num, by rw [HM.out]; exact HVO.out, HBQ.out⟩
                case measure => simp [intOf]; omega
            · rw [show diffStep D y = D by unfold diffStep; rw [if_neg (fun h => y0 h.1)]] at hmore
              have HM := Aside0.mk hmore
              clear hmore h17
              go_wp2_with fail
              go_roundw
              case rel => exact ⟨q + 1, by omega, by go_num, by rw [HM.out]; exact HVO.out, HBQ.out⟩
              case measure => simp [intOf]; omega
          · have dq : decide ((q : Int) < (nodes.length : Int)) = false := by simp; omega
            rw [List.take_of_length_le (by omega)] at hvo hdl
            obtain ⟨Ad, cd, ed, hld, hCd⟩ := Kd.R_reads hvo
            subst ed
            have HCD := Aside0.mk hCd
            have hpl : (planF names nodes n).length = names.length := by unfold planF; rw [List.length_map]
            have hpn : ∀ p ∈ planF names nodes n, p.f1.length ≤ 60 := fun p hp => by
              unfold planF at hp
              obtain ⟨s, _, rfl⟩ := List.mem_map.1 hp
              show (intsOf (placeF s nodes n)).length ≤ _
              rw [ints_length]
              have := placeF_le s nodes n
              omega
            have LS := Aside0.mk (loads_sum nodes n names)
            have LK := Aside0.mk (sumK_le (planF names nodes n))
            have hpl18 := Aside0.mk (h18.out wr (below_step HBR.out hbq))
            have HPN := Aside0.mk hpn
            clear hvo hCd hbq hpn h18
            generalize planF names nodes n = T at *
            generalize diffF nodes = D at *
            go_wp2_with fail
            refine hpl18.out.mono ?_
            rintro e w1 ⟨v1, rfl, hv1, hba⟩
            obtain ⟨At, ct, et, hlt, hCt⟩ := Kd.R_reads hv1
            subst et
            have HBA := Aside0.mk (below_step (below_step HBR.out HBQ.out) hba)
            have h9 := Aside0.mk (load_calls T D At Ad ct cd w1 (by omega) HPN.out (by omega) hCt hlt (Kd.C_below HCD.out hba) hld)
            rw [hpl] at h9
            clear hv1 hba hCt hpl18 HCD HPN
            go_wp2_with fail
            refine h9.out.mono ?_
            rintro e w10 ⟨v2, rfl, hv2, hbb⟩
            obtain ⟨Al, cl, e2, hll, hCl⟩ := Kd.R_reads hv2
            rw [loads_length] at e2 hll
            subst e2
            have HB10 := Aside0.mk (below_step HBA.out hbb)
            have HCL := Aside0.mk hCl
            clear hv2 hbb hCl h9
            go_wp2_with fail
            clear hqn dq hq
            go_loopw [20, 133] (fun vs vi wr => ∃ q : Nat, q ≤ D.length ∧ vi = .int .i64 q ∧ vs = .int .i64 (sumK T D q) ∧ Below w10.heap.size w10 wr) (fun _ vi _ => D.length - (intOf vi).toNat)
            case atStart => exact ⟨0, Nat.zero_le _, rfl, by unfold sumK; rfl, Below.refl _ _⟩
            case round =>
              obtain ⟨q, hq, rfl, rfl, hbq⟩ := hrel
              have HBQ := Aside0.mk hbq
              by_cases hqn : q < D.length
              · have dq : decide ((q : Int) < (D.length : Int)) = true := by simp; omega
                have hCl := Kd.C_below HCL.out hbq
                obtain ⟨ad, ead, hcq⟩ := Kd.at_int hCl (q : Int) (by omega) (by rw [loads_length]; omega)
                have hrd : rd (loads T D) (q : Int) = (loadOf T D[q] : Int) := by
                  rw [rdI (by rw [loads_length]; exact hqn)]
                  exact List.getElem_map _
                rw [hrd, Int.toNat_natCast] at hcq
                subst ead
                have hmore := sumK_more T D hqn
                have h1 := LK.out D (q + 1)
                have h2 : (q + 1) * T.length ≤ 7 * 40 := Nat.mul_le_mul (by omega) (by omega)
                generalize loadOf T D[q] = Lq at *
                have hsum : IntKind.i64.wrap ((sumK T D q : Int) + (Lq : Int)) = ((sumK T D (q + 1) : Nat) : Int) := by
                  rw [← Int.natCast_add, ← hmore]
                  exact wrap_nat _ (by clear hmore; omega)
                have HS := Aside0.mk hsum
                clear hCl hrd hmore h1 h2 hbq
                generalize sumK T D q = S0 at *
                generalize hS1 : sumK T D (q + 1) = S1 at *
                have HS1 := Aside0.mk hS1
                clear hS1
                have hsum := HS.out
                clear HS
                go_wp2_with fail
                clear hsum
                go_roundw
                case rel => exact ⟨q + 1, by omega, by go_num, by rw [HS1.out], HBQ.out⟩
                case measure => simp [intOf]; omega
              · have dq : decide ((q : Int) < (D.length : Int)) = false := by simp; omega
                have hqD : q = D.length := by omega
                subst hqD
                have hS : sumK T D D.length = names.length * min n.toNat D.length := by
                  rw [← LS.out]
                  unfold sumK
                  rw [List.take_length]
                obtain ⟨M, hM⟩ : ∃ M, M = min n.toNat D.length := ⟨_, rfl⟩
                rw [← hM] at hS
                have hval : min (max n 0) (D.length : Int) = (M : Int) := by omega
                have hM7 : names.length * M ≤ 40 * 7 := Nat.mul_le_mul (by omega) (by omega)
                have hmul : IntKind.i64.wrap ((names.length : Int) * (M : Int)) = ((names.length * M : Nat) : Int) := by
                  rw [← Int.natCast_mul]
                  exact wrap_nat _ (by omega)
                rw [hS]
                have h19r := Aside0.mk (h19.out wr (below_step HB10.out hbq))
                have HBR2 := Aside0.mk (below_step HB8.out (below_step HB10.out hbq))
                clear hS hM7 hM LS LK h19
                generalize names.length * M = Z at *
                go_wp2_with fail
                refine h19r.out.mono ?_
                rintro e wy ⟨vm, rfl, hvm, hby⟩
                obtain ⟨Am, cm, em, hlm, hCm⟩ := Kd.R_reads hvm
                subst em
                have HBY := Aside0.mk (below_step HBR2.out hby)
                clear hvm hby hCm h19r hbq
                go_wp2_with (go_at_call 7; refine (HEX.out _).mono ?_; rintro e wz ⟨rfl, hbz⟩)
                go_ret
                exact ⟨rfl, below_step HBY.out hbz⟩
end Go.Proofs.YtiiokhoonailaaaDoor.D
