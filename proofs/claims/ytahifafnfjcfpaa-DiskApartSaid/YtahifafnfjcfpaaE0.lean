/- The reference's With. Conditions: as each theorem says. -/
import Derived.Test.YtahifafnfjcfpaaP0
import Derived.WideAt
namespace Go.Proofs.Ytahifafnfjcfpaa.D
open Go.RowKit Go.Maps Go.Sort Go.Proofs.YtahifafnfjcfpaaW.PrintWords Go.Proofs.YtahifafnfjcfpaaW.PrintLast Go.Proofs.YtahifafnfjcfpaaW.PrintMore
open Go.Proofs.Ytahifafnfjcfpaa.R (S61 k61 k61_mkM at_T61 rd_T61 info61 brokerref36_Without.calls)

/-- What With gives. -/
def ltF (f g : S61) : Bool := bytesBefore (key f.f0) (key g.f0)
def refWith (T : List S61) (f : S61) : List S61 := (del (key f.f0) T).filter (fun g => ltF g f) ++ [f] ++ (del (key f.f0) T).filter (fun g => ltF f g)

theorem bytesLess_eq : ∀ a b : List UInt8, Op.bytesLess a b = bytesBefore a b
  | [], [] => rfl
  | _ :: _, [] => rfl
  | [], _ :: _ => rfl
  | a :: x, b :: y => by
    unfold Op.bytesLess bytesBefore
    rw [bytesLess_eq x y]
theorem less_lt (f g : S61) : Op.bytesLess f.f0.toList g.f0.toList = ltF f g := by
  rw [ByteArray.toList_eq, ByteArray.toList_eq, bytesLess_eq]; rfl
theorem gt_case (f g : S61) : (ltF f g = true ∧ Op.bytesLess g.f0.toList f.f0.toList = false ∧ (g.f0.toList == f.f0.toList) = false) ∨
    (ltF f g = false ∧ (Op.bytesLess g.f0.toList f.f0.toList = true ∨ (g.f0.toList == f.f0.toList) = true)) := by
  rw [less_lt]
  by_cases he : key f.f0 = key g.f0
  · refine .inr ⟨?_, .inr ?_⟩
    · unfold ltF; rw [he]; exact WideAt.bytes_irrefl _
    · rw [beq_iff_eq]; exact toList_inj.2 he.symm
  · cases h : ltF f g with
    | true =>
      refine .inl ⟨rfl, ?_, ?_⟩
      · cases h2 : ltF g f with
        | false => rfl
        | true =>
          have := WideShapes.bytes_trans _ _ _ h h2
          rw [WideAt.bytes_irrefl] at this
          cases this
      · rw [beq_eq_false_iff_ne]; exact fun e => he (toList_inj.1 e.symm)
    | false =>
      refine .inr ⟨rfl, .inl ?_⟩
      rcases WideAt.bytes_total _ _ he with h2 | h2
      · unfold ltF at h; rw [h] at h2; cases h2
      · exact h2
theorem take_more {α : Type} (l : List α) {k : Nat} (h : k < l.length) (p : α → Bool) : (l.take (k + 1)).filter p = (l.take k).filter p ++ (if p l[k] = true then [l[k]] else []) := by
  rw [List.take_succ_eq_append_getElem h, List.filter_append]
  congr 1
  by_cases e : p l[k] = true
  · rw [if_pos e, List.filter_cons_of_pos e]; rfl
  · rw [if_neg e, List.filter_cons_of_neg e]; rfl
theorem filter_lt {α : Type} (l : List α) (k : Nat) (p : α → Bool) (h : l.length < 1073741824) : ((l.take k).filter p).length < 1073741824 :=
  Nat.lt_of_le_of_lt (List.length_filter_le _ _) (Nat.lt_of_le_of_lt (by rw [List.length_take]; exact Nat.min_le_right _ _) h)
theorem run_field39 (A : Option Addr) (n c : Nat) (w : World) : (Instr.field 39 (.agg #[.slice A n c]) 0).run Try.prog w = .ok (.slice A n c) w := by
  simp [Instr.field, run_underlying Try.underlying39, asAgg, part, isAgg]

set_option maxRecDepth 100000 in
set_option maxHeartbeats 400000 in
theorem with_calls (T : List S61) (A : Option Addr) (c : Nat) (f : S61) (w : World) (hr : Kd.C k61 w A T.length T) (hc : T.length ≤ c) (hT : T.length < 1073741824) :
    Calls Try.prog 33 #[.agg #[.slice A T.length c], .agg #[.string f.f0, .string f.f1, .int .i64 f.f2]] w fun e w' => ∃ v, e = .returned (.agg #[v]) ∧ Kd.R k61 61 w' w.heap.size (fun _ => True) v (refWith T f) ∧ Below w.heap.size w w' := by
  have hu39 := Try.underlying39
  have hu61 := Try.underlying61
  have hn : (del (key f.f0) T).length < 1073741824 := Nat.lt_of_le_of_lt (List.length_filter_le _ _) hT
  have hwo := without_f T f.f0 hT
  unfold refWith
  generalize del (key f.f0) T = U at *
  go_enter Try.func33, Try.ntmps33
  go_wp2_with fail
  have hb0 : Below w.heap.size w (((w.alloc (.cells #[.slice A T.length c] 39)).alloc (.cells #[.string f.f0, .string f.f1, .int .i64 f.f2] 61)).alloc (.cells #[.slice none 0 0] 39)) := below_alloc (below_alloc (below_alloc (Below.refl _ _) _) _) _
  refine (brokerref36_Without.calls (T.length + 1) A c T f.f0 U _ (Kd.C_below hr hb0) hc hwo).mono ?_
  rintro e w1 ⟨v, rfl, hv, hb⟩
  have hB1 := below_step hb0 hb
  have hx1 : w1.heap[w.heap.size + 1]? = some (.cells #[.string f.f0, .string f.f1, .int .i64 f.f2] 61 (0, 0)) := by
    rw [hb.block _ (by simp), Below.heap_alloc _ _ _ (by simp)]
    have := heap_alloc_new (w.alloc (.cells #[.slice A T.length c] 39)) (.cells #[.string f.f0, .string f.f1, .int .i64 f.f2] 61)
    simpa using this
  have hx2 : w1.heap[w.heap.size + 1 + 1]? = some (.cells #[.slice none 0 0] 39 (0, 0)) := by
    rw [hb.block _ (by simp)]
    have := heap_alloc_new ((w.alloc (.cells #[.slice A T.length c] 39)).alloc (.cells #[.string f.f0, .string f.f1, .int .i64 f.f2] 61)) (.cells #[.slice none 0 0] 39)
    simpa using this
  obtain ⟨A1, c1, hv1⟩ := Kd.R_slice hv
  rw [hv1] at hv ⊢
  clear hv1 hb0 hr hb hT hc hwo
  have hfd := run_field39 A1 U.length c1
  go_wp2
  have hnil : Kd.R k61 61 w1 w1.heap.size (fun _ => True) (.slice none 0 0) [] := Kd.R_nil _ _ _ _ _
  have HV := Aside0.mk (Kd.R_reads' hv).2.2
  have HB1 := Aside0.mk hB1
  have HX1 := Aside0.mk hx1
  have HX2 := Aside0.mk hx2
  have HN := Aside0.mk hn
  clear hv hB1 hx1 hx2
  have hg2 : w.heap.size ≤ w.heap.size + 1 + 1 := by omega
  have HG2 := Aside0.mk hg2
  clear hg2
  generalize w.heap.size + 1 + 1 = g2 at *
  generalize w.heap.size + 1 = g1 at *
  go_loopw [6, 7] (fun vo vi wr => ∃ k : Nat, k ≤ U.length ∧ vi = .int .i64 k ∧ Kd.R k61 61 wr w1.heap.size (fun _ => True) vo ((U.take k).filter fun g => ltF g f) ∧ Below w1.heap.size w1 wr) (fun _ vi _ => U.length - (intOf vi).toNat)
  case atStart => exact ⟨0, Nat.zero_le _, rfl, by simpa using hnil, Below.refl _ _⟩
  case round =>
    obtain ⟨k, hk, rfl, hvo, hbr⟩ := hrel
    by_cases hkn : k < U.length
    · have dk : decide ((k : Int) < (U.length : Int)) = true := by simp; omega
      obtain ⟨ad, ead, hc0, hc1, hc2⟩ := at_T61 HV.out (k : Int) (by omega) (by omega)
      subst ead
      rw [rd61 hkn, Int.toNat_natCast] at hc0 hc1 hc2
      replace hc0 := (hbr.cell (World.block_lt_of_cell? w1 _ hc0)).trans hc0
      replace hc1 := (hbr.cell (World.block_lt_of_cell? w1 _ hc1)).trans hc1
      replace hc2 := (hbr.cell (World.block_lt_of_cell? w1 _ hc2)).trans hc2
      have hx : wr.heap[g1]? = some (.cells #[.string f.f0, .string f.f1, .int .i64 f.f2] 61 (0, 0)) := (hbr.block g1 (blk_lt HX1.out)).trans HX1.out
      have hcx : wr.cell? ⟨g1, 0, none⟩ = some (.string f.f0) := blk_cell hx 0
      clear hx
      have hacc := filter_lt U k (fun g => ltF g f) HN.out
      have hmore := take_more U hkn (fun g => ltF g f)
      have hbl := less_lt U[k] f
      have HM := Aside0.mk hmore
      clear hmore
      cases hlt : ltF U[k] f with
      | true =>
        rw [hlt] at hbl
        have HL := Aside0.mk hlt
        clear hlt
        go_wp2
        go_quiet (fail)
        go_wp2_with (at_builtin; refine Kd.R_append k61 (w0 := w1) w1.heap.size rfl (.tmp 28) (.tmp 33) 37 61 (.agg #[(.string ⟨#[]⟩), (.string ⟨#[]⟩), (.int .i64 0)]) 40 rfl Try.underlying37 info61 rfl (by decide) (by omega) u6 ((U.take k).filter fun g => ltF g f) U[k] [.string U[k].f0, .string U[k].f1, .int .i64 U[k].f2] (fun _ => True) (fun _ => False) rfl rfl (k61_mkM _ _ _ U[k]) (fun _ hk => hk.elim) (fun _ _ => trivial) (Kd.R_drewN hvo _) (pw_below_drewN hbr _) hbr.size (by omega) ?_; intro v1 w2 ho hb2 hg _)
        go_roundw
        case rel =>
          refine ⟨k + 1, by omega, by go_num, ?_, hb2⟩
          rw [HM.out, if_pos HL.out]
          exact ho
        case measure => simp [intOf]; omega
      | false =>
        rw [hlt] at hbl
        have HL := Aside0.mk hlt
        clear hlt
        go_wp2
        go_quiet (fail)
        go_wp2
        go_roundw
        case rel =>
          refine ⟨k + 1, by omega, by go_num, ?_, pw_below_drewN hbr _⟩
          rw [HM.out, HL.out, if_neg (by decide), List.append_nil]
          exact Kd.R_drewN hvo _
        case measure => simp [intOf]; omega
    · have dk : decide ((k : Int) < (U.length : Int)) = false := by simp; omega
      obtain rfl : k = U.length := by omega
      rw [List.take_length] at hvo
      have hx : wr.heap[g1]? = some (.cells #[.string f.f0, .string f.f1, .int .i64 f.f2] 61 (0, 0)) := (hbr.block g1 (blk_lt HX1.out)).trans HX1.out
      have hcx0 : wr.cell? ⟨g1, 0, none⟩ = some (.string f.f0) := blk_cell hx 0
      have hcx1 : wr.cell? ⟨g1, 1, none⟩ = some (.string f.f1) := blk_cell hx 1
      have hcx2 : wr.cell? ⟨g1, 2, none⟩ = some (.int .i64 f.f2) := blk_cell hx 2
      have hacc := filter_lt U U.length (fun g => ltF g f) HN.out
      rw [List.take_length] at hacc
      clear hx
      go_wp2_with (at_builtin; refine Kd.R_append k61 (w0 := w1) w1.heap.size rfl (.tmp 35) (.tmp 37) 37 61 (.agg #[(.string ⟨#[]⟩), (.string ⟨#[]⟩), (.int .i64 0)]) 40 rfl Try.underlying37 info61 rfl (by decide) (by omega) u6 (U.filter fun g => ltF g f) f [.string f.f0, .string f.f1, .int .i64 f.f2] (fun _ => True) (fun _ => False) rfl rfl (k61_mkM _ _ _ f) (fun _ hk => hk.elim) (fun _ _ => trivial) hvo hbr hbr.size (by omega) ?_; intro v2 w2 ho2 hb2 hg2 _; have HO2 := Aside0.mk ho2; have HB2 := Aside0.mk hb2; clear ho2 hb2 hg2)
      clear hcx0 hcx1 hcx2 hvo hbr
      have HAC := Aside0.mk hacc
      clear hacc
      go_loopw [6, 8] (fun vo vi wr => ∃ k : Nat, k ≤ U.length ∧ vi = .int .i64 k ∧ Kd.R k61 61 wr w1.heap.size (fun _ => True) vo ((U.filter fun g => ltF g f) ++ [f] ++ ((U.take k).filter fun g => ltF f g)) ∧ Below w1.heap.size w1 wr) (fun _ vi _ => U.length - (intOf vi).toNat)
      case atStart => exact ⟨0, Nat.zero_le _, rfl, by simpa using HO2.out, HB2.out⟩
      case round =>
        obtain ⟨k, hk, rfl, hvo, hbr⟩ := hrel
        by_cases hkn : k < U.length
        · have dk : decide ((k : Int) < (U.length : Int)) = true := by simp; omega
          obtain ⟨ad, ead, hc0, hc1, hc2⟩ := at_T61 HV.out (k : Int) (by omega) (by omega)
          subst ead
          rw [rd61 hkn, Int.toNat_natCast] at hc0 hc1 hc2
          replace hc0 := (hbr.cell (World.block_lt_of_cell? w1 _ hc0)).trans hc0
          replace hc1 := (hbr.cell (World.block_lt_of_cell? w1 _ hc1)).trans hc1
          replace hc2 := (hbr.cell (World.block_lt_of_cell? w1 _ hc2)).trans hc2
          have hx : wr.heap[g1]? = some (.cells #[.string f.f0, .string f.f1, .int .i64 f.f2] 61 (0, 0)) := (hbr.block g1 (blk_lt HX1.out)).trans HX1.out
          have hcx : wr.cell? ⟨g1, 0, none⟩ = some (.string f.f0) := blk_cell hx 0
          clear hx
          have hacc := filter_lt U k (fun g => ltF f g) HN.out
          have hmore := take_more U hkn (fun g => ltF f g)
          have HM := Aside0.mk hmore
          clear hmore
          rcases gt_case f U[k] with ⟨hlt, hb1, hb2⟩ | ⟨hlt, hb1 | hb1⟩
          · have HL := Aside0.mk hlt
            clear hlt
            go_wp2
            go_quiet (fail)
            have hl2 : (((U.filter fun g => ltF g f) ++ [f] ++ ((U.take k).filter fun g => ltF f g)).length + 1) * 40 ≤ 140737488355328 := by have := HAC.out; simp only [List.length_append, List.length_singleton]; omega
            have HL2 := Aside0.mk hl2
            clear hl2
            go_wp2_with (at_builtin; refine Kd.R_append k61 (w0 := w1) w1.heap.size rfl (.tmp 53) (.tmp 58) 37 61 (.agg #[(.string ⟨#[]⟩), (.string ⟨#[]⟩), (.int .i64 0)]) 40 rfl Try.underlying37 info61 rfl (by decide) (by omega) u6 ((U.filter fun g => ltF g f) ++ [f] ++ ((U.take k).filter fun g => ltF f g)) U[k] [.string U[k].f0, .string U[k].f1, .int .i64 U[k].f2] (fun _ => True) (fun _ => False) rfl rfl (k61_mkM _ _ _ U[k]) (fun _ hk => hk.elim) (fun _ _ => trivial) (Kd.R_drewN hvo _) (pw_below_drewN hbr _) hbr.size HL2.out ?_; intro v1 w2 ho hb2 hg _)
            go_roundw
            case rel =>
              refine ⟨k + 1, by omega, by go_num, ?_, hb2⟩
              rw [HM.out, if_pos HL.out, ← List.append_assoc]
              exact ho
            case measure => simp [intOf]; omega
          · have HL := Aside0.mk hlt
            clear hlt
            go_wp2
            go_quiet (fail)
            go_wp2
            go_roundw
            case rel =>
              refine ⟨k + 1, by omega, by go_num, ?_, pw_below_drewN hbr _⟩
              rw [HM.out, HL.out, if_neg (by decide), List.append_nil]
              exact Kd.R_drewN hvo _
            case measure => simp [intOf]; omega
          · have HL := Aside0.mk hlt
            clear hlt
            go_wp2
            go_quiet (fail)
            go_wp2
            go_roundw
            case rel =>
              refine ⟨k + 1, by omega, by go_num, ?_, pw_below_drewN hbr _⟩
              rw [HM.out, HL.out, if_neg (by decide), List.append_nil]
              exact Kd.R_drewN hvo _
            case measure => simp [intOf]; omega
        · have dk : decide ((k : Int) < (U.length : Int)) = false := by simp; omega
          obtain rfl : k = U.length := by omega
          rw [List.take_length] at hvo
          obtain ⟨Ao, co, ho⟩ := Kd.R_slice hvo
          rw [ho] at hvo ⊢
          clear ho
          have hx2 : wr.heap[g2]? = some (.cells #[.slice none 0 0] 39 (0, 0)) := (hbr.block g2 (blk_lt HX2.out)).trans HX2.out
          have hf2 := blk_frozen hx2 0
          have hc2 := blk_cell hx2 0
          have HVO := Aside0.mk hvo
          have HX := Aside0.mk hx2
          have HBR := Aside0.mk hbr
          clear hvo hx2 hbr
          obtain ⟨R, hR⟩ : ∃ R, R = ((U.filter fun g => ltF g f) ++ [f] ++ (U.filter fun g => ltF f g)) := ⟨_, rfl⟩
          rw [← hR] at HVO ⊢
          have HRR := Aside0.mk hR
          clear hR
          go_wp2
          refine bodyPost_ret (results_cell_row rfl _ _ g2 39 #[.slice Ao R.length co] (0, 0) _ rfl (by refine blk_put (cs := #[.slice none 0 0]) ?_ 0 _ rfl; exact HX.out) Try.underlying39 rfl (by kernel_rfl)) rfl ?_
          rw [← HRR.out]
          refine ⟨_, rfl, ?_, ?_⟩
          · exact Kd.R_lower (Kd.R_mono (Kd.R_far (p := ⟨g2, 0, none⟩) (Kd.R_types HVO.out HX.out (by decide)) (fun _ hk => hk.2) _) (fun _ _ => trivial)) HB1.out.size
          · exact (below_then HB1.out HB1.out.size HBR.out).setCell HG2.out _
end Go.Proofs.Ytahifafnfjcfpaa.D
