/- Plan and Moves. Conditions: as each theorem says. -/
import Derived.Test.YtiiokhoonailaaaDoorC4
namespace Go.Proofs.YtiiokhoonailaaaDoor.D
open Go.RowKit Go.Sort Go.Proofs.YtiiokhoonailaaaDoorW.PrintWords Go.Proofs.YtiiokhoonailaaaDoorW.PrintLast Go.Proofs.YtiiokhoonailaaaDoorW.PrintMore
open Go.Proofs.YtiiokhoonailaaaDoor.R

/-- A name's placement. -/
def pent (nodes : List Int) (n : Int) (s : ByteArray) : S26 := ⟨s, intsOf (placeF s nodes n)⟩
def planF (names : List ByteArray) (nodes : List Int) (n : Int) : List S26 := names.map (pent nodes n)
def moved (old next : List Int) (n : Int) (s : ByteArray) : Bool := !decide (intsOf (placeF s old n) = intsOf (placeF s next n))
def movesF (names : List ByteArray) (old next : List Int) (n : Int) : List ByteArray := names.filter (moved old next n)
def PlanPost (w : World) (T : List S26) (e : Ending) (w' : World) : Prop := ∃ v, e = .returned v ∧ Kd.R k26 26 w' w.heap.size (fun _ => True) v T ∧ Below w.heap.size w w'
def MovesPost (w : World) (T : List ByteArray) (e : Ending) (w' : World) : Prop := ∃ v, e = .returned v ∧ Kd.R Kd.string 9 w' w.heap.size (fun _ => True) v T ∧ Below w.heap.size w w'
theorem info26 : (Tryd.prog.info? 26).map (fun i => (i.zero, i.size, i.bytes)) = some (some (.agg #[(.string ⟨#[]⟩), (.slice none 0 0)]), 2, 40) := by kernel_rfl
theorem info9 : (Tryd.prog.info? 9).map (fun i => (i.zero, i.size, i.bytes)) = some (some (.string ⟨#[]⟩), 1, 16) := by kernel_rfl
theorem placeF_le (s : ByteArray) (nodes : List Int) (n : Int) : (placeF s nodes n).length ≤ 7 := by
  unfold placeF
  have := rankF_le s nodes
  rw [List.length_take]; omega
theorem take_more {α : Type} (l : List α) {k : Nat} (h : k < l.length) (p : α → Bool) : (l.take (k + 1)).filter p = (l.take k).filter p ++ (if p l[k] = true then [l[k]] else []) := by
  rw [List.take_succ_eq_append_getElem h, List.filter_append]
  congr 1
  by_cases e : p l[k] = true
  · rw [if_pos e, List.filter_cons_of_pos e]; rfl
  · rw [if_neg e, List.filter_cons_of_neg e]; rfl


set_option maxRecDepth 100000 in
set_option maxHeartbeats 400000 in
theorem plan_calls (names : List ByteArray) (hnm : ∀ s ∈ names, s.size ≤ 1073741000) (hnl : names.length < 1073741824) (N : Option Addr) (cn : Nat) (nodes : List Int) (A : Option Addr) (c : Nat) (n : Int) (w : World) (hN : Kd.C Kd.string w N names.length names) (hr : Kd.C KI w A nodes.length nodes) (hc : nodes.length ≤ c) (hn : nodes.length < 1073741824) :
    Calls Tryd.prog 18 #[.slice N names.length cn, .slice A nodes.length c, .int .i64 n] w (PlanPost w (planF names nodes n)) := by
  have HN := Aside0.mk hN
  have h15 : Aside0 (∀ (s : ByteArray) (W : World), s ∈ names → Below w.heap.size w W → Calls Tryd.prog 15 #[.string s, .slice A nodes.length c, .int .i64 n] W (PlacePost W s (placeF s nodes n))) := ⟨fun s W hs hW => place_calls s (hnm s hs) nodes A c n W (Kd.C_below hr hW) hc hn⟩
  have hpf : Aside0 (planF names nodes n = names.map (pent nodes n)) := ⟨rfl⟩
  clear hN hr hnm hc hn
  unfold PlanPost
  rw [hpf.out]
  go_enter Tryd.func18, Tryd.ntmps18
  go_wp2
  go_loopw [7, 12] (fun vo vi wr => ∃ k : Nat, k ≤ names.length ∧ vi = .int .i64 k ∧ Kd.R k26 26 wr w.heap.size (fun _ => True) vo ((names.take k).map (pent nodes n)) ∧ Below w.heap.size w wr) (fun _ vi _ => names.length - (intOf vi).toNat)
  case atStart => exact ⟨0, Nat.zero_le _, rfl, Kd.R_nil _ _ _ _ _, Below.refl _ _⟩
  case round =>
    obtain ⟨k, hk, rfl, hvo, hbr⟩ := hrel
    have HBR := Aside0.mk hbr
    have hlen : ((names.take k).map (pent nodes n)).length ≤ k := by rw [List.length_map, List.length_take]; omega
    by_cases hkn : k < names.length
    · have dk : decide ((k : Int) < (names.length : Int)) = true := by simp; omega
      obtain ⟨ad, ead, hq⟩ := Kd.at_string (Kd.C_below HN.out hbr) (k : Int) (by omega) (by omega)
      rw [rdS hkn, Int.toNat_natCast] at hq
      subst ead
      have hmore : Aside0 ((names.take (k + 1)).map (pent nodes n) = (names.take k).map (pent nodes n) ++ [pent nodes n names[k]]) := ⟨by rw [List.take_succ_eq_append_getElem hkn, List.map_append]; rfl⟩
      have hpl := Aside0.mk (h15.out names[k] wr (List.getElem_mem hkn) hbr)
      generalize names[k] = s at *
      have HVO := Aside0.mk hvo
      clear hvo hbr
      go_wp2_with fail
      refine hpl.out.mono ?_
      rintro e w2 ⟨v, rfl, hv, hb2⟩
      obtain ⟨A2, c2, e2⟩ := Kd.R_slice hv
      rw [e2] at hv ⊢
      have HB2 := Aside0.mk hb2
      have hwr := HBR.out.size
      have HW := Aside0.mk hwr
      have hne : Aside0 (∀ j, wr.heap.size ≤ j → True ∧ some j ≠ (u7 : Value).ownBlock) := ⟨fun j hj => ⟨trivial, fun e => by have := (Kd.R_bound HVO.out).1 j e.symm; omega⟩⟩
      have hv2 : Kd.R KI 3 w2 w.heap.size (fun j => wr.heap.size ≤ j) (.slice A2 (intsOf (placeF s nodes n)).length c2) (intsOf (placeF s nodes n)) := Kd.R_lower (Kd.R_mono (Kd.R_bound hv) (fun j hj => hj.2.1)) HW.out
      have HV2 := Aside0.mk hv2
      have hbb := Aside0.mk (below_step HBR.out hb2)
      clear hv hv2 hb2 hwr e2
      generalize hm2 : (intsOf (placeF s nodes n)).length = m2 at *
      have HM2 := Aside0.mk hm2
      clear hm2
      have hmk : Aside0 (k26.M w2 w.heap.size (fun j => wr.heap.size ≤ j) (pent nodes n s) [.string s, .slice A2 m2 c2]) := ⟨k26_mkM _ _ _ (pent nodes n s) HV2.out⟩
      go_wp2_with (at_builtin; refine Kd.R_append k26 (w0 := w) w.heap.size rfl (.tmp 16) (.tmp 21) 22 26 (.agg #[(.string ⟨#[]⟩), (.slice none 0 0)]) 40 rfl Tryd.underlying22 info26 rfl (by decide) (by omega) u7 ((names.take k).map (pent nodes n)) (pent nodes n s) [.string s, .slice A2 m2 c2] (fun _ => True) (fun j => wr.heap.size ≤ j) rfl rfl hmk.out hne.out (fun _ _ => trivial) (Kd.R_below HVO.out HB2.out) hbb.out hbb.out.size (by omega) ?_; intro v1 w3 ho hb3 hg3 _)
      go_roundw
      case rel =>
        refine ⟨k + 1, by omega, by go_num, ?_, hb3⟩
        rw [hmore.out]
        exact ho
      case measure => simp [intOf]; omega
    · have dk : decide ((k : Int) < (names.length : Int)) = false := by simp; omega
      rw [List.take_of_length_le (by omega)] at hvo
      have HVO := Aside0.mk hvo
      clear hvo hbr
      go_wp2
      go_ret
      exact ⟨_, rfl, HVO.out, HBR.out⟩

set_option maxRecDepth 100000 in
set_option maxHeartbeats 800000 in
theorem moves_calls (names : List ByteArray) (hnm : ∀ s ∈ names, s.size ≤ 1073741000) (hnl : names.length < 1073741824) (N : Option Addr) (cn : Nat) (old next : List Int) (A B : Option Addr) (c d : Nat) (n : Int) (w : World) (hN : Kd.C Kd.string w N names.length names) (hr : Kd.C KI w A old.length old) (hc : old.length ≤ c) (hn : old.length < 1073741824)
    (hr2 : Kd.C KI w B next.length next) (hc2 : next.length ≤ d) (hn2 : next.length < 1073741824) :
    Calls Tryd.prog 19 #[.slice N names.length cn, .slice A old.length c, .slice B next.length d, .int .i64 n] w (MovesPost w (movesF names old next n)) := by
  have HN := Aside0.mk hN
  have h1 : Aside0 (∀ (s : ByteArray) (W : World), s ∈ names → Below w.heap.size w W → Calls Tryd.prog 15 #[.string s, .slice A old.length c, .int .i64 n] W (PlacePost W s (placeF s old n))) := ⟨fun s W hs hW => place_calls s (hnm s hs) old A c n W (Kd.C_below hr hW) hc hn⟩
  have h2 : Aside0 (∀ (s : ByteArray) (W : World), s ∈ names → Below w.heap.size w W → Calls Tryd.prog 15 #[.string s, .slice B next.length d, .int .i64 n] W (PlacePost W s (placeF s next n))) := ⟨fun s W hs hW => place_calls s (hnm s hs) next B d n W (Kd.C_below hr2 hW) hc2 hn2⟩
  have hpf : Aside0 (movesF names old next n = names.filter (moved old next n)) := ⟨rfl⟩
  have hu26 := Tryd.underlying26
  clear hN hr hnm hc hn hr2 hc2 hn2
  unfold MovesPost
  rw [hpf.out]
  go_enter Tryd.func19, Tryd.ntmps19
  go_wp2
  go_loopw [9, 14] (fun vo vi wr => ∃ k : Nat, k ≤ names.length ∧ vi = .int .i64 k ∧ Kd.R Kd.string 9 wr w.heap.size (fun _ => True) vo ((names.take k).filter (moved old next n)) ∧ Below w.heap.size w wr) (fun _ vi _ => names.length - (intOf vi).toNat)
  case atStart => exact ⟨0, Nat.zero_le _, rfl, Kd.R_nil _ _ _ _ _, Below.refl _ _⟩
  case round =>
    obtain ⟨k, hk, rfl, hvo, hbr⟩ := hrel
    have HBR := Aside0.mk hbr
    have hlen : ((names.take k).filter (moved old next n)).length ≤ k := by
      refine Nat.le_trans (List.length_filter_le _ _) ?_
      rw [List.length_take]; omega
    by_cases hkn : k < names.length
    · have dk : decide ((k : Int) < (names.length : Int)) = true := by simp; omega
      obtain ⟨ad, ead, hq⟩ := Kd.at_string (Kd.C_below HN.out hbr) (k : Int) (by omega) (by omega)
      rw [rdS hkn, Int.toNat_natCast] at hq
      subst ead
      have hmore := take_more names hkn (moved old next n)
      have hpl := Aside0.mk (h1.out names[k] wr (List.getElem_mem hkn) hbr)
      have hpl2 : Aside0 (∀ W, Below w.heap.size w W → Calls Tryd.prog 15 #[.string names[k], .slice B next.length d, .int .i64 n] W (PlacePost W names[k] (placeF names[k] next n))) := ⟨fun W hW => h2.out names[k] W (List.getElem_mem hkn) hW⟩
      generalize names[k] = s at *
      have HM := Aside0.mk hmore
      have HVO := Aside0.mk hvo
      clear hvo hbr hmore
      go_wp2_with fail
      refine hpl.out.mono ?_
      rintro e w2 ⟨v, rfl, hv, hb2⟩
      obtain ⟨A2, c2, e2, hl2, hC2⟩ := Kd.R_reads hv
      rw [e2]
      have HB2 := Aside0.mk (below_step HBR.out hb2)
      have HB2' := Aside0.mk hb2
      have HC2 := Aside0.mk hC2
      have hf1 := run_field26 s (.slice A2 (intsOf (placeF s old n)).length c2)
      clear hv hb2 hC2 e2
      go_wp2_with fail
      refine (hpl2.out w2 HB2.out).mono ?_
      rintro e w3 ⟨v3, rfl, hv3, hb3⟩
      obtain ⟨A3, c3, e3, hl3, hC3⟩ := Kd.R_reads hv3
      rw [e3]
      have HB3 := Aside0.mk (below_step HB2.out hb3)
      have hf2 := run_field26 s (.slice A3 (intsOf (placeF s next n)).length c3)
      have hle := placeF_le s old n
      have h8 := Aside0.mk (equal_calls (intsOf (placeF s old n)) (intsOf (placeF s next n)) A2 A3 c2 c3 w3 (by rw [ints_length]; omega) (Kd.C_below HC2.out hb3) hl2 hC3 hl3)
      have HBB := Aside0.mk (below_step HB2'.out hb3)
      have hmv : Aside0 (moved old next n s = !decide (intsOf (placeF s old n) = intsOf (placeF s next n))) := ⟨rfl⟩
      clear hv3 hb3 hC3 e3 hle
      generalize hx : intsOf (placeF s old n) = x at *
      generalize hy : intsOf (placeF s next n) = y at *
      have HX := Aside0.mk hx
      have HY := Aside0.mk hy
      clear hx hy
      go_wp2_with fail
      refine h8.out.mono ?_
      rintro e w4 ⟨rfl, hg4⟩
      have HB4 := Aside0.mk (below_step HB3.out hg4.below)
      have HB5 := Aside0.mk (below_step HBB.out hg4.below)
      clear hg4 h8
      by_cases exy : x = y
      · rw [decide_eq_true exy] at hmv
        have HM2 : Aside0 ((names.take (k + 1)).filter (moved old next n) = (names.take k).filter (moved old next n)) := ⟨by rw [HM.out, hmv.out]; simp⟩
        rw [decide_eq_true exy]
        clear exy
        go_wp2
        go_roundw
        case rel =>
          refine ⟨k + 1, by omega, by go_num, ?_, HB4.out⟩
          rw [HM2.out]
          exact Kd.R_below HVO.out HB5.out
        case measure => simp [intOf]; omega
      · rw [decide_eq_false exy] at hmv
        have HM2 : Aside0 ((names.take (k + 1)).filter (moved old next n) = (names.take k).filter (moved old next n) ++ [s]) := ⟨by rw [HM.out, hmv.out]; rfl⟩
        rw [decide_eq_false exy]
        clear exy
        go_wp2_with (at_builtin; refine Kd.R_append Kd.string (w0 := w) w.heap.size rfl (.tmp 30) (.tmp 32) 30 9 (.string ⟨#[]⟩) 16 rfl Tryd.underlying30 info9 rfl (by decide) (by omega) u9 ((names.take k).filter (moved old next n)) s [.string s] (fun _ => True) (fun _ => False) rfl rfl rfl (fun _ hk => hk.elim) (fun _ _ => trivial) (Kd.R_below HVO.out HB5.out) HB4.out HB4.out.size (by omega) ?_; intro v1 w5 ho hb5 hg5 _)
        go_roundw
        case rel =>
          refine ⟨k + 1, by omega, by go_num, ?_, hb5⟩
          rw [HM2.out]
          exact ho
        case measure => simp [intOf]; omega
    · have dk : decide ((k : Int) < (names.length : Int)) = false := by simp; omega
      rw [List.take_of_length_le (by omega)] at hvo
      have HVO := Aside0.mk hvo
      clear hvo hbr
      go_wp2
      go_ret
      exact ⟨_, rfl, HVO.out, HBR.out⟩
end Go.Proofs.YtiiokhoonailaaaDoor.D
