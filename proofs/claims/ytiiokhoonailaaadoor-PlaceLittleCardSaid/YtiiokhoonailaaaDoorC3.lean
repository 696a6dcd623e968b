/- Rank. Conditions: a name below 2^30 bytes; the nodes lie in memory. -/
import Derived.Test.YtiiokhoonailaaaDoorC2
namespace Go.Proofs.YtiiokhoonailaaaDoor.D
open Go.RowKit Go.Sort Go.Proofs.YtiiokhoonailaaaDoorW.PrintWords Go.Proofs.YtiiokhoonailaaaDoorW.PrintLast Go.Proofs.YtiiokhoonailaaaDoorW.PrintMore
open Go.Proofs.YtiiokhoonailaaaDoor.R

theorem info3 : (Tryd.prog.info? 3).map (fun i => (i.zero, i.size, i.bytes)) = some (some (.int .i64 0), 1, 8) := by kernel_rfl
/-- The nodes 0 to 6 that are in a list, in ascending order: of the first k. -/
def presentK (nodes : List Int) (k : Nat) : List (Fin 7) := ((List.finRange 7).take k).filter fun i => decide (((i.val : Nat) : Int) ∈ nodes)
def present (nodes : List Int) : List (Fin 7) := (List.finRange 7).filter fun i => decide (((i.val : Nat) : Int) ∈ nodes)
/-- The ranking. -/
def rankF (s : ByteArray) (nodes : List Int) : List (Fin 7) := rankG (fun i : Fin 7 => scN s i.val) (present nodes)
theorem present_all (nodes : List Int) : presentK nodes 7 = present nodes := rfl
theorem present_le (nodes : List Int) (k : Nat) : (presentK nodes k).length ≤ 7 := by
  unfold presentK
  refine Nat.le_trans (List.length_filter_le _ _) ?_
  rw [List.length_take]
  simp
  omega
theorem present_more (nodes : List Int) {k : Nat} (h : k < 7) : presentK nodes (k + 1) = presentK nodes k ++ (if ((k : Nat) : Int) ∈ nodes then [⟨k, h⟩] else []) := by
  unfold presentK
  rw [List.take_succ_eq_append_getElem (by simpa using h), List.filter_append]
  congr 1
  by_cases e : ((k : Nat) : Int) ∈ nodes
  · rw [if_pos e]; simp [e]
  · rw [if_neg e]; simp [e]
theorem ints_more (L : List (Fin 7)) {k : Nat} (h : k < 7) : intsOf (L ++ [⟨k, h⟩]) = intsOf L ++ [(k : Int)] := by
  unfold intsOf
  rw [List.map_append]
  rfl
theorem rankF_le (s : ByteArray) (nodes : List Int) : (rankF s nodes).length ≤ 7 := by
  unfold rankF
  rw [rank_length, ← present_all]
  exact present_le _ _

theorem contains_calls (l : List Int) (A : Option Addr) (c : Nat) (x : Int) (w : World) (hr : Kd.C KI w A l.length l) (hc : l.length ≤ c) (hl : l.length < 1073741824) : Calls Tryd.prog 17 #[.slice A l.length c, .int .i64 x] w fun e w' => e = .returned (.bool (decide (x ∈ l))) ∧ Grn w w' := by
  exact (slices_Contains_int_int.calls (l.length + 1) A c l x _ w hr hc (contains_f l x (by omega) (Nat.lt_succ_self _))).mono fun _ _ ⟨h1, h2⟩ => ⟨h1, Grn.drawn0 h2⟩

def RankPost (w : World) (L : List (Fin 7)) (e : Ending) (w' : World) : Prop := ∃ v, e = .returned v ∧ Kd.R KI 3 w' w.heap.size (fun _ => True) v (intsOf L) ∧ Below w.heap.size w w'
set_option maxRecDepth 100000 in
set_option maxHeartbeats 400000 in
theorem rank_calls (s : ByteArray) (hs : s.size ≤ 1073741000) (nodes : List Int) (A : Option Addr) (c : Nat) (w : World) (hr : Kd.C KI w A nodes.length nodes) (hc : nodes.length ≤ c) (hn : nodes.length < 1073741824) :
    Calls Tryd.prog 16 #[.string s, .slice A nodes.length c] w (RankPost w (rankF s nodes)) := by
  have HR := Aside0.mk hr
  clear hr
  go_enter Tryd.func16, Tryd.ntmps16
  go_wp2
  have hbx := heap_alloc_new w (.cells #[.string s] 9)
  have hb1 := below_alloc (Below.refl _ w) (.cells #[.string s] 9)
  have hbs := hb1.size
  have hbl : w.heap.size < (w.alloc (.cells #[.string s] 9)).heap.size := by simp
  generalize w.alloc (.cells #[.string s] 9) = w1 at *
  have HBX := Aside0.mk hbx
  have HB1 := Aside0.mk hb1
  have HBL := Aside0.mk hbl
  have HBS := Aside0.mk hbs
  clear hbx hb1 hbl hbs
  go_loopw [5, 7] (fun vo vi wr => ∃ k : Nat, k ≤ 7 ∧ vi = .int .i64 k ∧ Kd.R KI 3 wr w1.heap.size (fun _ => True) vo (intsOf (presentK nodes k)) ∧ Below w1.heap.size w1 wr) (fun _ vi _ => 7 - (intOf vi).toNat)
  case atStart => exact ⟨0, Nat.zero_le _, rfl, Kd.R_nil _ _ _ _ _, Below.refl _ _⟩
  case round =>
    obtain ⟨k, hk, rfl, hvo, hbr⟩ := hrel
    have HBR := Aside0.mk hbr
    have hlen := present_le nodes k
    rw [← ints_length] at hlen
    by_cases hk7 : k < 7
    · have dk : decide ((k : Int) < 7) = true := by simp; omega
      have hmore := present_more nodes hk7
      have hcc : Aside0 (Calls Tryd.prog 17 #[.slice A nodes.length c, .int .i64 (k : Int)] wr fun e w' => e = .returned (.bool (decide ((k : Int) ∈ nodes))) ∧ Grn wr w') := ⟨contains_calls nodes A c k wr (Kd.C_below HR.out (below_step HB1.out hbr)) hc hn⟩
      have hml := Aside0.mk hmore
      have hil := fun L => ints_more L hk7
      have HIL := Aside0.mk hil
      clear hmore hil
      have hmore := hml.out
      clear hml
      clear hk
      by_cases e : ((k : Nat) : Int) ∈ nodes
      · have HE := Aside0.mk e
        rw [if_pos e] at hmore
        rw [decide_eq_true e] at hcc
        have HM := Aside0.mk hmore
        clear e hmore hbr
        go_wp2_with fail
        refine hcc.out.mono ?_
        rintro e w2 ⟨rfl, hg2⟩
        have HG2 := Aside0.mk hg2
        clear hg2 hcc
        go_wp2_with (at_builtin; refine Kd.R_append KI (w0 := w1) w1.heap.size rfl (.tmp 13) (.tmp 15) 23 3 (.int .i64 0) 8 rfl Tryd.underlying23 info3 rfl (by decide) (by omega) u5 (intsOf (presentK nodes k)) (k : Int) [.int .i64 (k : Int)] (fun _ => True) (fun _ => False) rfl rfl rfl (fun _ hk => hk.elim) (fun _ _ => trivial) (Kd.R_below hvo HG2.out.below) (below_step HBR.out HG2.out.below) (below_step HBR.out HG2.out.below).size (by omega) ?_; intro v1 w3 ho hb3 hg3 _)
        go_roundw
        case rel =>
          refine ⟨k + 1, ?_, by go_num, ?_, hb3⟩
          · omega
          · rw [HM.out, HIL.out]
            exact ho
        case measure => simp [intOf]; omega
      · have HE := Aside0.mk e
        rw [if_neg e, List.append_nil] at hmore
        rw [decide_eq_false e] at hcc
        have HM := Aside0.mk hmore
        clear e hmore hbr
        go_wp2_with fail
        refine hcc.out.mono ?_
        rintro e w2 ⟨rfl, hg2⟩
        have HG2 := Aside0.mk hg2
        clear hg2 hcc
        go_wp2
        go_roundw
        case rel =>
          refine ⟨k + 1, ?_, by go_num, ?_, below_step HBR.out HG2.out.below⟩
          · omega
          · rw [HM.out]
            exact Kd.R_below hvo HG2.out.below
        case measure => simp [intOf]; omega
    · have dk : decide ((k : Int) < 7) = false := by simp; omega
      obtain rfl : k = 7 := by omega
      rw [present_all] at hvo hlen
      rw [ints_length] at hlen
      obtain ⟨Ao, co, ho⟩ := Kd.R_slice hvo
      rw [ints_length] at ho
      rw [ho] at hvo ⊢
      clear ho hbr hk
      have h28 := Aside0.mk (stable_calls s hs hlen hvo ((HBR.out.block _ HBL.out).trans HBX.out))
      have hg := Aside0.mk (fun k hk => Kd.R_base hvo k hk)
      have hrf : Aside0 (rankG (fun i : Fin 7 => scN s i.val) (present nodes) = rankF s nodes) := ⟨rfl⟩
      clear hvo hs hlen
      generalize rankG (fun i : Fin 7 => scN s i.val) (present nodes) = M at *
      generalize (present nodes).length = m at *
      go_wp2_with fail
      refine h28.out.mono ?_
      rintro e w4 ⟨rfl, hp⟩
      have HP := Aside0.mk hp
      clear hp h28
      go_wp2
      go_ret
      refine ⟨_, rfl, ?_, ?_⟩
      · rw [← hrf.out]
        exact Kd.R_lower HP.out.row HBS.out
      · exact (below_step HB1.out HBR.out).grown HP.out.grown (Nat.le_trans HBS.out HBR.out.size) (fun k hk => Nat.le_trans HBS.out (hg.out k hk))
end Go.Proofs.YtiiokhoonailaaaDoor.D
