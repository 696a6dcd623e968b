/- The reference's Rank and Place. Conditions: as each theorem says. -/
import Derived.Test.YtiiokhoonailaaaDoorC6
import Derived.Test.YtiiokhoonailaaaDoorC7
namespace Go.Proofs.YtiiokhoonailaaaDoor.D
open Go.RowKit Go.Sort Go.Proofs.YtiiokhoonailaaaDoorW.PrintWords Go.Proofs.YtiiokhoonailaaaDoorW.PrintLast Go.Proofs.YtiiokhoonailaaaDoorW.PrintMore
open Go.Proofs.YtiiokhoonailaaaDoor.R

theorem while_at {α : Type} (p : α → Bool) : ∀ (L : List α) (j : Nat), j ≤ L.length → (∀ i (h : i < L.length), i < j → p L[i] = true) → (∀ h : j < L.length, p L[j] = false) → L.takeWhile p = L.take j ∧ L.dropWhile p = L.drop j
  | [], j, hj, _, _ => by
    obtain rfl : j = 0 := by simpa using hj
    exact ⟨rfl, rfl⟩
  | y :: r, 0, _, _, h2 => by
    have := h2 (by simp)
    simp only [List.getElem_cons_zero] at this
    rw [List.takeWhile_cons_of_neg (by rw [this]; decide), List.dropWhile_cons_of_neg (by rw [this]; decide)]
    exact ⟨rfl, rfl⟩
  | y :: r, j + 1, hj, h1, h2 => by
    have hy := h1 0 (by simp) (by omega)
    simp only [List.getElem_cons_zero] at hy
    obtain ⟨i1, i2⟩ := while_at p r j (by simpa using hj) (fun i h hij => by
      have := h1 (i + 1) (by simpa using h) (by omega)
      simpa using this) (fun h => by
      have := h2 (by simpa using h)
      simpa using this)
    rw [List.takeWhile_cons_of_pos hy, List.dropWhile_cons_of_pos hy, i1, i2]
    exact ⟨rfl, rfl⟩
theorem ins_at (sc : Fin 7 → Nat) (x : Fin 7) (L : List (Fin 7)) (j : Nat) (hj : j ≤ L.length) (h1 : ∀ i (h : i < L.length), i < j → sc x ≤ sc L[i]) (h2 : ∀ h : j < L.length, ¬ sc x ≤ sc L[j]) : insAt (intsOf L) j ((x.val : Nat) : Int) = intsOf (insF sc x L) := by
  obtain ⟨e1, e2⟩ := while_at (fun y => decide (sc x ≤ sc y)) L j hj (fun i h hij => decide_eq_true (h1 i h hij)) (fun h => decide_eq_false (h2 h))
  unfold insF
  rw [e1, e2]
  unfold insAt intsOf
  rw [List.map_append, List.map_cons, List.map_take, List.map_drop]

set_option maxRecDepth 100000 in
set_option maxHeartbeats 1000000 in
theorem rrank_calls (s : ByteArray) (hs : s.size ≤ 1073741000) (nodes : List Int) (A : Option Addr) (c : Nat) (w : World) (hr : Kd.C KI w A nodes.length nodes) (hc : nodes.length ≤ c) (hn : nodes.length < 1073741824) :
    Calls Tryd.prog 20 #[.string s, .slice A nodes.length c] w (RankPost w (rankF s nodes)) := by
  have HR := Aside0.mk hr
  have hsc : Aside0 (∀ (i : Nat) (W : World), i < 7 → Calls Tryd.prog 31 #[.string s, .int .i64 (i : Int)] W fun e w' => e = .returned (.int .i64 ((scN s i : Nat) : Int)) ∧ Grn W w') := ⟨fun i W hi => rscore_calls s i hi hs W⟩
  have hrf : Aside0 (rankG (fun i : Fin 7 => scN s i.val) (present nodes) = rankF s nodes) := ⟨rfl⟩
  clear hr hs
  go_enter Tryd.func20, Tryd.ntmps20
  go_wp2
  go_loopw [5, 8] (fun vo vi wr => ∃ k : Nat, k ≤ 7 ∧ vi = .int .i64 k ∧ Kd.R KI 3 wr w.heap.size (fun _ => True) vo (intsOf (rankG (fun i : Fin 7 => scN s i.val) (presentK nodes k))) ∧ Below w.heap.size w wr) (fun _ vi _ => 7 - (intOf vi).toNat)
  case atStart => exact ⟨0, Nat.zero_le _, rfl, Kd.R_nil _ _ _ _ _, Below.refl _ _⟩
  case round =>
    obtain ⟨k, hk, rfl, hvo, hbr⟩ := hrel
    have HBR := Aside0.mk hbr
    by_cases hk7 : k < 7
    · have dk : decide ((k : Int) < 7) = true := by simp; omega
      have hmore := present_more nodes hk7
      have hcc : Aside0 (Calls Tryd.prog 17 #[.slice A nodes.length c, .int .i64 (k : Int)] wr fun e w' => e = .returned (.bool (decide ((k : Int) ∈ nodes))) ∧ Grn wr w') := ⟨contains_calls nodes A c k wr (Kd.C_below HR.out hbr) hc hn⟩
      have hL7 : (presentK nodes k).length ≤ 7 := present_le nodes k
      rw [← rank_length (fun i : Fin 7 => scN s i.val)] at hL7
      have hsn := fun h => rank_snoc (fun i : Fin 7 => scN s i.val) (presentK nodes k) ⟨k, h⟩
      have HSN := Aside0.mk (hsn hk7)
      clear hk hsn
      by_cases e : ((k : Nat) : Int) ∈ nodes
      · rw [if_pos e] at hmore
        rw [decide_eq_true e] at hcc
        have HM := Aside0.mk hmore
        obtain ⟨Ao, co, ho⟩ := Kd.R_slice hvo
        rw [ints_length] at ho
        generalize rankG (fun i : Fin 7 => scN s i.val) (presentK nodes k) = L at *
        have HVO := Aside0.mk hvo
        clear e hmore hbr hvo
        subst ho
        go_wp2_with fail
        refine hcc.out.mono ?_
        rintro e w2 ⟨rfl, hg2⟩
        have HB2 := Aside0.mk (below_step HBR.out hg2.below)
        have HV2 := Aside0.mk (Kd.R_below HVO.out hg2.below)
        clear hg2 hcc
        go_wp2
        have hws := HBR.out.size
        have HWS := Aside0.mk hws
        clear hws
        obtain ⟨wo, rfl⟩ : ∃ wo : World, wo = wr := ⟨_, rfl⟩
        have hL71 : L.length < 1073741824 := by omega
        go_loopw [7] (fun vi wi => ∃ j : Nat, j ≤ L.length ∧ vi = .int .i64 j ∧ Kd.R KI 3 wi w.heap.size (fun _ => True) (.slice Ao L.length co) (intsOf L) ∧ Below w.heap.size w wi ∧ Hid (∀ i (h : i < L.length), i < j → scN s k ≤ scN s (L[i]).val)) (fun vi _ => L.length - (intOf vi).toNat)
        case atStart => exact ⟨0, Nat.zero_le _, rfl, HV2.out, HB2.out, fun i _ h => absurd h (by omega)⟩
        case round =>
          obtain ⟨j, hj, rfl, hvj, hbj, hall⟩ := hrel
          have HBJ := Aside0.mk hbj
          have HVJ := Aside0.mk hvj
          have hfin : (∀ h : j < L.length, ¬ scN s k ≤ scN s (L[j]).val) → Aside0 (∀ W, Kd.R KI 3 W w.heap.size (fun _ => True) (.slice Ao L.length co) (intsOf L) → Below w.heap.size w W → Calls Tryd.prog 32 #[.slice Ao L.length co, .int .i64 (j : Int), .slice (some ⟨W.heap.size, 0, none⟩) 1 1] (W.alloc (.cells #[.int .i64 (k : Int)] 3)) (InsPost w (W.alloc (.cells #[.int .i64 (k : Int)] 3)) w.heap.size (intsOf (insF (fun i : Fin 7 => scN s i.val) ⟨k, hk7⟩ L)))) := fun hno => ⟨fun W hv hb => by
            have h := insert_calls (A := Ao) (cap := co) (xs := intsOf L) (by rw [ints_length]; exact hv) hb hb.size j (by rw [ints_length]; exact hj) (by rw [ints_length]; exact hL71) (k : Int)
            rw [ints_length] at h
            rw [← ins_at (fun i : Fin 7 => scN s i.val) ⟨k, hk7⟩ L j hj (fun i h hij => hall.out i h hij) hno]
            exact h⟩
          have HALL := Aside0.mk hall
          clear hbj hvj hall
          by_cases hjl : j < L.length
          · have djl : decide ((j : Int) < (L.length : Int)) = true := by simp; omega
            obtain ⟨A', c', e', _, hC⟩ := Kd.R_reads HVJ.out
            rw [ints_length] at e'
            cases e'
            obtain ⟨ad, ead, hq⟩ := Kd.at_int hC (j : Int) (by omega) (by rw [ints_length]; omega)
            have hrd : YtiiokhoonailaaaDoorW.PrintWords.rd (intsOf L) (j : Int) = ((L[j].val : Nat) : Int) := by
              rw [rdI (by rw [ints_length]; exact hjl)]
              simp [intsOf]
            rw [hrd, Int.toNat_natCast] at hq
            subst ead
            have hs1 := fun W => hsc.out L[j].val W L[j].isLt
            have hs2 := fun W => hsc.out k W hk7
            have HNO := Aside0.mk (fun h : ¬ scN s k ≤ scN s (L[j]).val => hfin (fun _ => h))
            have HYES : Aside0 (scN s k ≤ scN s (L[j]).val → ∀ i (h : i < L.length), i < j + 1 → scN s k ≤ scN s (L[i]).val) := ⟨fun h i hi hij => by
              by_cases e : i = j
              · subst e; exact h
              · exact HALL.out i hi (by omega)⟩
            have hb1 := scN_lt s L[j].val
            have hb2 := scN_lt s k
            generalize L[j].val = lj at *
            generalize hqq : scN s k = q at *
            generalize scN s lj = p at *
            have HS1 := Aside0.mk hs1
            have HS2 := Aside0.mk hs2
            clear hs1 hs2 hfin hC hrd HALL hqq
            by_cases hle : q ≤ p
            · have hall2 := HYES.out hle
              have HA2 := Aside0.mk hall2
              have dle : decide ((q : Int) ≤ (p : Int)) = true := by simp; omega
              clear hall2 HYES HNO
              go_wp2_with fail
              refine (HS1.out _).mono ?_
              rintro e wa ⟨rfl, ga⟩
              have GA := Aside0.mk ga
              clear ga
              go_wp2_with fail
              refine (HS2.out _).mono ?_
              rintro e wb ⟨rfl, gb⟩
              have GB := Aside0.mk (GA.out.then_ gb)
              clear gb
              go_wp2
              go_roundw
              case rel => exact ⟨j + 1, by omega, by go_num, Kd.R_below HVJ.out GB.out.below, below_step HBJ.out GB.out.below, HA2.out⟩
              case measure => simp [intOf]; omega
            · have hins := HNO.out hle
              have dle : decide ((q : Int) ≤ (p : Int)) = false := by simp; omega
              clear HYES HNO
              go_wp2_with fail
              refine (HS1.out _).mono ?_
              rintro e wa ⟨rfl, ga⟩
              have GA := Aside0.mk ga
              clear ga
              go_wp2_with fail
              refine (HS2.out _).mono ?_
              rintro e wb ⟨rfl, gb⟩
              have GB := Aside0.mk (GA.out.then_ gb)
              clear gb
              have hcall := Aside0.mk (hins.out wb (Kd.R_below HVJ.out GB.out.below) (below_step HBJ.out GB.out.below))
              clear hins
              go_wp2_with fail
              refine hcall.out.mono ?_
              rintro e wc ⟨v, rfl, hI⟩
              have HI := Aside0.mk hI
              clear hI hcall
              go_wp2
              go_roundw
              case rel =>
                refine ⟨k + 1, by omega, by go_num, ?_, HI.out.below⟩
                rw [HM.out, HSN.out]
                exact HI.out.row
              case measure => simp [intOf]; omega
          · have djl : decide ((j : Int) < (L.length : Int)) = false := by simp; omega
            have hins := hfin (fun h => absurd h hjl)
            have hcall : ∀ W, W = wr → Calls Tryd.prog 32 #[.slice Ao L.length co, .int .i64 (j : Int), .slice (some ⟨W.heap.size, 0, none⟩) 1 1] (W.alloc (.cells #[.int .i64 (k : Int)] 3)) (InsPost w (W.alloc (.cells #[.int .i64 (k : Int)] 3)) w.heap.size (intsOf (insF (fun i : Fin 7 => scN s i.val) ⟨k, hk7⟩ L))) := fun W e => by subst e; exact hins.out _ HVJ.out HBJ.out
            have HC := Aside0.mk (hcall _ rfl)
            clear hfin hins hcall HALL
            go_wp2_with fail
            refine HC.out.mono ?_
            rintro e wc ⟨v, rfl, hI⟩
            have HI := Aside0.mk hI
            clear hI HC
            go_wp2
            go_roundw
            case rel =>
              refine ⟨k + 1, by omega, by go_num, ?_, HI.out.below⟩
              rw [HM.out, HSN.out]
              exact HI.out.row
            case measure => simp [intOf]; omega
      · rw [if_neg e, List.append_nil] at hmore
        rw [decide_eq_false e] at hcc
        have HM := Aside0.mk hmore
        have HVO := Aside0.mk hvo
        clear e hmore hbr hvo HSN hL7
        go_wp2_with fail
        refine hcc.out.mono ?_
        rintro e w2 ⟨rfl, hg2⟩
        have HG2 := Aside0.mk hg2
        clear hg2 hcc
        go_wp2
        go_roundw
        case rel =>
          refine ⟨k + 1, by omega, by go_num, ?_, below_step HBR.out HG2.out.below⟩
          rw [HM.out]
          exact Kd.R_below HVO.out HG2.out.below
        case measure => simp [intOf]; omega
    · have dk : decide ((k : Int) < 7) = false := by simp; omega
      obtain rfl : k = 7 := by omega
      rw [present_all, hrf.out] at hvo
      have HVO := Aside0.mk hvo
      clear hvo hbr hk
      go_wp2
      go_ret
      exact ⟨_, rfl, HVO.out, HBR.out⟩

set_option maxRecDepth 100000 in
set_option maxHeartbeats 400000 in
theorem rplace_calls (s : ByteArray) (hs : s.size ≤ 1073741000) (nodes : List Int) (A : Option Addr) (c : Nat) (n : Int) (w : World) (hr : Kd.C KI w A nodes.length nodes) (hc : nodes.length ≤ c) (hn : nodes.length < 1073741824) :
    Calls Tryd.prog 22 #[.string s, .slice A nodes.length c, .int .i64 n] w (PlacePost w s (placeF s nodes n)) := by
  have hu26 := Tryd.underlying26
  have hb0 := below_alloc (Below.refl _ w) (.cells #[.string ⟨#[]⟩, .slice none 0 0] 26)
  have hx0 := heap_alloc_new w (.cells #[.string ⟨#[]⟩, .slice none 0 0] 26)
  have h16 := rrank_calls s hs nodes A c _ (Kd.C_below hr hb0) hc hn
  have hle := rankF_le s nodes
  have hpf : Aside0 ((rankF s nodes).take n.toNat = placeF s nodes n) := ⟨rfl⟩
  have HX0 := Aside0.mk hx0
  have HB0 := Aside0.mk hb0
  clear hr hx0 hb0
  go_enter Tryd.func22, Tryd.ntmps22
  go_wp2_with fail
  refine h16.mono ?_
  rintro e w1 ⟨v, rfl, hv, hb1⟩
  have HX1 := Aside0.mk ((hb1.block _ (blk_lt HX0.out)).trans HX0.out)
  have HB1 := Aside0.mk (below_step HB0.out hb1)
  obtain ⟨A1, c1, hv1, hlc, hC1⟩ := Kd.R_reads hv
  obtain ⟨M, hM⟩ : ∃ M, M = min n.toNat (rankF s nodes).length := ⟨_, rfl⟩
  have htk : (intsOf (rankF s nodes)).take M = intsOf (placeF s nodes n) := by
    rw [ints_take, ← hpf.out, hM]
    congr 1
    rw [List.take_eq_take_iff]
    omega
  rw [hv1] at hv
  have hvt := Kd.R_take (m := M) hv (by rw [ints_length]; omega)
  rw [htk] at hvt
  rw [ints_length] at hv1 hlc
  have hval : min (max n 0) ((rankF s nodes).length : Int) = (M : Int) := by omega
  have hMc : M ≤ c1 := by omega
  have hf0 := blk_frozen HX1.out 0
  have hf1 := blk_frozen HX1.out 1
  have hq0 := blk_cell HX1.out 0
  have hq1 := blk_cell HX1.out 1
  have HVT := Aside0.mk hvt
  rw [hv1]
  clear hv hv1 htk hC1 hM h16 hle hs hvt
  generalize (rankF s nodes).length = m at *
  go_wp2
  refine bodyPost_ret (results_cell_row rfl _ _ w.heap.size 26 #[.string s, .slice A1 M c1] (0, 0) _ rfl (by refine blk_put (cs := #[.string s, .slice none 0 0]) (blk_put (cs := #[.string ⟨#[]⟩, .slice none 0 0]) HX1.out 0 _ rfl) 1 _ rfl) Tryd.underlying26 rfl (by kernel_rfl)) rfl ?_
  refine ⟨_, rfl, ?_, ?_⟩
  · refine Kd.R_lower (Kd.R_set (Kd.R_set HVT.out HX1.out (by decide) 0 _) (blk_set HX1.out 0 _) (by decide) 1 _) HB0.out.size
  · exact (HB1.out.setCell (Nat.le_refl _) _).setCell (Nat.le_refl _) _
end Go.Proofs.YtiiokhoonailaaaDoor.D
