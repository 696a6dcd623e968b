/- The reference's Rename. Conditions: as the theorem says. -/
import Derived.Test.YtahifafnfjcfpaaE2
import Derived.Deep.RegionWith
namespace Go.Proofs.Ytahifafnfjcfpaa.D
open Go.RowKit Go.Maps Go.Sort Go.Proofs.YtahifafnfjcfpaaW.PrintWords Go.Proofs.YtahifafnfjcfpaaW.PrintLast Go.Proofs.YtahifafnfjcfpaaW.PrintMore
open Go.Proofs.Ytahifafnfjcfpaa.R (S61 k61 k61_mkM k61_open k61_mk at_T61 rd_T61 info61 brokerref36_Without.calls brokerref36_At.calls brokerref01_Name.calls)

def refRename (T : List S61) (a b : ByteArray) : List S61 × Int := match find T (key a) with
  | none => (T, 8)
  | some f => if nameB b = true then (refWith (del (key a) T) ⟨b, f.f1, f.f2⟩, 0) else (T, 11)

set_option maxRecDepth 100000 in
set_option maxHeartbeats 400000 in
theorem rename_ref (T : List S61) (A : Option Addr) (c : Nat) (s t : ByteArray) (w : World) (S : Nat → Prop) (hr : Kd.C k61 w A T.length T) (hc : T.length ≤ c) (hA : ∀ ad, A = some ad → 0 < T.length → ¬ S ad.block) (hS : ∀ k, S k → k < w.heap.size) (hT : Fit T) (ht : t.size < 1073741824) :
    Calls Try.prog 26 #[.agg #[.slice A T.length c], .string s, .string t] w (RefPost w S (refRename T s t)) := by
  have hu39 := Try.underlying39
  have hu61 := Try.underlying61
  have HR := Aside0.mk hr
  have HA := Aside0.mk hA
  clear hr hA
  go_enter Try.func26, Try.ntmps26
  go_wp2_with fail
  obtain ⟨x3, x6, hb0⟩ := boxes2 w (.cells #[.slice A T.length c] 39) (.cells #[.slice none 0 0] 39)
  refine (at_ref T A c s _ (Kd.C_below HR.out hb0) hc hT.len).mono ?_
  rintro e w2 ⟨rfl, hb4⟩
  replace x3 := (hb4.block w.heap.size (by simp only [World.size_alloc]; omega)).trans x3
  replace x6 := (hb4.block (w.heap.size + 1) (by simp only [World.size_alloc]; omega)).trans x6
  have hb5 := below_step hb0 hb4
  have hg6 : w.heap.size ≤ w.heap.size + 1 := by omega
  clear hb4 hb0
  generalize w.heap.size + 1 = g6 at *
  rcases at_case T s with ⟨hi, hfd⟩ | ⟨i, hi, hia, hfd, hks⟩
  · rw [hi]
    have hv : Aside0 (refRename T s t = (T, 8)) := ⟨by unfold refRename; rw [hfd]⟩
    have hc3 := blk_cell x3 0
    have hc6 := blk_cell x6 0
    have hf6 := blk_frozen x6 0
    have X6 := Aside0.mk x6
    clear x3 x6
    go_wp2
    refine bodyPost_ret (results_ct rfl _ _ g6 39 #[.slice A T.length c] (0, 0) _ rfl (by refine blk_put (cs := #[.slice none 0 0]) ?_ 0 _ rfl; exact X6.out) Try.underlying39 rfl (by kernel_rfl)) rfl ?_
    unfold RefPost
    rw [hv.out]
    exact ⟨_, rfl, ref_end hb5 hg6 (sv_old HR.out hc HA.out hb5 hg6)⟩
  · rw [hia]
    have hd0 : decide ((i : Int) < 0) = false := by simp
    go_wp2_with fail
    refine (name_ref t ht w2).mono ?_
    rintro e w3 ⟨rfl, hb6⟩
    replace x3 := (hb6.block w.heap.size (blk_lt x3)).trans x3
    replace x6 := (hb6.block g6 (blk_lt x6)).trans x6
    replace hb5 := below_step hb5 hb6
    clear hb6
    have hc3 := blk_cell x3 0
    have hc6 := blk_cell x6 0
    have hf6 := blk_frozen x6 0
    cases hn : nameB t with
    | false =>
      have hv : Aside0 (refRename T s t = (T, 11)) := ⟨by unfold refRename; rw [hfd, hn]; rfl⟩
      have X6 := Aside0.mk x6
      clear x3 x6
      go_wp2
      refine bodyPost_ret (results_ct rfl _ _ g6 39 #[.slice A T.length c] (0, 0) _ rfl (by refine blk_put (cs := #[.slice none 0 0]) ?_ 0 _ rfl; exact X6.out) Try.underlying39 rfl (by kernel_rfl)) rfl ?_
      unfold RefPost
      rw [hv.out]
      exact ⟨_, rfl, ref_end hb5 hg6 (sv_old HR.out hc HA.out hb5 hg6)⟩
    | true =>
      obtain ⟨ad, ead, hq0, hq1, hq2⟩ := at_T61 (Kd.C_below HR.out hb5) (i : Int) (by omega) (by omega)
      rw [rd61 hi, Int.toNat_natCast] at hq0 hq1 hq2
      subst ead
      generalize hfe : T[i] = f at *
      have hil : i < 1073741824 := Nat.lt_trans hi hT.len
      have hil2 : (i : Int) < (T.length : Int) := by omega
      have hv : Aside0 (refRename T s t = (refWith (del (key s) T) ⟨t, f.f1, f.f2⟩, 0)) := ⟨by unfold refRename; rw [hfd]; exact if_pos hn⟩
      have hgl3 := blk_lt x3
      have hgl6 := blk_lt x6
      have X3 := Aside0.mk x3
      have X6 := Aside0.mk x6
      clear x3 x6
      go_wp2_with fail
      have x9 := heap_alloc_new w3 (.cells #[.string t, .string f.f1, .int .i64 f.f2] 61)
      have x3 := (Below.heap_alloc w3 (.cells #[.string t, .string f.f1, .int .i64 f.f2] 61) _ hgl3).trans X3.out
      have x6 := (Below.heap_alloc w3 (.cells #[.string t, .string f.f1, .int .i64 f.f2] 61) _ hgl6).trans X6.out
      have hb7 := hb5.alloc hb5.size (.cells #[.string t, .string f.f1, .int .i64 f.f2] 61)
      clear X3 X6 hq0 hq1 hq2 hc3 hc6 hf6 hb5
      generalize w3.heap.size = g9 at *
      generalize w3.alloc (.cells #[.string t, .string f.f1, .int .i64 f.f2] 61) = w4 at *
      have hc3 := blk_cell x3 0
      have hc90 := blk_cell x9 0
      have hc91 := blk_cell x9 1
      have hc92 := blk_cell x9 2
      have X3 := Aside0.mk x3
      have X6 := Aside0.mk x6
      have X9 := Aside0.mk x9
      have HB7 := Aside0.mk hb7
      have hlen : (del (key s) T).length < 1073741824 := Nat.lt_of_le_of_lt (List.length_filter_le _ _) hT.len
      have h34 : Aside0 (∀ W, Below w4.heap.size w4 W → Calls Try.prog 34 #[.agg #[.slice (some ad) T.length c], .string s] W fun e w' => ∃ v, e = .returned (.agg #[v]) ∧ Kd.R k61 61 w' W.heap.size (fun _ => True) v (del (key s) T) ∧ Below W.heap.size W w') :=
        ⟨fun W hW => brokerref36_Without.calls (T.length + 1) (some ad) c T s (del (key s) T) W (Kd.C_below HR.out (below_step hb7 hW)) hc (without_f T s hT.len)⟩
      have hdr : Aside0 (Below w4.heap.size w4 w4.drew) := ⟨(Below.refl _ _).drew⟩
      obtain ⟨U, hU⟩ : ∃ U, U = del (key s) T := ⟨_, rfl⟩
      rw [← hU] at h34 hlen hv
      clear hU x3 x6 x9 hb7
      go_region_with (first
        | (go_at_call 34; refine (h34.out _ ?_).mono ?_; exact hdr.out; rintro e w5 ⟨v, rfl, hvr, hb8⟩; obtain ⟨A5, c5, e5⟩ := Kd.R_slice hvr; rw [e5] at hvr ⊢; have HV5 := Aside0.mk (And.intro hvr hb8); clear e5 hvr hb8; have hc90 := blk_cell ((HV5.out.2.block g9 (blk_lt X9.out)).trans X9.out) 0; have hc91 := blk_cell ((HV5.out.2.block g9 (blk_lt X9.out)).trans X9.out) 1; have hc92 := blk_cell ((HV5.out.2.block g9 (blk_lt X9.out)).trans X9.out) 2)
        | (go_at_call 33; refine (with_calls U A5 c5 ⟨t, f.f1, f.f2⟩ w5 (Kd.R_reads' HV5.out.1).2.2 (Kd.R_reads' HV5.out.1).2.1 hlen).mono ?_; rintro e w6 ⟨v, rfl, hvr, hb9⟩; obtain ⟨A6, c6, e6⟩ := Kd.R_slice hvr; rw [e6] at hvr ⊢; have HV6 := Aside0.mk (And.intro hvr hb9); clear e6 hvr hb9; have x6n := (HV6.out.2.block g6 (blk_lt ((HV5.out.2.block g6 (blk_lt X6.out)).trans X6.out))).trans ((HV5.out.2.block g6 (blk_lt X6.out)).trans X6.out); have X6N := Aside0.mk x6n; clear x6n; have hc6 := blk_cell X6N.out 0; have hf6 := blk_frozen X6N.out 0))
      all_goals
        go_wp2
        refine bodyPost_ret (results_ct rfl _ _ g6 39 #[.slice A6 (refWith U ⟨t, f.f1, f.f2⟩).length c6] (0, 0) _ rfl (by refine blk_put (cs := #[.slice none 0 0]) ?_ 0 _ rfl; exact X6N.out) Try.underlying39 rfl (by kernel_rfl)) rfl ?_
        have hb45 := below_then HB7.out HB7.out.size ((Below.refl w4.heap.size w4).drew)
        have hb56 := below_then hb45 hb45.size HV5.out.2
        unfold RefPost
        rw [hv.out]
        exact ⟨_, rfl, ref_end (below_then hb56 hb56.size HV6.out.2) hg6 (SV.of_R (S := fun k => S k ∨ k = g6) HV6.out.1 (fun k hk => hk.elim (fun hk => Nat.lt_of_lt_of_le (hS k hk) hb56.size) (fun hk => hk ▸ blk_lt ((HV5.out.2.block g6 (blk_lt X6.out)).trans X6.out))))⟩
end Go.Proofs.Ytahifafnfjcfpaa.D
