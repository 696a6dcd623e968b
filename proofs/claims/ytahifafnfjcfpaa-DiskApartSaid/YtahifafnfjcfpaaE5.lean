/- The law's same: a disk has the files of a state of the reference. Conditions: as each theorem says. -/
import Derived.Test.YtahifafnfjcfpaaP1
namespace Go.Proofs.Ytahifafnfjcfpaa.D
open Go.RowKit Go.Maps Go.Sort Go.Proofs.YtahifafnfjcfpaaW.PrintWords Go.Proofs.YtahifafnfjcfpaaW.PrintLast Go.Proofs.YtahifafnfjcfpaaW.PrintMore
open Go.Proofs.Ytahifafnfjcfpaa.R (S61 k61 k61_mkM k61_open k61_mk at_T61 rd_T61 info61 brokerref36_Without.calls brokerref36_At.calls brokerref01_Name.calls brokerref36_Names.calls)

set_option maxRecDepth 100000 in
set_option maxHeartbeats 400000 in
theorem same_ref (l : List ByteArray) (A B : Option Addr) (ca cb : Nat) (w : World) (hA : Kd.C Kd.string w A l.length l) (hB : Kd.C Kd.string w B l.length l) (hl : l.length < 1073741824) :
    Calls Try.prog 21 #[.slice A l.length ca, .slice B l.length cb] w fun e w' => e = .returned (.bool true) ∧ Below w.heap.size w w' := by
  have HA := Aside0.mk hA
  have HB := Aside0.mk hB
  clear hA hB
  go_enter Try.func21, Try.ntmps21
  go_wp2
  go_loopw [5] (fun vi wr => ∃ k : Nat, k ≤ l.length ∧ vi = .int .i64 k ∧ Below w.heap.size w wr) (fun vi _ => l.length - (intOf vi).toNat)
  case atStart => exact ⟨0, Nat.zero_le _, rfl, Below.refl _ _⟩
  case round =>
    obtain ⟨k, hk, rfl, hb⟩ := hrel
    by_cases hkn : k < l.length
    · have dk : decide ((k : Int) < (l.length : Int)) = true := by simp; omega
      obtain ⟨ad, ead, hc⟩ := Kd.at_string (Kd.C_below HA.out hb) (k : Int) (by omega) (by omega)
      obtain ⟨bd, ebd, hd⟩ := Kd.at_string (Kd.C_below HB.out hb) (k : Int) (by omega) (by omega)
      rw [Int.toNat_natCast] at hc hd
      subst ead
      subst ebd
      generalize rdOf ByteArray.empty l (k : Int) = s at hc hd
      have HBB := Aside0.mk hb
      clear hb
      go_wp2
      go_quiet (fail)
      go_wp2
      go_roundw
      case rel => exact ⟨k + 1, by omega, by go_num, pw_below_drewN HBB.out _⟩
      case measure => simp [intOf]; omega
    · have dk : decide ((k : Int) < (l.length : Int)) = false := by simp; omega
      have HBB := Aside0.mk hb
      clear hb
      go_wp2
      go_ret
      exact ⟨rfl, HBB.out⟩

theorem names_ref (T : List S61) (A : Option Addr) (c : Nat) (w : World) (hr : Kd.C k61 w A T.length T) (hc : T.length ≤ c) (hT : T.length < 1073741824) :
    Calls Try.prog 22 #[.agg #[.slice A T.length c]] w fun e w' => ∃ v, e = .returned v ∧ Kd.R Kd.string 9 w' w.heap.size (fun _ => True) v (T.map S61.f0) ∧ Below w.heap.size w w' :=
  brokerref36_Names.calls (T.length + 1) A c T (T.map S61.f0) w hr hc (names_f T hT)

theorem find_at {F : List S61} (h : Sorted F) {k : Nat} (hk : k < F.length) : find F (key F[k].f0) = some F[k] := by
  unfold find
  rw [List.find?_eq_some_iff_getElem]
  refine ⟨by simp, k, hk, rfl, fun j hj => ?_⟩
  have := (List.pairwise_iff_getElem.1 h) j k (Nat.lt_trans hj hk) hk hj
  simpa using lt_ne this

def SamePost (w : World) (e : Ending) (w' : World) : Prop := e = .returned (.bool true) ∧ Below w.heap.size w w'
set_option maxRecDepth 100000 in
set_option maxHeartbeats 400000 in
theorem same_calls {base : Nat} {w : World} {S : Nat → Prop} {d : Nat} {F : List S61} (A : Option Addr) (c : Nat) (hD : DAt w base S d F) (hr : Kd.C k61 w A F.length F) (hc : F.length ≤ c) (hF : F.length < 1073741824) (hs : Sorted F) :
    Calls Try.prog 16 #[ptr d, .agg #[.slice A F.length c]] w (SamePost w) := by
  have hu39 := Try.underlying39
  have hu61 := Try.underlying61
  have hnm := hD.nm
  have HD := Aside0.mk hD
  have HR := Aside0.mk hr
  have HS := Aside0.mk hs
  have HNM := Aside0.mk hnm
  clear hD hr hs hnm
  unfold SamePost ptr
  go_enter Try.func16, Try.ntmps16
  go_wp2_with fail
  have x3 := heap_alloc_new w (.cells #[.slice A F.length c] 39)
  have hb0 := below_alloc (Below.refl _ w) (.cells #[.slice A F.length c] 39)
  have hg3 := Nat.le_refl w.heap.size
  generalize hw1 : w.alloc (.cells #[.slice A F.length c] 39) = w1 at *
  have X3 := Aside0.mk x3
  have HB0 := Aside0.mk hb0
  have hc3 := blk_cell x3 0
  have hlen : (F.map S61.f0).length < 1073741824 := by rw [List.length_map]; exact hF
  have hne : Aside0 (namesOf F = F.map S61.f0) := ⟨names_eq HS.out⟩
  have h19 : Aside0 (∀ W, Below w1.heap.size w1 W → Calls Try.prog 19 #[.pointer (some ⟨d, 0, none⟩)] W (NamesPost W F)) := ⟨fun W hW => names_calls (HD.out.below (below_step hb0 hW)) hF⟩
  have h22 : Aside0 (∀ W, Below w1.heap.size w1 W → Calls Try.prog 22 #[.agg #[.slice A F.length c]] W fun e w' => ∃ v, e = .returned v ∧ Kd.R Kd.string 9 w' W.heap.size (fun _ => True) v (F.map S61.f0) ∧ Below W.heap.size W w') := ⟨fun W hW => names_ref F A c W (Kd.C_below HR.out (below_step hb0 hW)) hc hF⟩
  have hdr : Aside0 (Below w1.heap.size w1 w1.drew) := ⟨(Below.refl _ _).drew⟩
  clear x3 hb0 hw1
  obtain ⟨ns, hns⟩ : ∃ ns, ns = F.map S61.f0 := ⟨_, rfl⟩
  rw [← hns] at hne h22 hlen
  clear hns
  go_region_with (first
    | (go_at_call 19; refine (h19.out _ ?_).mono ?_; (first | exact hdr.out | exact below_step hdr.out HB22.out); rintro e wa ⟨va, rfl, hra, hba⟩; rw [hne.out] at hra; obtain ⟨Aa, cca, ea⟩ := Kd.R_slice hra; rw [ea] at hra ⊢; have HA19 := Aside0.mk hra; have HB19 := Aside0.mk hba; clear hra hba ea; try (have hc3 := blk_cell ((HB19.out.block w.heap.size (blk_lt X3.out)).trans X3.out) 0))
    | (go_at_call 22; refine (h22.out _ ?_).mono ?_; (first | exact hdr.out | exact below_step hdr.out HB19.out); rintro e wb ⟨vb, rfl, hrb, hbb⟩; obtain ⟨Ab, ccb, eb⟩ := Kd.R_slice hrb; rw [eb] at hrb ⊢; have HA22 := Aside0.mk hrb; have HB22 := Aside0.mk hbb; clear hrb hbb eb)
    | (go_at_call 21; (first | refine (same_ref ns Aa Ab cca ccb wb (Kd.C_below (Kd.R_reads' HA19.out).2.2 HB22.out) (Kd.R_reads' HA22.out).2.2 hlen).mono ?_ | refine (same_ref ns Aa Ab cca ccb wa (Kd.R_reads' HA19.out).2.2 (Kd.C_below (Kd.R_reads' HA22.out).2.2 HB19.out) hlen).mono ?_); rintro e wc ⟨rfl, hbc⟩; have HBC : Aside0 (Below w1.heap.size w1 wc) := (by first | exact ⟨below_step (below_step hdr.out HB19.out) (below_step HB22.out hbc)⟩ | exact ⟨below_step (below_step hdr.out HB22.out) (below_step HB19.out hbc)⟩); clear hbc))
  all_goals
    go_wp2
    go_loopw [5] (fun vi wr => ∃ k : Nat, k ≤ F.length ∧ vi = .int .i64 k ∧ Below w1.heap.size w1 wr) (fun vi _ => F.length - (intOf vi).toNat)
    case atStart => exact ⟨0, Nat.zero_le _, rfl, HBC.out⟩
    case round =>
      obtain ⟨k, hk, rfl, hb⟩ := hrel
      have hc3 : wr.cell? ⟨w.heap.size, 0, none⟩ = some (.slice A F.length c) := blk_cell ((hb.block w.heap.size (blk_lt X3.out)).trans X3.out) 0
      have hbw := below_step HB0.out hb
      have HBW := Aside0.mk hbw
      have HBR := Aside0.mk hb
      clear hb hbw
      by_cases hkn : k < F.length
      · have dk : decide ((k : Int) < (F.length : Int)) = true := by simp; omega
        obtain ⟨ad, ead, hq0, hq1, hq2⟩ := at_T61 (Kd.C_below HR.out HBW.out) (k : Int) (by omega) (by omega)
        rw [rd61 hkn, Int.toNat_natCast] at hq0 hq1 hq2
        subst ead
        have hfa := find_at HS.out hkn
        have hsz := HNM.out F[k] (List.getElem_mem hkn)
        generalize F[k] = f at *
        have HFA := Aside0.mk hfa
        clear hfa
        go_wp2_with fail
        refine (read_calls f.f0 (HD.out.below HBW.out) (by unfold maxLen; omega)).mono ?_
        rintro e w3 hp
        unfold ReadPost at hp
        rw [HFA.out] at hp
        obtain ⟨v, rfl, hv, hb3⟩ := hp
        obtain ⟨R, cr, rfl, hcr, _⟩ := hv.str
        have hcv : ∀ n, (convert 22 9 (.slice R f.f1.size cr)).run Try.prog (w3.drewN n) = .ok (.string f.f1) (w3.drewN n) := fun n => by
          obtain ⟨R', cr', e', _, h'⟩ := (hv.move (w1 := w3.drewN n) (fun _ _ => rfl)).str
          cases e'
          exact h'
        have HB3 := Aside0.mk hb3
        have hq0' := pw_cell_below hb3 hq0
        have hq1' := pw_cell_below hb3 hq1
        have hc3' := pw_cell_below hb3 hc3
        clear hv hq0 hq1 hq2 hc3 hb3
        generalize f.f1.size = N at *
        go_wp2
        go_quiet (fail)
        go_wp2
        go_roundw
        case rel => exact ⟨k + 1, by omega, by go_num, pw_below_drewN (below_step HBR.out HB3.out) _⟩
        case measure => simp [intOf]; omega
      · have dk : decide ((k : Int) < (F.length : Int)) = false := by simp; omega
        go_wp2
        go_ret
        exact ⟨rfl, HBW.out⟩
end Go.Proofs.Ytahifafnfjcfpaa.D
