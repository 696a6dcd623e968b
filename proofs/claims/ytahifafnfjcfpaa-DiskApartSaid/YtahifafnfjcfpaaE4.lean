/- The reference's Crash. Conditions: as the theorem says. -/
import Derived.Test.YtahifafnfjcfpaaE3
namespace Go.Proofs.Ytahifafnfjcfpaa.D
open Go.RowKit Go.Maps Go.Sort Go.Proofs.YtahifafnfjcfpaaW.PrintWords Go.Proofs.YtahifafnfjcfpaaW.PrintLast Go.Proofs.YtahifafnfjcfpaaW.PrintMore
open Go.Proofs.Ytahifafnfjcfpaa.R (S61 k61 k61_mkM k61_open k61_mk at_T61 rd_T61 info61 brokerref36_Without.calls brokerref36_At.calls brokerref01_Name.calls)

def refCrash (T : List S61) (keep : List Int) : List S61 := T.mapIdx fun i f => cutF f (crashN keep i f)
theorem refCrash_take {T : List S61} {keep : List Int} {k : Nat} (h : k < T.length) : (refCrash T keep).take (k + 1) = (refCrash T keep).take k ++ [cutF T[k] (crashN keep k T[k])] := by
  have h' : k < (refCrash T keep).length := by simpa [refCrash] using h
  rw [List.take_succ_eq_append_getElem h']
  simp [refCrash]
theorem refCrash_length (T : List S61) (keep : List Int) : (refCrash T keep).length = T.length := by simp [refCrash]
def CrashRef (w : World) (S : Nat → Prop) (T : List S61) (e : Ending) (w' : World) : Prop := ∃ v, e = .returned (.agg #[v]) ∧ SV w' S v T ∧ Below w.heap.size w w'
/-- What is left of a file. -/
theorem cut_eq {f : S61} {keep : List Int} {k P : Nat} (h : f.f2 + crashN keep k f = (P : Int)) : cutF f (crashN keep k f) = ⟨f.f0, f.f1.extract 0 P, (P : Int)⟩ := by
  unfold cutF
  rw [h, Int.toNat_natCast]

set_option maxRecDepth 100000 in
set_option maxHeartbeats 400000 in
theorem crash_ref (T : List S61) (A : Option Addr) (c : Nat) (B : Option Addr) (cb : Nat) (keep : List Int) (w : World) (S : Nat → Prop) (hr : Kd.C k61 w A T.length T) (hS : ∀ k, S k → k < w.heap.size) (hT : Fit T)
    (hk : Kd.C (Kd.int .i64) w B keep.length keep) :
    Calls Try.prog 18 #[.agg #[.slice A T.length c], .slice B keep.length cb] w (CrashRef w S (refCrash T keep)) := by
  have hu39 := Try.underlying39
  have hu61 := Try.underlying61
  have HR := Aside0.mk hr
  have HK := Aside0.mk hk
  clear hr hk
  go_enter Try.func18, Try.ntmps18
  go_wp2
  obtain ⟨x2, x4, hb0⟩ := boxes2 w (.cells #[.slice A T.length c] 39) (.cells #[.slice none 0 0] 39)
  have hg4 : w.heap.size ≤ w.heap.size + 1 := by omega
  have hR1 := Kd.C_below HR.out hb0
  have hK1 := Kd.C_below HK.out hb0
  have HG4 := Aside0.mk hg4
  clear hg4
  generalize w.heap.size + 1 = g4 at *
  generalize (w.alloc (.cells #[.slice A T.length c] 39)).alloc (.cells #[.slice none 0 0] 39) = w1 at *
  have X2 := Aside0.mk x2
  have X4 := Aside0.mk x4
  have HB0 := Aside0.mk hb0
  have HR1 := Aside0.mk hR1
  have HK1 := Aside0.mk hK1
  have HT := Aside0.mk hT
  have HTL := hT.len
  clear x2 x4 hb0 hR1 hK1 HR HK hT
  go_loopw [5, 6] (fun vo vi wr => ∃ k : Nat, k ≤ T.length ∧ vi = .int .i64 k ∧ Kd.R k61 61 wr w1.heap.size (fun _ => True) vo ((refCrash T keep).take k) ∧ Below w1.heap.size w1 wr) (fun _ vi _ => T.length - (intOf vi).toNat)
  case atStart => exact ⟨0, Nat.zero_le _, rfl, by simpa using Kd.R_nil _ _ _ _ _, Below.refl _ _⟩
  case round =>
    obtain ⟨k, hk, rfl, hvo, hbr⟩ := hrel
    have hc2 : wr.cell? ⟨w.heap.size, 0, none⟩ = some (.slice A T.length c) := blk_cell ((hbr.block _ (blk_lt X2.out)).trans X2.out) 0
    by_cases hkn : k < T.length
    · have dk : decide ((k : Int) < (T.length : Int)) = true := by simp; omega
      obtain ⟨ad, ead, hq0, hq1, hq2⟩ := at_T61 (Kd.C_below HR1.out hbr) (k : Int) (by omega) (by omega)
      rw [rd61 hkn, Int.toNat_natCast] at hq0 hq1 hq2
      subst ead
      have hf := HT.out.files T[k] (List.getElem_mem hkn)
      have HSTEP := Aside0.mk (refCrash_take (keep := keep) hkn)
      have hLEN : ((refCrash T keep).take k).length ≤ 1073741824 := by rw [List.length_take, refCrash_length]; omega
      generalize T[k] = f at *
      obtain ⟨hz, hlo, hhi⟩ := hf
      obtain ⟨q, hq⟩ := Int.eq_ofNat_of_zero_le hlo
      obtain ⟨nm, bs, sf⟩ := f
      simp only at hz hlo hhi hq hq0 hq1 hq2
      subst hq
      have hqz : q ≤ bs.size := by omega
      have HVO := Aside0.mk hvo
      have HBR := Aside0.mk hbr
      clear hvo hbr hlo hhi
      by_cases hkk : k < keep.length
      · have dkk : decide ((k : Int) < (keep.length : Int)) = true := by simp; omega
        obtain ⟨ad2, ead2, hck⟩ := Kd.at_int (Kd.C_below HK1.out HBR.out) (k : Int) (by omega) (by omega)
        subst ead2
        rw [Int.toNat_natCast, show YtahifafnfjcfpaaW.PrintWords.rd keep (k : Int) = keep.getD k 0 from rfl] at hck
        have hcn : crashN keep k ⟨nm, bs, (q : Int)⟩ = max 0 (min (keep.getD k 0) ((bs.size : Int) - (q : Int))) := if_pos hkk
        generalize keep.getD k 0 = kk at hck hcn
        have hck2 : ∀ o, (wr.alloc o).cell? (ad2.add k) = some (.int .i64 kk) := fun o => pw_cell_below (below_alloc (Below.refl _ _) o) hck
        clear hck
        by_cases hpos : 0 < kk
        · have dp : decide ((0 : Int) < kk) = true := by simpa using hpos
          obtain ⟨m, hm⟩ : ∃ m : Nat, (bs.size : Int) - (q : Int) = (m : Int) := ⟨bs.size - q, by omega⟩
          by_cases hbig : (m : Int) < kk
          · have db : decide ((m : Int) < kk) = true := by simpa using hbig
            obtain ⟨P, hP⟩ : ∃ P : Nat, (q : Int) + (m : Int) = (P : Int) := ⟨q + m, by omega⟩
            have hPz : P ≤ bs.size := by omega
            have hP2 : P < 9223372036854775807 := by omega
            have hn0 : (q : Int) + crashN keep k ⟨nm, bs, (q : Int)⟩ = (P : Int) := by rw [hcn]; omega
            clear hbig hpos
            have hcut := Aside0.mk (cut_eq (f := ⟨nm, bs, (q : Int)⟩) hn0)
            have hsz : (bs.extract 0 P).size = P := size_cut bs hPz
            clear hn0 hcn
            go_wp2_with (at_builtin; refine Kd.R_append k61 (w0 := w1) (W := wr.alloc (.cells #[.string nm, .string (bs.extract 0 P), .int .i64 (P : Int)] 61)) w1.heap.size rfl (.tmp 62) (.tmp 64) 37 61 (.agg #[(.string ⟨#[]⟩), (.string ⟨#[]⟩), (.int .i64 0)]) 40 rfl Try.underlying37 info61 rfl (by decide) (by omega) u5 ((refCrash T keep).take k) ⟨nm, bs.extract 0 P, (P : Int)⟩ [.string nm, .string (bs.extract 0 P), .int .i64 (P : Int)] (fun _ => True) (fun _ => False) rfl (by simp only [World.size_alloc]; rfl) (k61_mkM _ _ _ ⟨nm, bs.extract 0 P, (P : Int)⟩) (fun _ hk => hk.elim) (fun _ _ => trivial) (Kd.R_alloc HVO.out _) (HBR.out.alloc HBR.out.size _) (HBR.out.alloc HBR.out.size _).size (by omega) ?_; intro v1 w2 ho hb2 hg _)
            go_roundw
            case rel =>
              refine ⟨k + 1, by omega, by go_num, ?_, hb2⟩
              rw [HSTEP.out, hcut.out]
              exact ho
            case measure => simp [intOf]; omega
          · have db : decide ((m : Int) < kk) = false := by simpa using hbig
            obtain ⟨n, rfl⟩ := Int.eq_ofNat_of_zero_le (a := kk) (by omega)
            have hpn : 0 < n := by omega
            obtain ⟨P, hP⟩ : ∃ P : Nat, (q : Int) + (n : Int) = (P : Int) := ⟨q + n, by omega⟩
            have hPz : P ≤ bs.size := by omega
            have hP2 : P < 9223372036854775807 := by omega
            have hn0 : (q : Int) + crashN keep k ⟨nm, bs, (q : Int)⟩ = (P : Int) := by rw [hcn]; omega
            clear hbig hpos
            have hcut := Aside0.mk (cut_eq (f := ⟨nm, bs, (q : Int)⟩) hn0)
            have hsz : (bs.extract 0 P).size = P := size_cut bs hPz
            clear hn0 hcn
            go_wp2_with (at_builtin; refine Kd.R_append k61 (w0 := w1) (W := wr.alloc (.cells #[.string nm, .string (bs.extract 0 P), .int .i64 (P : Int)] 61)) w1.heap.size rfl (.tmp 62) (.tmp 64) 37 61 (.agg #[(.string ⟨#[]⟩), (.string ⟨#[]⟩), (.int .i64 0)]) 40 rfl Try.underlying37 info61 rfl (by decide) (by omega) u5 ((refCrash T keep).take k) ⟨nm, bs.extract 0 P, (P : Int)⟩ [.string nm, .string (bs.extract 0 P), .int .i64 (P : Int)] (fun _ => True) (fun _ => False) rfl (by simp only [World.size_alloc]; rfl) (k61_mkM _ _ _ ⟨nm, bs.extract 0 P, (P : Int)⟩) (fun _ hk => hk.elim) (fun _ _ => trivial) (Kd.R_alloc HVO.out _) (HBR.out.alloc HBR.out.size _) (HBR.out.alloc HBR.out.size _).size (by omega) ?_; intro v1 w2 ho hb2 hg _)
            go_roundw
            case rel =>
              refine ⟨k + 1, by omega, by go_num, ?_, hb2⟩
              rw [HSTEP.out, hcut.out]
              exact ho
            case measure => simp [intOf]; omega
        · have dp : decide ((0 : Int) < kk) = false := by simpa using hpos
          have hd0 : decide ((bs.size : Int) - (q : Int) < 0) = false := by simp; omega
          have hn0 : (q : Int) + crashN keep k ⟨nm, bs, (q : Int)⟩ = (q : Int) := by rw [hcn]; omega
          obtain ⟨P, hP⟩ : ∃ P, P = q := ⟨_, rfl⟩
          subst hP
          have hPz := hqz
          clear hpos
          have hcut := Aside0.mk (cut_eq (f := ⟨nm, bs, (P : Int)⟩) hn0)
          have hsz : (bs.extract 0 P).size = P := size_cut bs hPz
          clear hn0 hcn
          go_wp2_with (at_builtin; refine Kd.R_append k61 (w0 := w1) (W := wr.alloc (.cells #[.string nm, .string (bs.extract 0 P), .int .i64 (P : Int)] 61)) w1.heap.size rfl (.tmp 62) (.tmp 64) 37 61 (.agg #[(.string ⟨#[]⟩), (.string ⟨#[]⟩), (.int .i64 0)]) 40 rfl Try.underlying37 info61 rfl (by decide) (by omega) u5 ((refCrash T keep).take k) ⟨nm, bs.extract 0 P, (P : Int)⟩ [.string nm, .string (bs.extract 0 P), .int .i64 (P : Int)] (fun _ => True) (fun _ => False) rfl (by simp only [World.size_alloc]; rfl) (k61_mkM _ _ _ ⟨nm, bs.extract 0 P, (P : Int)⟩) (fun _ hk => hk.elim) (fun _ _ => trivial) (Kd.R_alloc HVO.out _) (HBR.out.alloc HBR.out.size _) (HBR.out.alloc HBR.out.size _).size (by omega) ?_; intro v1 w2 ho hb2 hg _)
          go_roundw
          case rel =>
            refine ⟨k + 1, by omega, by go_num, ?_, hb2⟩
            rw [HSTEP.out, hcut.out]
            exact ho
          case measure => simp [intOf]; omega
      · have dkk : decide ((k : Int) < (keep.length : Int)) = false := by simp; omega
        have hcn : crashN keep k ⟨nm, bs, (q : Int)⟩ = 0 := if_neg hkk
        have hd0 : decide ((bs.size : Int) - (q : Int) < 0) = false := by simp; omega
        have hn0 : (q : Int) + crashN keep k ⟨nm, bs, (q : Int)⟩ = (q : Int) := by rw [hcn]; omega
        obtain ⟨P, hP⟩ : ∃ P, P = q := ⟨_, rfl⟩
        subst hP
        have hPz := hqz
        have hcut := Aside0.mk (cut_eq (f := ⟨nm, bs, (P : Int)⟩) hn0)
        have hsz : (bs.extract 0 P).size = P := size_cut bs hPz
        clear hn0 hcn
        go_wp2_with (at_builtin; refine Kd.R_append k61 (w0 := w1) (W := wr.alloc (.cells #[.string nm, .string (bs.extract 0 P), .int .i64 (P : Int)] 61)) w1.heap.size rfl (.tmp 62) (.tmp 64) 37 61 (.agg #[(.string ⟨#[]⟩), (.string ⟨#[]⟩), (.int .i64 0)]) 40 rfl Try.underlying37 info61 rfl (by decide) (by omega) u5 ((refCrash T keep).take k) ⟨nm, bs.extract 0 P, (P : Int)⟩ [.string nm, .string (bs.extract 0 P), .int .i64 (P : Int)] (fun _ => True) (fun _ => False) rfl (by simp only [World.size_alloc]; rfl) (k61_mkM _ _ _ ⟨nm, bs.extract 0 P, (P : Int)⟩) (fun _ hk => hk.elim) (fun _ _ => trivial) (Kd.R_alloc HVO.out _) (HBR.out.alloc HBR.out.size _) (HBR.out.alloc HBR.out.size _).size (by omega) ?_; intro v1 w2 ho hb2 hg _)
        go_roundw
        case rel =>
          refine ⟨k + 1, by omega, by go_num, ?_, hb2⟩
          rw [HSTEP.out, hcut.out]
          exact ho
        case measure => simp [intOf]; omega
    · have dk : decide ((k : Int) < (T.length : Int)) = false := by simp; omega
      obtain rfl : k = T.length := by omega
      rw [← refCrash_length T keep, List.take_length] at hvo
      obtain ⟨Ao, co, ho⟩ := Kd.R_slice hvo
      rw [ho] at hvo ⊢
      clear ho
      have hx4 := (hbr.block g4 (blk_lt X4.out)).trans X4.out
      have hf4 := blk_frozen hx4 0
      have hc4 := blk_cell hx4 0
      have hend := SV.of_R (S := fun k => S k ∨ k = g4) hvo (fun k hk => hk.elim (fun hk => Nat.lt_of_lt_of_le (hS k hk) HB0.out.size) (fun hk => hk ▸ blk_lt X4.out))
      have HE := Aside0.mk hend
      have HX := Aside0.mk hx4
      have HBR := Aside0.mk hbr
      clear hvo hx4 hbr hend
      obtain ⟨R, hR⟩ : ∃ R, R = refCrash T keep := ⟨_, rfl⟩
      rw [← hR] at HE ⊢
      have HRR := Aside0.mk hR
      clear hR
      go_wp2
      refine bodyPost_ret (results_cell_row rfl _ _ g4 39 #[.slice Ao R.length co] (0, 0) _ rfl (by refine blk_put (cs := #[.slice none 0 0]) ?_ 0 _ rfl; exact HX.out) Try.underlying39 rfl (by kernel_rfl)) rfl ?_
      unfold CrashRef
      rw [← HRR.out]
      exact ⟨_, rfl, ref_end (below_then HB0.out HB0.out.size HBR.out) HG4.out HE.out⟩
end Go.Proofs.Ytahifafnfjcfpaa.D
