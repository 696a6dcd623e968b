/- The law DiskSafe: it answers true for every input. Conditions: the two arguments are slices of bytes as they lie in memory. -/
import Derived.Test.YtahifafnfjcfpaaD8
import Derived.StillTailTactics
namespace Go.Proofs.Ytahifafnfjcfpaa.D
open Go.RowKit Go.Maps Go.Sort Go.Proofs.YtahifafnfjcfpaaW.PrintWords Go.Proofs.YtahifafnfjcfpaaW.PrintLast Go.Proofs.YtahifafnfjcfpaaW.PrintMore
open Go.Proofs.Ytahifafnfjcfpaa.R (S61 k61)

def clampN (k : Int) (n : Nat) : Nat := if k < 0 then 0 else if (n : Int) < k then n else k.toNat
theorem clamp_le (k : Int) (n : Nat) : clampN k n ≤ n := by
  unfold clampN
  split
  · omega
  · split <;> omega
theorem strOfNums_append (a b : List Int) : strOfNums (a ++ b) = strOfNums a ++ strOfNums b := by
  apply key_inj
  simp [key, strOfNums_data]
theorem strOfNums_cut (l : List Int) (n : Nat) : (strOfNums l).extract 0 n = strOfNums (l.take n) := by
  apply key_inj
  simp [key, strOfNums_data]
theorem safe_file (la lb : List Int) (k : Int) : cutF ⟨nf, strOfNums la ++ strOfNums lb, ((strOfNums la).size : Int)⟩ (crashN [k] 0 ⟨nf, strOfNums la ++ strOfNums lb, ((strOfNums la).size : Int)⟩) =
    ⟨nf, strOfNums la ++ strOfNums (lb.take (clampN k lb.length)), ((la.length + clampN k lb.length : Nat) : Int)⟩ := by
  have hsz : (strOfNums la ++ strOfNums lb).size = la.length + lb.length := by rw [ByteArray.size_append, strOfNums_size, strOfNums_size]
  have hn : crashN [k] 0 ⟨nf, strOfNums la ++ strOfNums lb, ((strOfNums la).size : Int)⟩ = (clampN k lb.length : Int) := by
    unfold crashN clampN
    simp only [List.length_singleton, Nat.lt_one_iff, if_true, List.getD_cons_zero, hsz, strOfNums_size]
    split
    · omega
    · split <;> omega
  unfold cutF
  rw [hn]
  simp only [strOfNums_size]
  have e : ((la.length : Int) + (clampN k lb.length : Int)).toNat = la.length + clampN k lb.length := by omega
  rw [e]
  congr 1
  rw [← strOfNums_append, strOfNums_cut, ← strOfNums_append, List.take_append]
  congr 2
  · rw [List.take_of_length_le (by omega)]
  · congr 1; omega

set_option maxRecDepth 100000 in
set_option maxHeartbeats 1000000 in
theorem safe_calls (w : World) (A B : Option Addr) (ca cb : Nat) (la lb : List Int) (k : Int) (hA : Kd.C K8 w A la.length la) (hB : Kd.C K8 w B lb.length lb) (hcb : lb.length ≤ cb) (ha8 : ∀ x ∈ la, 0 ≤ x ∧ x < 256) (hb8 : ∀ x ∈ lb, 0 ≤ x ∧ x < 256) (hk : -9223372036854775808 ≤ k ∧ k ≤ 9223372036854775807) :
    Calls Try.prog 3 #[.slice A la.length ca, .slice B lb.length cb, .int .i64 k] w (AwakePost w) := by
  unfold AwakePost
  by_cases h1 : 400 < la.length
  · have d1 : decide ((400 : Int) < (la.length : Int)) = true := by simp; omega
    go_enter Try.func3, Try.ntmps3
    go_wp2_with (go_at_call 8; refine (awake_calls w).mono ?_; rintro e w1 ⟨rfl, hb⟩)
    go_ret
    exact ⟨rfl, hb⟩
  have d1 : decide ((400 : Int) < (la.length : Int)) = false := by simp; omega
  by_cases h2 : 400 < lb.length
  · have d2 : decide ((400 : Int) < (lb.length : Int)) = true := by simp; omega
    go_enter Try.func3, Try.ntmps3
    go_wp2_with (go_at_call 8; refine (awake_calls w).mono ?_; rintro e w1 ⟨rfl, hb⟩)
    go_ret
    exact ⟨rfl, hb⟩
  have d2 : decide ((400 : Int) < (lb.length : Int)) = false := by simp; omega
  by_cases hk0 : k < 0
  · have d3 : decide (k < 0) = true := by simpa using hk0
    have d4 : decide ((lb.length : Int) < 0) = false := by simp
    have hcl : clampN k lb.length = 0 := by unfold clampN; rw [if_pos hk0]
    go_enter Try.func3, Try.ntmps3
    go_wp2_with fail
    refine (new_st w).mono ?_
    rintro e w1 ⟨d, rfl, hS⟩
    unfold ptr
    go_wp2_with fail
    have h3 := append_st hS nf A ca la (by decide) (fun W hW => Kd.C_below (Kd.C_below hA hS.below) hW) ha8 (by omega) (by decide)
    rw [app_none _ (by omega)] at h3
    refine h3.mono ?_
    rintro e w2 ⟨rfl, hS2⟩
    clear h3
    go_wp2_with fail
    have h4 := sync_st hS2 nf (by decide)
    rw [sync_one] at h4
    refine h4.mono ?_
    rintro e w3 ⟨rfl, hS3⟩
    clear h4
    go_wp2_with fail
    have h5 := append_st hS3 nf B cb lb (by decide) (fun W hW => Kd.C_below (Kd.C_below hB hS3.below) hW) hb8 (by omega) (by simp)
    rw [app_one _ _ _ (by rw [strOfNums_size]; omega)] at h5
    refine h5.mono ?_
    rintro e w4 ⟨rfl, hS4⟩
    clear h5
    go_wp2_with fail
    have h6 := crash_new hS4 [k] 3 (by simp) (by simp) (by simp; omega) 1
    rw [crash_one, safe_file] at h6
    refine h6.mono ?_
    rintro e w5 ⟨rfl, hS5⟩
    clear h6
    go_wp2_with fail
    refine (read_one hS5).mono ?_
    rintro e w6 ⟨v, rfl, hv, hb6⟩
    obtain ⟨R, cr, rfl, _, hstr⟩ := (hv.move (w1 := w6.drew) (fun _ _ => rfl)).str
    have hS6 := hS5.then_ hb6
    have hA6 := Kd.C_string (P := Try.prog) (c := ca) Try.underlying22 Try.underlying5 Try.underlying9 (Kd.C_drew (Kd.C_below hA hS6.below))
    have hB6 := Kd.C_string (P := Try.prog) (c := cb) Try.underlying22 Try.underlying5 Try.underlying9 (Kd.C_take (m := 0) (Kd.C_drew (Kd.C_below hB hS6.below)) (by omega))
    rw [List.length_take, Nat.min_eq_left (by omega)] at hB6
    clear hA hB hv hS hS2 hS3 hS4 ha8 hb8
    rw [hcl] at hstr hS5 hS6 ⊢
    have hadd : ¬ 9223372036854775807 < (strOfNums la).size + (strOfNums (List.take 0 lb)).size := by rw [strOfNums_size, strOfNums_size, List.length_take]; omega
    generalize strOfNums (List.take 0 lb) = sB at hstr hB6 hadd ⊢
    generalize strOfNums la = sA at hstr hA6 hadd ⊢
    generalize (sA ++ sB).size = N at hstr ⊢
    go_wp2
    go_still_tail 15, (by kernel_rfl)
    change wpList _ _ _ _ _ w6.drew
    have hb := (hS6.below).drew
    generalize w6.drew = w7 at hb ⊢
    go_wp2_with (go_at_call 8; refine (awake_calls w7).mono ?_; rintro e w8 ⟨rfl, hb8⟩)
    go_ret
    exact ⟨rfl, below_then hb hb.size hb8⟩
  have d3 : decide (k < 0) = false := by simpa using hk0
  by_cases hk1 : (lb.length : Int) < k
  · have d4 : decide ((lb.length : Int) < k) = true := by simpa using hk1
    have hcl : clampN k lb.length = lb.length := by unfold clampN; rw [if_neg hk0, if_pos hk1]
    go_enter Try.func3, Try.ntmps3
    go_wp2_with fail
    refine (new_st w).mono ?_
    rintro e w1 ⟨d, rfl, hS⟩
    unfold ptr
    go_wp2_with fail
    have h3 := append_st hS nf A ca la (by decide) (fun W hW => Kd.C_below (Kd.C_below hA hS.below) hW) ha8 (by omega) (by decide)
    rw [app_none _ (by omega)] at h3
    refine h3.mono ?_
    rintro e w2 ⟨rfl, hS2⟩
    clear h3
    go_wp2_with fail
    have h4 := sync_st hS2 nf (by decide)
    rw [sync_one] at h4
    refine h4.mono ?_
    rintro e w3 ⟨rfl, hS3⟩
    clear h4
    go_wp2_with fail
    have h5 := append_st hS3 nf B cb lb (by decide) (fun W hW => Kd.C_below (Kd.C_below hB hS3.below) hW) hb8 (by omega) (by simp)
    rw [app_one _ _ _ (by rw [strOfNums_size]; omega)] at h5
    refine h5.mono ?_
    rintro e w4 ⟨rfl, hS4⟩
    clear h5
    go_wp2_with fail
    have h6 := crash_new hS4 [k] 3 (by simp) (by simp) (by simp; omega) 1
    rw [crash_one, safe_file] at h6
    refine h6.mono ?_
    rintro e w5 ⟨rfl, hS5⟩
    clear h6
    go_wp2_with fail
    refine (read_one hS5).mono ?_
    rintro e w6 ⟨v, rfl, hv, hb6⟩
    obtain ⟨R, cr, rfl, _, hstr⟩ := (hv.move (w1 := w6.drew) (fun _ _ => rfl)).str
    have hS6 := hS5.then_ hb6
    have hA6 := Kd.C_string (P := Try.prog) (c := ca) Try.underlying22 Try.underlying5 Try.underlying9 (Kd.C_drew (Kd.C_below hA hS6.below))
    have hB6 := Kd.C_string (P := Try.prog) (c := cb) Try.underlying22 Try.underlying5 Try.underlying9 (Kd.C_take (m := lb.length) (Kd.C_drew (Kd.C_below hB hS6.below)) (by omega))
    rw [List.length_take, Nat.min_eq_left (by omega)] at hB6
    clear hA hB hv hS hS2 hS3 hS4 ha8 hb8
    rw [hcl] at hstr hS5 hS6 ⊢
    have hadd : ¬ 9223372036854775807 < (strOfNums la).size + (strOfNums (List.take lb.length lb)).size := by rw [strOfNums_size, strOfNums_size, List.length_take]; omega
    generalize strOfNums (List.take lb.length lb) = sB at hstr hB6 hadd ⊢
    generalize strOfNums la = sA at hstr hA6 hadd ⊢
    generalize (sA ++ sB).size = N at hstr ⊢
    go_wp2
    go_still_tail 15, (by kernel_rfl)
    change wpList _ _ _ _ _ w6.drew
    have hb := (hS6.below).drew
    generalize w6.drew = w7 at hb ⊢
    go_wp2_with (go_at_call 8; refine (awake_calls w7).mono ?_; rintro e w8 ⟨rfl, hb8⟩)
    go_ret
    exact ⟨rfl, below_then hb hb.size hb8⟩
  · have d4 : decide ((lb.length : Int) < k) = false := by simpa using hk1
    have hcl : clampN k lb.length = k.toNat := by unfold clampN; rw [if_neg hk0, if_neg hk1]
    obtain ⟨kn, rfl⟩ := Int.eq_ofNat_of_zero_le (Int.not_lt.1 hk0)
    rw [Int.toNat_natCast] at hcl
    have hkc : kn ≤ cb := by omega
    go_enter Try.func3, Try.ntmps3
    go_wp2_with fail
    refine (new_st w).mono ?_
    rintro e w1 ⟨d, rfl, hS⟩
    unfold ptr
    go_wp2_with fail
    have h3 := append_st hS nf A ca la (by decide) (fun W hW => Kd.C_below (Kd.C_below hA hS.below) hW) ha8 (by omega) (by decide)
    rw [app_none _ (by omega)] at h3
    refine h3.mono ?_
    rintro e w2 ⟨rfl, hS2⟩
    clear h3
    go_wp2_with fail
    have h4 := sync_st hS2 nf (by decide)
    rw [sync_one] at h4
    refine h4.mono ?_
    rintro e w3 ⟨rfl, hS3⟩
    clear h4
    go_wp2_with fail
    have h5 := append_st hS3 nf B cb lb (by decide) (fun W hW => Kd.C_below (Kd.C_below hB hS3.below) hW) hb8 (by omega) (by simp)
    rw [app_one _ _ _ (by rw [strOfNums_size]; omega)] at h5
    refine h5.mono ?_
    rintro e w4 ⟨rfl, hS4⟩
    clear h5
    go_wp2_with fail
    have h6 := crash_new hS4 [(kn : Int)] 3 (by simp) (by simp) (by simp; omega) 1
    rw [crash_one, safe_file] at h6
    refine h6.mono ?_
    rintro e w5 ⟨rfl, hS5⟩
    clear h6
    go_wp2_with fail
    refine (read_one hS5).mono ?_
    rintro e w6 ⟨v, rfl, hv, hb6⟩
    obtain ⟨R, cr, rfl, _, hstr⟩ := (hv.move (w1 := w6.drew) (fun _ _ => rfl)).str
    have hS6 := hS5.then_ hb6
    have hA6 := Kd.C_string (P := Try.prog) (c := ca) Try.underlying22 Try.underlying5 Try.underlying9 (Kd.C_drew (Kd.C_below hA hS6.below))
    have hB6 := Kd.C_string (P := Try.prog) (c := cb) Try.underlying22 Try.underlying5 Try.underlying9 (Kd.C_take (m := kn) (Kd.C_drew (Kd.C_below hB hS6.below)) (by omega))
    rw [List.length_take, Nat.min_eq_left (by omega)] at hB6
    clear hA hB hv hS hS2 hS3 hS4 ha8 hb8
    rw [hcl] at hstr hS5 hS6 ⊢
    have hadd : ¬ 9223372036854775807 < (strOfNums la).size + (strOfNums (List.take kn lb)).size := by rw [strOfNums_size, strOfNums_size, List.length_take]; omega
    generalize strOfNums (List.take kn lb) = sB at hstr hB6 hadd ⊢
    generalize strOfNums la = sA at hstr hA6 hadd ⊢
    generalize (sA ++ sB).size = N at hstr ⊢
    go_wp2
    go_still_tail 15, (by kernel_rfl)
    change wpList _ _ _ _ _ w6.drew
    have hb := (hS6.below).drew
    generalize w6.drew = w7 at hb ⊢
    go_wp2_with (go_at_call 8; refine (awake_calls w7).mono ?_; rintro e w8 ⟨rfl, hb8⟩)
    go_ret
    exact ⟨rfl, below_then hb hb.size hb8⟩
end Go.Proofs.Ytahifafnfjcfpaa.D
