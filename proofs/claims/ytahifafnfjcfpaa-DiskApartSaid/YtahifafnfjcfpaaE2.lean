/- The reference's Sync, Remove, Read. Conditions: as each theorem says. -/
import Derived.Test.YtahifafnfjcfpaaE1
namespace Go.Proofs.Ytahifafnfjcfpaa.D
open Go.RowKit Go.Maps Go.Sort Go.Proofs.YtahifafnfjcfpaaW.PrintWords Go.Proofs.YtahifafnfjcfpaaW.PrintLast Go.Proofs.YtahifafnfjcfpaaW.PrintMore
open Go.Proofs.Ytahifafnfjcfpaa.R (S61 k61 k61_mkM k61_open k61_mk at_T61 rd_T61 info61 brokerref36_Without.calls brokerref36_At.calls brokerref01_Name.calls)

def refSync (T : List S61) (s : ByteArray) : List S61 × Int := match find T (key s) with | none => (T, 8) | some f => (refWith T ⟨f.f0, f.f1, f.f1.size⟩, 0)
def refRemove (T : List S61) (s : ByteArray) : List S61 × Int := match find T (key s) with | none => (T, 8) | some _ => (del (key s) T, 0)

set_option maxRecDepth 100000 in
set_option maxHeartbeats 400000 in
theorem sync_ref (T : List S61) (A : Option Addr) (c : Nat) (s : ByteArray) (w : World) (S : Nat → Prop) (hr : Kd.C k61 w A T.length T) (hc : T.length ≤ c) (hA : ∀ ad, A = some ad → 0 < T.length → ¬ S ad.block) (hS : ∀ k, S k → k < w.heap.size) (hT : Fit T) :
    Calls Try.prog 24 #[.agg #[.slice A T.length c], .string s] w (RefPost w S (refSync T s)) := by
  have hu39 := Try.underlying39
  have hu61 := Try.underlying61
  have HR := Aside0.mk hr
  have HA := Aside0.mk hA
  clear hr hA
  go_enter Try.func24, Try.ntmps24
  go_wp2_with fail
  obtain ⟨x3, x6, hb0⟩ := boxes2 w (.cells #[.slice A T.length c] 39) (.cells #[.slice none 0 0] 39)
  refine (at_ref T A c s _ (Kd.C_below HR.out hb0) hc hT.len).mono ?_
  rintro e w2 ⟨rfl, hb4⟩
  replace x3 := (hb4.block w.heap.size (by simp only [World.size_alloc]; omega)).trans x3
  replace x6 := (hb4.block (w.heap.size + 1) (by simp only [World.size_alloc]; omega)).trans x6
  have hb5 := below_step hb0 hb4
  have hg6 : w.heap.size ≤ w.heap.size + 1 := by omega
  clear hb4 hb0
  generalize w.heap.size + 1 = g6 at *
  have hc3 := blk_cell x3 0
  have hc6 := blk_cell x6 0
  have hf6 := blk_frozen x6 0
  rcases at_case T s with ⟨hi, hfd⟩ | ⟨i, hi, hia, hfd, hks⟩
  · rw [hi]
    have hv : Aside0 (refSync T s = (T, 8)) := ⟨by unfold refSync; rw [hfd]⟩
    have X6 := Aside0.mk x6
    clear x3 x6
    go_wp2
    refine bodyPost_ret (results_ct rfl _ _ g6 39 #[.slice A T.length c] (0, 0) _ rfl (by refine blk_put (cs := #[.slice none 0 0]) ?_ 0 _ rfl; exact X6.out) Try.underlying39 rfl (by kernel_rfl)) rfl ?_
    unfold RefPost
    rw [hv.out]
    exact ⟨_, rfl, ref_end hb5 hg6 (sv_old HR.out hc HA.out hb5 hg6)⟩
  · obtain ⟨ad, ead, hq0, hq1, hq2⟩ := at_T61 (Kd.C_below HR.out hb5) (i : Int) (by omega) (by omega)
    rw [hia]
    rw [rd61 hi, Int.toNat_natCast] at hq0 hq1 hq2
    have hff := (hT.files T[i] (List.getElem_mem hi)).1
    subst ead
    generalize hfe : T[i] = f at *
    have hil : i < 1073741824 := Nat.lt_trans hi hT.len
    have hd0 : decide ((i : Int) < 0) = false := by simp
    have hil2 : (i : Int) < (T.length : Int) := by omega
    have hv : Aside0 (refSync T s = (refWith T ⟨f.f0, f.f1, f.f1.size⟩, 0)) := ⟨by unfold refSync; rw [hfd]⟩
    have hgl6 := blk_lt x6
    have hc3a : ∀ o, (w2.alloc o).cell? ⟨w.heap.size, 0, none⟩ = some (.slice (some ad) T.length c) := fun o => pw_cell_below (below_alloc (Below.refl _ _) o) hc3
    have X6 := Aside0.mk x6
    have hb7 := hb5.size
    clear x3 x6
    go_wp2_with fail
    have hbW : Below w.heap.size w (w2.alloc (.cells #[.string f.f0, .string f.f1, .int .i64 f.f1.size] 61)) := hb5.alloc hb7 _
    have hg6W : g6 < (w2.alloc (.cells #[.string f.f0, .string f.f1, .int .i64 f.f1.size] 61)).heap.size := by simp only [World.size_alloc]; omega
    have x6W : (w2.alloc (.cells #[.string f.f0, .string f.f1, .int .i64 f.f1.size] 61)).heap[g6]? = some (.cells #[.slice none 0 0] 39 (0, 0)) := (Below.heap_alloc _ _ _ hgl6).trans X6.out
    refine (with_calls T (some ad) c ⟨f.f0, f.f1, f.f1.size⟩ _ (Kd.C_below HR.out hbW) hc hT.len).mono ?_
    rintro e w3 ⟨v, rfl, hvr, hb6⟩
    have hend := SV.of_R (S := fun k => S k ∨ k = g6) hvr (fun k hk => hk.elim (fun hk => Nat.lt_of_lt_of_le (hS k hk) hbW.size) (fun hk => hk ▸ hg6W))
    have x6n := (hb6.block g6 hg6W).trans x6W
    have hbn := below_step hbW hb6
    obtain ⟨Ao, co, hAo⟩ := Kd.R_slice hvr
    have hc6n := blk_cell x6n 0
    have hf6n := blk_frozen x6n 0
    rw [hAo] at hend ⊢
    have HE := Aside0.mk hend
    have X6N := Aside0.mk x6n
    clear hend x6n hvr hAo hb6 hbW hg6W x6W
    obtain ⟨R, hRr⟩ : ∃ R, R = refWith T ⟨f.f0, f.f1, f.f1.size⟩ := ⟨_, rfl⟩
    rw [← hRr] at HE hv ⊢
    clear hRr
    go_wp2
    refine bodyPost_ret (results_ct rfl _ _ g6 39 #[.slice Ao R.length co] (0, 0) _ rfl (by refine blk_put (cs := #[.slice none 0 0]) ?_ 0 _ rfl; exact X6N.out) Try.underlying39 rfl (by kernel_rfl)) rfl ?_
    unfold RefPost
    rw [hv.out]
    exact ⟨_, rfl, ref_end hbn hg6 HE.out⟩

set_option maxRecDepth 100000 in
set_option maxHeartbeats 400000 in
theorem remove_ref (T : List S61) (A : Option Addr) (c : Nat) (s : ByteArray) (w : World) (S : Nat → Prop) (hr : Kd.C k61 w A T.length T) (hc : T.length ≤ c) (hA : ∀ ad, A = some ad → 0 < T.length → ¬ S ad.block) (hS : ∀ k, S k → k < w.heap.size) (hT : T.length < 1073741824) :
    Calls Try.prog 28 #[.agg #[.slice A T.length c], .string s] w (RefPost w S (refRemove T s)) := by
  have hu39 := Try.underlying39
  have hu61 := Try.underlying61
  have HR := Aside0.mk hr
  have HA := Aside0.mk hA
  clear hr hA
  go_enter Try.func28, Try.ntmps28
  go_wp2_with fail
  obtain ⟨x3, x6, hb0⟩ := boxes2 w (.cells #[.slice A T.length c] 39) (.cells #[.slice none 0 0] 39)
  refine (at_ref T A c s _ (Kd.C_below HR.out hb0) hc hT).mono ?_
  rintro e w2 ⟨rfl, hb4⟩
  replace x3 := (hb4.block w.heap.size (by simp only [World.size_alloc]; omega)).trans x3
  replace x6 := (hb4.block (w.heap.size + 1) (by simp only [World.size_alloc]; omega)).trans x6
  have hb5 := below_step hb0 hb4
  have hg6 : w.heap.size ≤ w.heap.size + 1 := by omega
  clear hb4 hb0
  generalize w.heap.size + 1 = g6 at *
  have hc3 := blk_cell x3 0
  have hc6 := blk_cell x6 0
  have hf6 := blk_frozen x6 0
  rcases at_case T s with ⟨hi, hfd⟩ | ⟨i, hi, hia, hfd, hks⟩
  · rw [hi]
    have hv : Aside0 (refRemove T s = (T, 8)) := ⟨by unfold refRemove; rw [hfd]⟩
    have X6 := Aside0.mk x6
    clear x3 x6
    go_wp2
    refine bodyPost_ret (results_ct rfl _ _ g6 39 #[.slice A T.length c] (0, 0) _ rfl (by refine blk_put (cs := #[.slice none 0 0]) ?_ 0 _ rfl; exact X6.out) Try.underlying39 rfl (by kernel_rfl)) rfl ?_
    unfold RefPost
    rw [hv.out]
    exact ⟨_, rfl, ref_end hb5 hg6 (sv_old HR.out hc HA.out hb5 hg6)⟩
  · rw [hia]
    have hd0 : decide ((i : Int) < 0) = false := by simp
    have hv : Aside0 (refRemove T s = (del (key s) T, 0)) := ⟨by unfold refRemove; rw [hfd]⟩
    have hg6W := blk_lt x6
    have X6 := Aside0.mk x6
    clear x3 x6
    go_wp2_with fail
    refine (brokerref36_Without.calls (T.length + 1) A c T s (del (key s) T) w2 (Kd.C_below HR.out hb5) hc (without_f T s hT)).mono ?_
    rintro e w3 ⟨v, rfl, hvr, hb6⟩
    have hend := SV.of_R (S := fun k => S k ∨ k = g6) hvr (fun k hk => hk.elim (fun hk => Nat.lt_of_lt_of_le (hS k hk) hb5.size) (fun hk => hk ▸ hg6W))
    have x6n := (hb6.block g6 hg6W).trans X6.out
    have hbn := below_step hb5 hb6
    obtain ⟨Ao, co, hAo⟩ := Kd.R_slice hvr
    have hc6n := blk_cell x6n 0
    have hf6n := blk_frozen x6n 0
    rw [hAo] at hend ⊢
    have HE := Aside0.mk hend
    have X6N := Aside0.mk x6n
    clear hend x6n hvr hAo hb6 hg6W
    obtain ⟨R, hRr⟩ : ∃ R, R = del (key s) T := ⟨_, rfl⟩
    rw [← hRr] at HE hv ⊢
    clear hRr
    go_wp2
    refine bodyPost_ret (results_ct rfl _ _ g6 39 #[.slice Ao R.length co] (0, 0) _ rfl (by refine blk_put (cs := #[.slice none 0 0]) ?_ 0 _ rfl; exact X6N.out) Try.underlying39 rfl (by kernel_rfl)) rfl ?_
    unfold RefPost
    rw [hv.out]
    exact ⟨_, rfl, ref_end hbn hg6 HE.out⟩

/-- What Read gives. -/
def refRead (T : List S61) (s : ByteArray) : ByteArray × Int := match find T (key s) with | none => (⟨#[]⟩, 8) | some f => (f.f1, 0)
def ReadRef (w : World) (r : ByteArray × Int) (e : Ending) (w' : World) : Prop := ∃ A c, e = .returned (.tuple #[.slice A r.1.size c, .int .i64 r.2]) ∧ Kd.C K8 w' A (bytesOf r.1).length (bytesOf r.1) ∧ Below w.heap.size w w'
set_option maxRecDepth 100000 in
set_option maxHeartbeats 400000 in
theorem read_ref (T : List S61) (A : Option Addr) (c : Nat) (s : ByteArray) (w : World) (hr : Kd.C k61 w A T.length T) (hc : T.length ≤ c) (hT : Fit T) :
    Calls Try.prog 29 #[.agg #[.slice A T.length c], .string s] w (ReadRef w (refRead T s)) := by
  have hu39 := Try.underlying39
  have hu61 := Try.underlying61
  have HR := Aside0.mk hr
  clear hr
  go_enter Try.func29, Try.ntmps29
  go_wp2_with fail
  have x3 := heap_alloc_new w (.cells #[.slice A T.length c] 39)
  have hb0 := below_alloc (Below.refl _ w) (.cells #[.slice A T.length c] 39)
  refine (at_ref T A c s _ (Kd.C_below HR.out hb0) hc hT.len).mono ?_
  rintro e w2 ⟨rfl, hb4⟩
  replace x3 := (hb4.block w.heap.size (by simp only [World.size_alloc]; omega)).trans x3
  have hb5 := below_step hb0 hb4
  clear hb4 hb0
  have hc3 := blk_cell x3 0
  rcases at_case T s with ⟨hi, hfd⟩ | ⟨i, hi, hia, hfd, hks⟩
  · rw [hi]
    have hv : Aside0 (refRead T s = (⟨#[]⟩, 8)) := ⟨by unfold refRead; rw [hfd]⟩
    clear x3
    go_wp2
    go_ret2
    unfold ReadRef
    rw [hv.out]
    exact ⟨none, 0, rfl, Kd.C_nil _ _, hb5⟩
  · obtain ⟨ad, ead, hq0, hq1, hq2⟩ := at_T61 (Kd.C_below HR.out hb5) (i : Int) (by omega) (by omega)
    rw [hia]
    rw [rd61 hi, Int.toNat_natCast] at hq0 hq1 hq2
    have hff := (hT.files T[i] (List.getElem_mem hi)).1
    subst ead
    generalize hfe : T[i] = f at *
    have hil : i < 1073741824 := Nat.lt_trans hi hT.len
    have hd0 : decide ((i : Int) < 0) = false := by simp
    have hil2 : (i : Int) < (T.length : Int) := by omega
    have hv : Aside0 (refRead T s = (f.f1, 0)) := ⟨by unfold refRead; rw [hfd]⟩
    have kb := fun W => print_bytes (P := Try.prog) 9 22 5 Try.underlying9 Try.underlying22 Try.underlying5 f.f1 W
    clear x3
    go_wp2
    go_ret2
    unfold ReadRef
    rw [hv.out]
    refine ⟨_, _, rfl, ?_, bytes_below hb5 hb5.size 5 f.f1⟩
    rw [bytesOf_length]
    exact Kd.C_of_reads (d := (0 : Int)) (h1 := fun _ => rfl) (bytes_reads w2 5 f.f1 (by omega))
end Go.Proofs.Ytahifafnfjcfpaa.D
