/- The law DiskFull: it answers true for every input. Conditions: none. -/
import Derived.Test.YtahifafnfjcfpaaD8
namespace Go.Proofs.Ytahifafnfjcfpaa.D
open Go.RowKit Go.Maps Go.Sort Go.Proofs.YtahifafnfjcfpaaW.PrintWords Go.Proofs.YtahifafnfjcfpaaW.PrintLast Go.Proofs.YtahifafnfjcfpaaW.PrintMore
open Go.Proofs.Ytahifafnfjcfpaa.R (S61 k61)

/-- A disk beside a row of bytes in block g that nobody writes. -/
structure Fu (w W : World) (d g : Nat) (l : List Int) (F : List S61) : Prop where
  disk : DAt W w.heap.size (fun k => w.heap.size ≤ k ∧ k ≠ g) d F
  below : Below w.heap.size w W
  row : Kd.C K8 W (some ⟨g, 0, none⟩) l.length l
  hg : g < W.heap.size
theorem append_fu {w W : World} {d g c : Nat} {l : List Int} {F : List S61} (h : Fu w W d g l F) (hl8 : ∀ x ∈ l, 0 ≤ x ∧ x < 256) (hlc : l.length ≤ 1073741824) (hF : F.length < 1073741824) :
    Calls Try.prog 10 #[ptr d, .string nf, .slice (some ⟨g, 0, none⟩) l.length c] W fun e w' => e = .returned (.int .i64 (dAppend F nf l).2) ∧ Fu w w' d g l (dAppend F nf l).1 := by
  refine (append_calls nf (some ⟨g, 0, none⟩) c l h.below h.disk (by decide) (fun W1 hb => Kd.C_below h.row hb) hl8 hlc hF).mono ?_
  rintro e w' ⟨h1, h2⟩
  refine ⟨h1, h2.disk.mono (fun k hk => hk.elim id (fun hk => ⟨Nat.le_trans h.below.size hk, fun e => ?_⟩)), h2.below, ?_, Nat.lt_of_lt_of_le h.hg h2.kept.1⟩
  · have := h.hg; omega
  · refine Kd.C_foot_neS (fun h => h) h.row (fun ad hA _ => ?_) w' h2.kept
    cases hA
    exact fun h => h.2 rfl
theorem Fu.st {w W : World} {d g : Nat} {l : List Int} {F : List S61} (h : Fu w W d g l F) : St w W d F := ⟨h.disk.mono (fun _ hk => hk.1), h.below⟩

/-- What lies on the disk behind some rounds. -/
def OnDisk (F : List S61) (total : Nat) : Prop := (total = 0 ∧ F = []) ∨ ∃ a : ByteArray, a.size = total ∧ F = [⟨nf, a, 0⟩]
theorem OnDisk.len {F : List S61} {t : Nat} (h : OnDisk F t) : F.length < 1073741824 := by
  rcases h with ⟨_, rfl⟩ | ⟨a, _, rfl⟩ <;> simp
theorem OnDisk.more {F : List S61} {t : Nat} {l : List Int} (h : OnDisk F t) (hl : t + l.length ≤ 65536) : (dAppend F nf l).2 = 0 ∧ OnDisk (dAppend F nf l).1 (t + l.length) := by
  rcases h with ⟨rfl, rfl⟩ | ⟨a, rfl, rfl⟩
  · rw [app_none l (by omega)]
    exact ⟨rfl, .inr ⟨_, by rw [strOfNums_size]; omega, rfl⟩⟩
  · rw [app_one l a 0 hl]
    exact ⟨rfl, .inr ⟨_, by rw [ByteArray.size_append, strOfNums_size], rfl⟩⟩
theorem OnDisk.full {F : List S61} {t : Nat} {l : List Int} (h : OnDisk F t) (hl : 65536 < t + l.length) (h8 : l.length ≤ 8192) : ∃ a : ByteArray, a.size = t ∧ dAppend F nf l = ([⟨nf, a, 0⟩], 6) := by
  rcases h with ⟨rfl, rfl⟩ | ⟨a, rfl, rfl⟩
  · omega
  · exact ⟨a, rfl, app_full l a 0 (by omega)⟩
theorem C_made (W : World) (m : Nat) (hm : m ≤ 1073741824) : Kd.C K8 (W.alloc (.cells (madeCells #[.int .u8 0] m) 5)) (some ⟨W.heap.size, 0, none⟩) (List.replicate m (0 : Int)).length (List.replicate m 0) := by
  have h := own_made W W.heap.size 5 .u8 m (Nat.le_refl _) (by omega)
  have h2 := own_reads' (xs := List.replicate m (0 : Int)) (by simpa using h)
  rw [List.length_replicate]
  exact Kd.C_of_reads (d := (0 : Int)) (h1 := fun _ => rfl) h2

set_option maxRecDepth 100000 in
set_option maxHeartbeats 1000000 in
theorem full_calls (w : World) (k : Int) : Calls Try.prog 4 #[.int .i64 k] w (AwakePost w) := by
  unfold AwakePost
  by_cases h1 : k < 4096
  · have d1 : decide (k < 4096) = true := by simpa using h1
    go_enter Try.func4, Try.ntmps4
    go_wp2_with (go_at_call 8; refine (awake_calls w).mono ?_; rintro e w1 ⟨rfl, hb⟩)
    go_ret
    exact ⟨rfl, hb⟩
  have d1 : decide (k < 4096) = false := by simpa using h1
  by_cases h2 : 8192 < k
  · have d2 : decide (8192 < k) = true := by simpa using h2
    go_enter Try.func4, Try.ntmps4
    go_wp2_with (go_at_call 8; refine (awake_calls w).mono ?_; rintro e w1 ⟨rfl, hb⟩)
    go_ret
    exact ⟨rfl, hb⟩
  have d2 : decide (8192 < k) = false := by simpa using h2
  obtain ⟨m, rfl⟩ := Int.eq_ofNat_of_zero_le (a := k) (by omega)
  have hmk := print_make (P := Try.prog) 22 5 .u8 1 Try.underlying22 info5 (by decide) m (by omega)
  go_enter Try.func4, Try.ntmps4
  go_wp2_with fail
  refine (new_st w).mono ?_
  rintro e w1 ⟨d, rfl, hS⟩
  unfold ptr
  go_wp2
  have hl8 : Aside0 (∀ x ∈ List.replicate m (0 : Int), 0 ≤ x ∧ x < 256) := ⟨fun x hx => by rw [(List.mem_replicate.1 hx).2]; decide⟩
  have hFu : Fu w (w1.alloc (.cells (madeCells #[.int .u8 0] m) 5)) d w1.heap.size (List.replicate m 0) [] := by
    refine ⟨?_, hS.below.alloc hS.below.size _, C_made w1 m (by omega), by simp⟩
    obtain ⟨mm, n, L, hL, e⟩ := hS.disk
    exact ⟨mm, n, L, (hL.bound.move (fun k hk _ => Below.heap_alloc _ _ _ hk.2)).mono (fun k hk => ⟨hk.1, Nat.ne_of_lt hk.2⟩), e⟩
  have hll : (List.replicate m (0 : Int)).length = m := List.length_replicate
  clear hS hmk
  generalize List.replicate m (0 : Int) = l at *
  subst hll
  generalize w1.heap.size = g at *
  go_loopw [5, 6] (fun t i wr => ∃ (k tt : Nat) (F : List S61), t = .int .i64 tt ∧ i = .int .i64 k ∧ 4096 * k ≤ tt ∧ tt ≤ 65536 ∧ OnDisk F tt ∧ Fu w wr d g l F) (fun _ i _ => 17 - (intOf i).toNat)
  case atStart => exact ⟨0, 0, [], rfl, rfl, by omega, by omega, .inl ⟨rfl, rfl⟩, hFu⟩
  case round =>
    obtain ⟨k, tt, F, rfl, rfl, hkt, ht, hO, hFw⟩ := hrel
    have dk : decide ((k : Int) < 17) = true := by simp; omega
    clear hFu
    by_cases hfit : 65536 < tt + l.length
    · have df : decide ((65536 : Int) < (tt : Int) + (l.length : Int)) = true := by simp; omega
      obtain ⟨a, ha, hap⟩ := hO.full hfit (by omega)
      go_wp2_with fail
      have h1 := append_fu (c := l.length) hFw hl8.out (by omega) hO.len
      rw [hap] at h1
      refine h1.mono ?_
      rintro e w2 ⟨rfl, hF2⟩
      clear h1 hap hO hFw
      go_wp2_with fail
      refine (read_one hF2.st).mono ?_
      rintro e w3 ⟨v, rfl, hv, hb3⟩
      obtain ⟨R, cr, rfl, _, _⟩ := hv.str
      have hb := below_then hF2.below hF2.below.size hb3
      rw [ha]
      clear hv
      go_wp2_with (go_at_call 8; refine (awake_calls w3).mono ?_; rintro e w4 ⟨rfl, hb4⟩)
      go_ret
      exact ⟨rfl, below_then hb hb.size hb4⟩
    · have df : decide ((65536 : Int) < (tt : Int) + (l.length : Int)) = false := by simp; omega
      obtain ⟨h6, hO2⟩ := hO.more (l := l) (by omega)
      go_wp2_with fail
      refine (append_fu (c := l.length) hFw hl8.out (by omega) hO.len).mono ?_
      rintro e w2 ⟨rfl, hF2⟩
      rw [h6]
      go_wp2
      go_roundw
      case rel => exact ⟨k + 1, tt + l.length, _, by go_num, by go_num, by omega, by omega, hO2, hF2⟩
      case measure => simp [intOf]; omega
end Go.Proofs.Ytahifafnfjcfpaa.D
