/- One operation on both, whatever its kind; what a list of files keeps through it. Conditions: as each theorem says. -/
import Derived.Test.YtahifafnfjcfpaaE6
namespace Go.Proofs.Ytahifafnfjcfpaa.D
open Go.RowKit Go.Maps Go.Sort Go.Proofs.YtahifafnfjcfpaaW.PrintWords Go.Proofs.YtahifafnfjcfpaaW.PrintLast Go.Proofs.YtahifafnfjcfpaaW.PrintMore
open Go.Proofs.Ytahifafnfjcfpaa.R (S61 S45 k61 k45 k61_mkM k61_open k61_mk at_T61 rd_T61 info61)

theorem do_calls {w0 w : World} {S : Nat → Prop} {d : Nat} {F T : List S61} (x : S45) (A : Option Addr) (c : Nat) (A3 : Option Addr) (c3 : Nat) (A4 : Option Addr) (c4 : Nat) (hp : Pre w0 w S d F) (hv : SV w S (.slice A T.length c) T) (hF : F.length < 1073741824) (hT : Fit T) (hx : ActOk w0 x A3 c3 A4 c4) :
    Calls Try.prog 17 #[ptr d, .agg #[.slice A T.length c], .agg #[.int .u8 x.f0, .string x.f1, .string x.f2, .slice A3 x.f3.length c3, .slice A4 x.f4.length c4]] w (DoPost w0 w S d F T x) := by
  have h8 : actN x < 8 := Nat.mod_lt _ (by decide)
  rcases (by omega : actN x = 0 ∨ actN x = 1 ∨ actN x = 2 ∨ actN x = 3 ∨ actN x = 4 ∨ actN x = 5 ∨ actN x = 6 ∨ actN x = 7) with h | h | h | h | h | h | h | h
  · exact do_append0 x A c A3 c3 A4 c4 hp hv hF hT hx h
  · exact do_append1 x A c A3 c3 A4 c4 hp hv hF hT hx h
  · exact do_append2 x A c A3 c3 A4 c4 hp hv hF hT hx h
  · exact do_sync x A c A3 c3 A4 c4 hp hv hF hT hx h
  · exact do_rename x A c A3 c3 A4 c4 hp hv hF hT hx h
  · exact do_remove x A c A3 c3 A4 c4 hp hv hF hT hx h
  · exact do_read x A c A3 c3 A4 c4 hp hv hF hT hx h
  · exact do_crash x A c A3 c3 A4 c4 hp hv hF hT hx h

theorem step_cases (x : S45) : actN x ≤ 2 ∨ actN x = 3 ∨ actN x = 4 ∨ actN x = 5 ∨ actN x = 6 ∨ actN x = 7 := by
  have h8 : actN x < 8 := Nat.mod_lt _ (by decide)
  omega
theorem step_eq {F : List S61} (h : Sorted F) (x : S45) : refStep F x = dStep F x := by
  rcases step_cases x with k | k | k | k | k | k
  · rw [rstep_K0 k, dstep_K0 k, append_eq h]
  · rw [rstep_K3 k, dstep_K3 k, sync_eq h]
  · rw [rstep_K4 k, dstep_K4 k, rename_eq h]
  · rw [rstep_K5 k, dstep_K5 k, remove_eq]
  · rw [rstep_K6 k, dstep_K6 k]
  · rw [rstep_K7 k, dstep_K7 k, crash_eq h]
theorem Sorted.crashd {F : List S61} (h : Sorted F) (keep : List Int) : Sorted (dCrash F keep) := by
  rw [← crash_eq h]; exact h.crash keep
theorem step_sorted {F : List S61} (h : Sorted F) (x : S45) : Sorted (dStep F x) := by
  rcases step_cases x with k | k | k | k | k | k
  · rw [dstep_K0 k]; unfold dAppend
    split
    · split
      · exact h.put _
      · exact h
    · exact h
  · rw [dstep_K3 k]; unfold dSync
    split
    · exact h
    · exact h.upd _
  · rw [dstep_K4 k]; unfold dRename
    split
    · exact h
    · split
      · exact (h.del _).put _
      · exact h
  · rw [dstep_K5 k]; unfold dRemove
    split
    · exact h
    · exact h.del _
  · rw [dstep_K6 k]; exact h
  · rw [dstep_K7 k]; exact h.crashd _
theorem del_len (n : List UInt8) (F : List S61) : (del n F).length ≤ F.length := List.length_filter_le _ _
theorem crash_len {F : List S61} (h : Sorted F) (keep : List Int) : (dCrash F keep).length = F.length := by
  rw [← crash_eq h, refCrash_length]
theorem step_len {F : List S61} (h : Sorted F) (x : S45) : (dStep F x).length ≤ F.length + 1 := by
  rcases step_cases x with k | k | k | k | k | k
  · rw [dstep_K0 k]; unfold dAppend
    split
    · split
      · exact length_put _ _
      · exact Nat.le_succ _
    · exact Nat.le_succ _
  · rw [dstep_K3 k]; unfold dSync
    split
    · exact Nat.le_succ _
    · simp only [length_upd]; exact Nat.le_succ _
  · rw [dstep_K4 k]; unfold dRename
    split
    · exact Nat.le_succ _
    · split
      · exact Nat.le_trans (length_put _ _) (Nat.succ_le_succ (del_len _ _))
      · exact Nat.le_succ _
  · rw [dstep_K5 k]; unfold dRemove
    split
    · exact Nat.le_succ _
    · exact Nat.le_succ_of_le (del_len _ _)
  · rw [dstep_K6 k]; exact Nat.le_succ _
  · rw [dstep_K7 k, crash_len h]; exact Nat.le_succ _
theorem fit_of {w : World} {base : Nat} {ok : Nat → Prop} {d : Nat} {F : List S61} (h : DAt w base ok d F) (hF : F.length < 1073741824) : Fit F := by
  obtain ⟨m, n, L, h, rfl⟩ := h
  refine ⟨hF, fun f hf => ?_⟩
  obtain ⟨x, hx, rfl⟩ := List.mem_map.1 hf
  have := h.files x hx
  exact ⟨this.len, this.lo, this.hi⟩

/-! ### a file that no operation names -/
theorem find_ins_ne {f : S61} {n : List UInt8} (h : key f.f0 ≠ n) : ∀ F, find (ins f F) n = find F n
  | [] => by
    unfold ins find
    rw [List.find?_cons_of_neg (by simpa using h)]
  | y :: r => by
    unfold ins
    split
    · unfold find
      rw [List.find?_cons_of_neg (by simpa using h)]
    · have ih := find_ins_ne h r
      unfold find at ih ⊢
      rw [List.find?_cons, List.find?_cons, ih]
theorem find_del_ne {m n : List UInt8} (h : m ≠ n) (F : List S61) : find (del m F) n = find F n := by
  unfold find del
  rw [List.find?_filter]
  congr 1
  funext g
  by_cases e : key g.f0 = n
  · have : ¬ key g.f0 = m := fun e' => h (e'.symm.trans e)
    simp [e, Ne.symm h]
  · simp [e]
theorem find_put_ne {f : S61} {n : List UInt8} (h : key f.f0 ≠ n) (F : List S61) : find (put f F) n = find F n := by
  unfold put
  rw [find_ins_ne h, find_del_ne h]
theorem find_upd_ne {f : S61} {n : List UInt8} (h : key f.f0 ≠ n) : ∀ F, find (upd f F) n = find F n
  | [] => rfl
  | y :: r => by
    have ih := find_upd_ne h r
    unfold find upd at ih ⊢
    rw [List.map_cons, List.find?_cons, List.find?_cons, ih]
    by_cases e : key y.f0 = key f.f0
    · rw [if_pos e]
      have e1 : (key f.f0 == n) = false := by simpa using h
      have e2 : (key y.f0 == n) = false := by rw [e]; exact e1
      rw [e1, e2]
    · rw [if_neg e]
theorem step_other {F : List S61} {x : S45} {o : ByteArray} (h1 : x.f1 ≠ o) (h2 : x.f2 ≠ o) (h7 : actN x ≠ 7) : find (dStep F x) (key o) = find F (key o) := by
  have k1 : key x.f1 ≠ key o := fun e => h1 (key_inj e)
  have k2 : key x.f2 ≠ key o := fun e => h2 (key_inj e)
  rcases step_cases x with k | k | k | k | k | k
  · rw [dstep_K0 k]; unfold dAppend
    split
    · split
      · exact find_put_ne k1 F
      · rfl
    · rfl
  · rw [dstep_K3 k]; unfold dSync
    split
    · rfl
    · rename_i f hf
      refine find_upd_ne (f := ⟨f.f0, f.f1, f.f1.size⟩) ?_ F
      rw [(find_key hf).2]; exact k1
  · rw [dstep_K4 k]; unfold dRename
    split
    · rfl
    · split
      · exact (find_put_ne k2 _).trans (find_del_ne k1 F)
      · rfl
  · rw [dstep_K5 k]; unfold dRemove
    split
    · rfl
    · exact find_del_ne k1 F
  · rw [dstep_K6 k]
  · exact absurd k h7

/-! ### a second crash -/
theorem cut_zero {f : S61} (h : f.f2 = (f.f1.size : Int)) : cutF f 0 = f := by
  unfold cutF
  have e : (f.f2 + 0).toNat = f.f1.size := by omega
  rw [e]
  have : f.f1.extract 0 f.f1.size = f.f1 := by simp
  rw [this]
  simp
theorem crash_twice {F : List S61} (h : Sorted F) (hf : Fit F) (keep : List Int) : dCrash (dCrash F keep) [] = dCrash F keep := by
  have hs := h.crashd keep
  rw [← crash_eq hs, ← crash_eq h]
  unfold refCrash
  refine List.ext_getElem (by simp) fun i h1 h2 => ?_
  simp only [List.getElem_mapIdx]
  have hi : i < F.length := by simpa using h1
  have hb := hf.files F[i] (List.getElem_mem hi)
  have hn := crashN_bd (keep := keep) (i := i) hb.2.2
  have hz : crashN [] i (cutF F[i] (crashN keep i F[i])) = 0 := by unfold crashN; simp
  rw [hz]
  refine cut_zero ?_
  unfold cutF
  show F[i].f2 + crashN keep i F[i] = ((F[i].f1.extract 0 (F[i].f2 + crashN keep i F[i]).toNat).size : Int)
  rw [size_cut _ (by omega)]
  omega

/-! ### the state's box -/
/-- A box of one value is no row of files. -/
theorem SV.box {w : World} {S : Nat → Prop} {g : Nat} {v : Value} {T : List S61} {A : Option Addr} {n c : Nat} (h : SV w S v T) (hg : w.heap[g]? = some (.cells #[.slice A n c] 39 (0, 0))) : SV w (fun k => S k ∨ k = g) v T := by
  obtain ⟨B, cb, h1, h2, h3, h4⟩ := h
  refine ⟨B, cb, h1, h2, h3, fun ad hA hn hk => ?_⟩
  rcases hk with hk | hk
  · exact h4 ad hA hn hk
  · obtain ⟨ad', e, hc, _⟩ := at_T61 h3 0 (Int.le_refl _) (by omega)
    rw [hA] at e
    cases e
    obtain ⟨b, o, p⟩ := ad
    subst hk
    have hc' : w.cell? ⟨b, o, p⟩ = some (.string (rd_T61 T 0).f0) := hc
    unfold World.cell? at hc'
    simp only [hg] at hc'
    cases p with
    | some q => simp at hc'
    | none =>
      cases o with
      | zero => simp at hc'
      | succ o => simp at hc'
end Go.Proofs.Ytahifafnfjcfpaa.D
