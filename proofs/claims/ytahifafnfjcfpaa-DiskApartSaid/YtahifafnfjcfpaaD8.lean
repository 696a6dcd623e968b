/- A disk with one file, 'f'; the law's awake. Conditions: none. -/
import Derived.Test.YtahifafnfjcfpaaD7
import Derived.Lib.SlBytesConst
namespace Go.Proofs.Ytahifafnfjcfpaa.D
open Go.RowKit Go.Maps Go.Sort Go.Proofs.YtahifafnfjcfpaaW.PrintWords Go.Proofs.YtahifafnfjcfpaaW.PrintLast Go.Proofs.YtahifafnfjcfpaaW.PrintMore
open Go.Proofs.Ytahifafnfjcfpaa.R (S61 k61)

theorem strOfNums_bytesOf (s : ByteArray) : strOfNums (bytesOf s) = s := by
  have h : (strOfNums (bytesOf s)).data.toList = s.data.toList := by
    rw [strOfNums_data]
    unfold bytesOf
    rw [List.map_map]
    conv => rhs; rw [← List.map_id s.data.toList]
    refine List.map_congr_left fun x _ => ?_
    simp
  exact key_inj h
theorem FRow.str {w : World} {base : Nat} {ok : Nat → Prop} {v : Value} {s : ByteArray} (h : FRow w base ok v (bytesOf s)) : ∃ A c, v = .slice A s.size c ∧ s.size ≤ c ∧ (convert 22 9 (.slice A s.size c)).run Try.prog w = .ok (.string s) w := by
  obtain ⟨A, c, hv, hc, hr⟩ := h.reads
  rw [bytesOf_length] at hv hc hr
  refine ⟨A, c, hv, hc, ?_⟩
  have := Kd.C_string (P := Try.prog) (c := c) Try.underlying22 Try.underlying5 Try.underlying9 hr
  rw [strOfNums_bytesOf] at this
  exact this

def nf : ByteArray := ⟨#[102]⟩
theorem nf_ok : nameB nf = true := by decide
theorem find_one {a : S61} (h : a.f0 = nf) : find [a] (key nf) = some a := by
  unfold find
  rw [List.find?_cons_of_pos]
  rw [h]; exact beq_self_eq_true _
theorem app_none (l : List Int) (h : l.length ≤ 65536) : dAppend [] nf l = ([⟨nf, strOfNums l, 0⟩], 0) := by
  have e : (⟨#[]⟩ : ByteArray) ++ strOfNums l = strOfNums l := ByteArray.empty_append
  unfold dAppend
  rw [if_pos nf_ok, if_pos (by show 0 + l.length ≤ 65536; omega)]
  show (put ⟨nf, ⟨#[]⟩ ++ strOfNums l, 0⟩ [], (0 : Int)) = _
  rw [e]
  rfl
theorem app_one (l : List Int) (a : ByteArray) (s : Int) (h : a.size + l.length ≤ 65536) : dAppend [⟨nf, a, s⟩] nf l = ([⟨nf, a ++ strOfNums l, s⟩], 0) := by
  have e : fileOf [⟨nf, a, s⟩] nf = ⟨nf, a, s⟩ := by unfold fileOf; rw [find_one rfl]; rfl
  unfold dAppend
  rw [if_pos nf_ok, e, if_pos h]
  have : del (key nf) [⟨nf, a, s⟩] = [] := by
    unfold del
    rw [List.filter_cons_of_neg (by simp)]
    rfl
  unfold put
  rw [this]
  rfl
theorem app_full (l : List Int) (a : ByteArray) (s : Int) (h : ¬ a.size + l.length ≤ 65536) : dAppend [⟨nf, a, s⟩] nf l = ([⟨nf, a, s⟩], 6) := by
  have e : fileOf [⟨nf, a, s⟩] nf = ⟨nf, a, s⟩ := by unfold fileOf; rw [find_one rfl]; rfl
  unfold dAppend
  rw [if_pos nf_ok, e, if_neg h]
theorem sync_one (a : ByteArray) (s : Int) : dSync [⟨nf, a, s⟩] nf = ([⟨nf, a, a.size⟩], 0) := by
  unfold dSync
  rw [find_one rfl]
  simp [upd]
theorem names_one (a : ByteArray) (s : Int) : namesOf [⟨nf, a, s⟩] = [nf] := by
  unfold namesOf
  rw [List.map_singleton, List.mergeSort_singleton]
  rfl
theorem crash_one (a : ByteArray) (s : Int) (keep : List Int) : dCrash [⟨nf, a, s⟩] keep = [cutF ⟨nf, a, s⟩ (crashN keep 0 ⟨nf, a, s⟩)] := by
  unfold dCrash
  rw [names_one]
  unfold crashLoop
  rw [find_one rfl]
  simp [crashLoop, upd, cutF]
/-- Reading it. -/
theorem read_one {w W : World} {d : Nat} {a : ByteArray} {s : Int} (h : St w W d [⟨nf, a, s⟩]) :
    Calls Try.prog 13 #[ptr d, .string nf] W fun e w' => ∃ v, e = .returned (.tuple #[v, .int .i64 0]) ∧ FRow w' W.heap.size (fun _ => True) v (bytesOf a) ∧ Below W.heap.size W w' := by
  refine (read_calls nf h.disk (by decide)).mono fun e w' hp => ?_
  unfold ReadPost at hp
  rw [find_one rfl] at hp
  exact hp

/-- A row that was laid just now reads as what it holds, whatever marks its block bears. -/
theorem C_fresh (W : World) (l : List Int) (t : TypeId) (fr : Nat × Nat) (hl : l.length ≤ 1073741824) : Kd.C K8 (W.alloc (.cells (l.map fun x => Value.int .u8 x).toArray t fr)) (some ⟨W.heap.size, 0, none⟩) l.length l := by
  refine Kd.C_of_reads (d := (0 : Int)) (h1 := fun _ => rfl) ⟨rfl, by omega, fun _ => ⟨_, rfl, fun j hj => ?_⟩⟩
  rw [add_plain, World.cell?_alloc_mark]
  simp [List.getD_eq_getElem?_getD, hj]

theorem awake_file : cutF ⟨nf, strOfNums [97, 98, 99, 100] ++ strOfNums [120, 121, 122], ((strOfNums [97, 98, 99, 100]).size : Int)⟩ (crashN [2] 0 ⟨nf, strOfNums [97, 98, 99, 100] ++ strOfNums [120, 121, 122], ((strOfNums [97, 98, 99, 100]).size : Int)⟩) = ⟨nf, ⟨#[97, 98, 99, 100, 120, 121]⟩, 6⟩ := by kernel_rfl
theorem wf8 {n : Int} (h : (Lit.int .u8 n).wf = true) : 0 ≤ n ∧ n < 256 := by
  simp [Lit.wf, IntKind.min, IntKind.max, IntKind.signed, IntKind.bits] at h
  omega
theorem wf64 {n : Int} (h : (Lit.int .i64 n).wf = true) : -9223372036854775808 ≤ n ∧ n ≤ 9223372036854775807 := by
  simp [Lit.wf, IntKind.min, IntKind.max, IntKind.signed, IntKind.bits] at h
  omega
def AwakePost (w : World) (e : Ending) (w' : World) : Prop := e = .returned (.bool true) ∧ Below w.heap.size w w'
set_option maxRecDepth 100000 in
set_option maxHeartbeats 400000 in
theorem awake_calls (w : World) : Calls Try.prog 8 #[] w (AwakePost w) := by
  unfold AwakePost
  go_enter Try.func8, Try.ntmps8
  go_wp2_with fail
  refine (new_st w).mono ?_
  rintro e w1 ⟨d, rfl, hS⟩
  have hcv := Lib.run_convert_bytes_const (P := Try.prog) w1 22 5 #[.int .u8 97, .int .u8 98, .int .u8 99, .int .u8 100] 4 4 Try.underlying22 Try.underlying5
  unfold ptr
  go_wp2_with fail
  have h2 := append_st (hS.alloc (.cells #[.int .u8 97, .int .u8 98, .int .u8 99, .int .u8 100] 5 (4, 5))) nf (some ⟨w1.heap.size, 0, none⟩) 4 [97, 98, 99, 100] (by decide) (fun W hW => Kd.C_below (C_fresh w1 [97, 98, 99, 100] 5 (4, 5) (by decide)) hW) (by decide) (by decide) (by decide)
  rw [app_none _ (by decide)] at h2
  refine h2.mono ?_
  rintro e w2 ⟨rfl, hS2⟩
  clear h2 hcv
  go_wp2_with fail
  have h3 := sync_st hS2 nf (by decide)
  rw [sync_one] at h3
  refine h3.mono ?_
  rintro e w3 ⟨rfl, hS3⟩
  clear h3
  have hcv := Lib.run_convert_bytes_const (P := Try.prog) w3 22 5 #[.int .u8 120, .int .u8 121, .int .u8 122] 3 3 Try.underlying22 Try.underlying5
  go_wp2_with fail
  have h4 := append_st (hS3.alloc (.cells #[.int .u8 120, .int .u8 121, .int .u8 122] 5 (3, 4))) nf (some ⟨w3.heap.size, 0, none⟩) 3 [120, 121, 122] (by decide) (fun W hW => Kd.C_below (C_fresh w3 [120, 121, 122] 5 (3, 4) (by decide)) hW) (by decide) (by decide) (by decide)
  rw [app_one _ _ _ (by decide)] at h4
  refine h4.mono ?_
  rintro e w4 ⟨rfl, hS4⟩
  clear h4 hcv
  go_wp2_with fail
  have h5 := crash_new hS4 [2] 3 (by decide) (by decide) (by decide) 1
  rw [crash_one, awake_file] at h5
  refine h5.mono ?_
  rintro e w5 ⟨rfl, hS5⟩
  clear h5
  go_wp2_with fail
  refine (read_one hS5).mono ?_
  rintro e w6 ⟨v, rfl, hv, hb6⟩
  obtain ⟨A, c, rfl, _, hstr⟩ := hv.str
  have hS6 := hS5.then_ hb6
  have hstr6 : (convert 22 9 (.slice A 6 c)).run Try.prog w6 = .ok (.string ⟨#[97, 98, 99, 100, 120, 121]⟩) w6 := hstr
  clear hv hstr
  go_wp2_with fail
  refine (names_calls hS6.disk (by decide)).mono ?_
  rintro e w7 ⟨v, rfl, hv, hb7⟩
  rw [names_one] at hv
  obtain ⟨A1, c1, hv1⟩ := Kd.R_slice hv
  rw [hv1]
  clear hv hv1
  go_wp2
  go_ret
  exact ⟨rfl, (hS6.then_ hb7).below⟩
end Go.Proofs.Ytahifafnfjcfpaa.D
