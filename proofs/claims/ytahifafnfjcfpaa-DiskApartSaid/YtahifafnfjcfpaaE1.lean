/- The reference's states in memory; At, Name, Without, Append. Conditions: as each theorem says. -/
import Derived.Test.YtahifafnfjcfpaaE0
namespace Go.Proofs.Ytahifafnfjcfpaa.D
open Go.RowKit Go.Maps Go.Sort Go.Proofs.YtahifafnfjcfpaaW.PrintWords Go.Proofs.YtahifafnfjcfpaaW.PrintLast Go.Proofs.YtahifafnfjcfpaaW.PrintMore
open Go.Proofs.Ytahifafnfjcfpaa.R (S61 k61 k61_mkM k61_open k61_mk at_T61 rd_T61 info61 brokerref36_Without.calls brokerref36_At.calls brokerref01_Name.calls)

/-- A state of the reference, outside the blocks S. -/
def SV (w : World) (S : Nat → Prop) (v : Value) (T : List S61) : Prop := ∃ A c, v = .slice A T.length c ∧ T.length ≤ c ∧ Kd.C k61 w A T.length T ∧ ∀ ad, A = some ad → 0 < T.length → ¬ S ad.block
theorem k61_flat {W W' : World} {x : S61} {cs : List Value} (h : k61.K W x cs) : k61.K W' x cs := by
  obtain rfl := k61_open h
  exact k61_mk _ _
/-- What the reference asks of a state. -/
structure Fit (T : List S61) : Prop where
  len : T.length < 1073741824
  files : ∀ f ∈ T, f.f1.size ≤ 65536 ∧ 0 ≤ f.f2 ∧ f.f2 ≤ (f.f1.size : Int)
section
variable {w w' : World} {S S' : Nat → Prop} {v : Value} {T : List S61}
theorem SV.below (h : SV w S v T) (hb : Below w.heap.size w w') : SV w' S v T := by
  obtain ⟨A, c, h1, h2, h3, h4⟩ := h
  exact ⟨A, c, h1, h2, Kd.C_below h3 hb, h4⟩
theorem SV.lt {A : Option Addr} (h : Kd.C k61 w A T.length T) : ∀ ad, A = some ad → 0 < T.length → ad.block < w.heap.size := by
  intro ad hA hn
  obtain ⟨ad', e, hc, _⟩ := at_T61 h 0 (Int.le_refl _) (by omega)
  rw [hA] at e
  cases e
  have := World.block_lt_of_cell? w _ hc
  rw [add_block] at this
  exact this
theorem SV.kept (h : SV w S v T) (hk : Kept w w' S) (hs : ∀ k, S' k → S k ∨ w.heap.size ≤ k) : SV w' S' v T := by
  obtain ⟨A, c, h1, h2, h3, h4⟩ := h
  refine ⟨A, c, h1, h2, Kd.C_foot_neS (fun h => k61_flat h) h3 h4 w' hk, fun ad hA hn h => ?_⟩
  rcases hs _ h with h | h
  · exact h4 ad hA hn h
  · have := SV.lt h3 ad hA hn
    omega
theorem SV.of_R {base : Nat} (h : Kd.R k61 61 w base (fun _ => True) v T) (hS : ∀ k, S k → k < base) : SV w S v T := by
  obtain ⟨A, c, e, h2, h3⟩ := Kd.R_reads h
  refine ⟨A, c, e, h2, h3, fun ad hA hn hs => ?_⟩
  have := Kd.R_base h ad.block (by rw [e, hA]; rfl)
  have := hS _ hs
  omega
end

/-! ### small functions -/
theorem name_ref (s : ByteArray) (hs : s.size < 1073741824) (w : World) : Calls Try.prog 31 #[.string s] w fun e w' => e = .returned (.bool (nameB s)) ∧ Below w.heap.size w w' :=
  (brokerref01_Name.calls (s.size + 2) s (nameB s) w (name_f s hs)).mono fun _ _ ⟨h1, h2⟩ => ⟨h1, h2.below⟩
theorem at_ref (T : List S61) (A : Option Addr) (c : Nat) (s : ByteArray) (w : World) (hr : Kd.C k61 w A T.length T) (hc : T.length ≤ c) (hT : T.length < 1073741824) :
    Calls Try.prog 32 #[.agg #[.slice A T.length c], .string s] w fun e w' => e = .returned (.int .i64 (atI T s)) ∧ Below w.heap.size w w' :=
  brokerref36_At.calls (T.length + 1) A c T s (atI T s) w hr hc (at_f T s hT)
theorem at_case (T : List S61) (s : ByteArray) : (atI T s = -1 ∧ find T (key s) = none) ∨ ∃ i, ∃ h : i < T.length, atI T s = (i : Int) ∧ find T (key s) = some T[i] ∧ key T[i].f0 = key s := by
  unfold atI find
  cases hf : T.findIdx? (fun g => key g.f0 == key s) with
  | none =>
    refine .inl ⟨rfl, ?_⟩
    rw [List.findIdx?_eq_none_iff] at hf
    rw [List.find?_eq_none]
    intro x hx
    have := hf x hx
    simpa using this
  | some i =>
    rw [List.findIdx?_eq_some_iff_getElem] at hf
    obtain ⟨h, h1, h2⟩ := hf
    refine .inr ⟨i, h, rfl, ?_, by simpa using h1⟩
    rw [List.find?_eq_some_iff_getElem]
    exact ⟨h1, i, h, rfl, fun j hj => by simpa using h2 j hj⟩

/-- What a function of the reference that answers a number leaves. -/
def RefPost (w : World) (S : Nat → Prop) (r : List S61 × Int) (e : Ending) (w' : World) : Prop := ∃ v, e = .returned (.tuple #[.agg #[v], .int .i64 r.2]) ∧ SV w' S v r.1 ∧ Below w.heap.size w w'
def refAppend (T : List S61) (s : ByteArray) (l : List Int) : List S61 × Int :=
  if nameB s = true then
    if ((find T (key s)).getD ⟨s, ⟨#[]⟩, 0⟩).f1.size + l.length ≤ 65536 then (refWith T ⟨((find T (key s)).getD ⟨s, ⟨#[]⟩, 0⟩).f0, ((find T (key s)).getD ⟨s, ⟨#[]⟩, 0⟩).f1 ++ strOfNums l, ((find T (key s)).getD ⟨s, ⟨#[]⟩, 0⟩).f2⟩, 0) else (T, 6)
  else (T, 11)

theorem boxes2 (w : World) (o1 o2 : Obj) : ((w.alloc o1).alloc o2).heap[w.heap.size]? = some o1 ∧ ((w.alloc o1).alloc o2).heap[w.heap.size + 1]? = some o2 ∧ Below w.heap.size w ((w.alloc o1).alloc o2) := by
  refine ⟨?_, ?_, below_alloc (below_alloc (Below.refl _ _) _) _⟩
  · rw [Below.heap_alloc _ _ _ (by simp)]; exact heap_alloc_new w o1
  · have := heap_alloc_new (w.alloc o1) o2
    simpa using this
/-- The end of a function whose state lies in its result's cell. -/
theorem ref_end {w W : World} {S : Nat → Prop} {g : Nat} {v : Value} {T : List S61} (hb : Below w.heap.size w W) (hg : w.heap.size ≤ g) (hv : SV W (fun k => S k ∨ k = g) v T) :
    SV (W.setCell ⟨g, 0, none⟩ v) S v T ∧ Below w.heap.size w (W.setCell ⟨g, 0, none⟩ v) := by
  refine ⟨?_, hb.setCell hg _⟩
  exact hv.kept ((Kept.refl W _).setCell (.inl (.inr rfl)) v) (fun k hk => .inl (.inl hk))
theorem sv_old {w W : World} {S : Nat → Prop} {g : Nat} {A : Option Addr} {c : Nat} {T : List S61} (hr : Kd.C k61 w A T.length T) (hc : T.length ≤ c) (hA : ∀ ad, A = some ad → 0 < T.length → ¬ S ad.block) (hb : Below w.heap.size w W) (hg : w.heap.size ≤ g) : SV W (fun k => S k ∨ k = g) (.slice A T.length c) T := by
  refine ⟨A, c, rfl, hc, Kd.C_below hr hb, fun ad e hn h => ?_⟩
  rcases h with h | h
  · exact hA ad e hn h
  · have := SV.lt hr ad e hn
    omega

set_option maxRecDepth 100000 in
set_option maxHeartbeats 400000 in
theorem append_ref (T : List S61) (A : Option Addr) (c : Nat) (s : ByteArray) (B : Option Addr) (cb : Nat) (l : List Int) (w : World) (S : Nat → Prop) (hr : Kd.C k61 w A T.length T) (hc : T.length ≤ c) (hA : ∀ ad, A = some ad → 0 < T.length → ¬ S ad.block) (hS : ∀ k, S k → k < w.heap.size)
    (hT : Fit T) (hs : s.size < 1073741824) (hl : Kd.C K8 w B l.length l) (hlc : l.length ≤ 1073741824) :
    Calls Try.prog 23 #[.agg #[.slice A T.length c], .string s, .slice B l.length cb] w (RefPost w S (refAppend T s l)) := by
  have hu39 := Try.underlying39
  have hu61 := Try.underlying61
  have HR := Aside0.mk hr
  have HA := Aside0.mk hA
  have HL := Aside0.mk hl
  clear hl hr hA
  go_enter Try.func23, Try.ntmps23
  go_wp2_with fail
  refine (name_ref s hs _).mono ?_
  rintro e w1 ⟨rfl, hb1⟩
  obtain ⟨x3, x6, hb0⟩ := boxes2 w (.cells #[.slice A T.length c] 39) (.cells #[.slice none 0 0] 39)
  replace x3 := (hb1.block w.heap.size (by simp only [World.size_alloc]; omega)).trans x3
  replace x6 := (hb1.block (w.heap.size + 1) (by simp only [World.size_alloc]; omega)).trans x6
  have hb2 := below_step hb0 hb1
  have hg6 : w.heap.size ≤ w.heap.size + 1 := by omega
  have hne : w.heap.size ≠ w.heap.size + 1 := by omega
  clear hb1 hb0
  generalize w.heap.size + 1 = g6 at *
  cases hn : nameB s with
  | false =>
    have hv : Aside0 (refAppend T s l = (T, 11)) := ⟨by unfold refAppend; rw [hn]; rfl⟩
    have hc3 := blk_cell x3 0
    have hf6 := blk_frozen x6 0
    have hc6 := blk_cell x6 0
    have X6 := Aside0.mk x6
    clear x3 x6
    go_wp2
    refine bodyPost_ret (results_ct rfl _ _ g6 39 #[.slice A T.length c] (0, 0) _ rfl (by refine blk_put (cs := #[.slice none 0 0]) ?_ 0 _ rfl; exact X6.out) Try.underlying39 rfl (by kernel_rfl)) rfl ?_
    unfold RefPost
    rw [hv.out]
    exact ⟨_, rfl, ref_end hb2 hg6 (sv_old HR.out hc HA.out hb2 hg6)⟩
  | true =>
    have hc3 : ∀ o, (w1.alloc o).cell? ⟨w.heap.size, 0, none⟩ = some (.slice A T.length c) := fun o => pw_cell_below (below_alloc (Below.refl _ _) o) (blk_cell x3 0)
    go_wp2_with fail
    have hb3 := hb2.alloc hb2.size (.cells #[.string s, .string ⟨#[]⟩, .int .i64 0] 61)
    refine (at_ref T A c s _ (Kd.C_below HR.out hb3) hc hT.len).mono ?_
    rintro e w2 ⟨rfl, hb4⟩
    have x8 := heap_alloc_new w1 (.cells #[.string s, .string ⟨#[]⟩, .int .i64 0] 61)
    replace x8 := (hb4.block w1.heap.size (by simp only [World.size_alloc]; omega)).trans x8
    have hg68 : g6 < w1.heap.size := blk_lt x6
    have hg38 : w.heap.size < w1.heap.size := blk_lt x3
    replace x3 := (hb4.block w.heap.size (by simp only [World.size_alloc]; omega)).trans ((Below.heap_alloc _ _ _ hg38).trans x3)
    replace x6 := (hb4.block g6 (by simp only [World.size_alloc]; omega)).trans ((Below.heap_alloc _ _ _ hg68).trans x6)
    have hb5 := below_step hb3 hb4
    have hg8 : w.heap.size ≤ w1.heap.size := hb2.size
    clear hc3 hb4 hb3 hb2
    generalize w1.heap.size = g8 at *
    have hc3 := blk_cell x3 0
    have hc6 := blk_cell x6 0
    have hf6 := blk_frozen x6 0
    have hc80 := blk_cell x8 0
    have hc81 := blk_cell x8 1
    have hc82 := blk_cell x8 2
    have hf8 := fun i => blk_frozen x8 i
    have hlc' : ((l.length : Nat) : Int) ≤ 1073741824 := by omega
    rcases at_case T s with ⟨hi, hfd⟩ | ⟨i, hi, hia, hfd, hks⟩
    · rw [hi]
      by_cases hfit : 65536 < l.length
      · have hd1 : decide ((65536 : Int) < (l.length : Int)) = true := by simp; omega
        have hv : Aside0 (refAppend T s l = (T, 6)) := ⟨by unfold refAppend; rw [if_pos hn, hfd, if_neg (by show ¬ (0 + l.length ≤ 65536); omega)]⟩
        have X6 := Aside0.mk x6
        clear x3 x6 x8
        go_wp2
        refine bodyPost_ret (results_ct rfl _ _ g6 39 #[.slice A T.length c] (0, 0) _ rfl (by refine blk_put (cs := #[.slice none 0 0]) ?_ 0 _ rfl; exact X6.out) Try.underlying39 rfl (by kernel_rfl)) rfl ?_
        unfold RefPost
        rw [hv.out]
        exact ⟨_, rfl, ref_end hb5 hg6 (sv_old HR.out hc HA.out hb5 hg6)⟩
      · have hd1 : decide ((65536 : Int) < (l.length : Int)) = false := by simp; omega
        have hv : Aside0 (refAppend T s l = (refWith T ⟨s, strOfNums l, 0⟩, 0)) := ⟨by
          have e : (⟨#[]⟩ : ByteArray) ++ strOfNums l = strOfNums l := ByteArray.empty_append
          unfold refAppend; rw [if_pos hn, hfd, if_pos (by show 0 + l.length ≤ 65536; omega)]
          show (refWith T ⟨s, ⟨#[]⟩ ++ strOfNums l, 0⟩, (0 : Int)) = _
          rw [e]⟩
        have hcv := Kd.C_string (P := Try.prog) (c := cb) Try.underlying22 Try.underlying5 Try.underlying9 (Kd.C_below HL.out hb5)
        have hsz : ¬ 9223372036854775807 < (strOfNums l).size := by rw [strOfNums_size]; omega
        have hadd : (⟨#[]⟩ : ByteArray) ++ strOfNums l = strOfNums l := ByteArray.empty_append
        generalize strOfNums l = q at *
        have X3 := Aside0.mk x3
        have X6 := Aside0.mk x6
        have X8 := Aside0.mk x8
        clear x3 x6 x8
        go_wp2_with fail
        have hbW : Below w.heap.size w (w2.setCell ⟨g8, 1, none⟩ (.string q)) := hb5.setCell hg8 _
        have hg6W : g6 < (w2.setCell ⟨g8, 1, none⟩ (.string q)).heap.size := by simp only [World.size_setCell]; exact blk_lt X6.out
        have x6W : (w2.setCell ⟨g8, 1, none⟩ (.string q)).heap[g6]? = some (.cells #[.slice none 0 0] 39 (0, 0)) := (Below.heap_setCell _ _ _ _ (by show g6 ≠ g8; omega)).trans X6.out
        refine (with_calls T A c ⟨s, q, 0⟩ _ (Kd.C_below HR.out hbW) hc hT.len).mono ?_
        rintro e w3 ⟨v, rfl, hvr, hb6⟩
        have hend := SV.of_R (S := fun k => S k ∨ k = g6) hvr (fun k hk => hk.elim (fun hk => Nat.lt_of_lt_of_le (hS k hk) hbW.size) (fun hk => hk ▸ hg6W))
        have x6n := (hb6.block g6 hg6W).trans x6W
        have hbn := below_step hbW hb6
        obtain ⟨Ao, co, hAo⟩ := Kd.R_slice hvr
        have hc6n := blk_cell x6n 0
        have hf6n := blk_frozen x6n 0
        rw [hAo] at hend ⊢
        have HE := Aside0.mk hend
        have X6N := Aside0.mk x6n
        clear hend x6n hvr hAo hb6 hbW hg6W x6W
        obtain ⟨R, hRr⟩ : ∃ R, R = refWith T ⟨s, q, 0⟩ := ⟨_, rfl⟩
        rw [← hRr] at HE hv ⊢
        clear hRr
        go_wp2
        refine bodyPost_ret (results_ct rfl _ _ g6 39 #[.slice Ao R.length co] (0, 0) _ rfl (by refine blk_put (cs := #[.slice none 0 0]) ?_ 0 _ rfl; exact X6N.out) Try.underlying39 rfl (by kernel_rfl)) rfl ?_
        unfold RefPost
        rw [hv.out]
        exact ⟨_, rfl, ref_end hbn hg6 HE.out⟩
    · obtain ⟨ad, ead, hq0, hq1, hq2⟩ := at_T61 (Kd.C_below HR.out hb5) (i : Int) (by omega) (by omega)
      rw [hia]
      rw [rd61 hi, Int.toNat_natCast] at hq0 hq1 hq2
      have hff := (hT.files T[i] (List.getElem_mem hi)).1
      subst ead
      generalize hfe : T[i] = f at *
      have hil : i < 1073741824 := Nat.lt_trans hi hT.len
      have hd0 : decide ((0 : Int) ≤ (i : Int)) = true := by simp
      have hil2 : (i : Int) < (T.length : Int) := by omega
      by_cases hfit : 65536 < f.f1.size + l.length
      · have hd1 : decide ((65536 : Int) < (f.f1.size : Int) + (l.length : Int)) = true := by simp; omega
        have hv : Aside0 (refAppend T s l = (T, 6)) := ⟨by unfold refAppend; rw [if_pos hn, hfd, if_neg (by show ¬ (f.f1.size + l.length ≤ 65536); omega)]⟩
        have X6 := Aside0.mk x6
        clear x3 x6 x8
        go_wp2
        have hbW : Below w.heap.size w (((w2.setCell ⟨g8, 0, none⟩ (.string f.f0)).setCell ⟨g8, 1, none⟩ (.string f.f1)).setCell ⟨g8, 2, none⟩ (.int .i64 f.f2)) := ((hb5.setCell hg8 _).setCell hg8 _).setCell hg8 _
        refine bodyPost_ret (results_ct rfl _ _ g6 39 #[.slice (some ad) T.length c] (0, 0) _ rfl (by refine blk_put (cs := #[.slice none 0 0]) ?_ 0 _ rfl; exact (Below.heap_setCell _ _ _ _ (by show g6 ≠ g8; omega)).trans ((Below.heap_setCell _ _ _ _ (by show g6 ≠ g8; omega)).trans ((Below.heap_setCell _ _ _ _ (by show g6 ≠ g8; omega)).trans X6.out))) Try.underlying39 rfl (by kernel_rfl)) rfl ?_
        unfold RefPost
        rw [hv.out]
        exact ⟨_, rfl, ref_end hbW hg6 (sv_old HR.out hc HA.out hbW hg6)⟩
      · have hd1 : decide ((65536 : Int) < (f.f1.size : Int) + (l.length : Int)) = false := by simp; omega
        have hv : Aside0 (refAppend T s l = (refWith T ⟨f.f0, f.f1 ++ strOfNums l, f.f2⟩, 0)) := ⟨by
          unfold refAppend; rw [if_pos hn, hfd, if_pos (by show f.f1.size + l.length ≤ 65536; omega)]
          rfl⟩
        have hsz : ¬ 9223372036854775807 < f.f1.size + (strOfNums l).size := by rw [strOfNums_size]; omega
        have hb7 : Below w.heap.size w (((w2.setCell ⟨g8, 0, none⟩ (.string f.f0)).setCell ⟨g8, 1, none⟩ (.string f.f1)).setCell ⟨g8, 2, none⟩ (.int .i64 f.f2)) := ((hb5.setCell hg8 _).setCell hg8 _).setCell hg8 _
        have hcv := Kd.C_string (P := Try.prog) (c := cb) Try.underlying22 Try.underlying5 Try.underlying9 (Kd.C_below HL.out hb7)
        have hx8 : (((w2.setCell ⟨g8, 0, none⟩ (.string f.f0)).setCell ⟨g8, 1, none⟩ (.string f.f1)).setCell ⟨g8, 2, none⟩ (.int .i64 f.f2)).heap[g8]? = some (.cells #[.string f.f0, .string f.f1, .int .i64 f.f2] 61 (0, 0)) := by
          rw [blk_set (blk_set (blk_set x8 _ _) _ _)]; simp
        have hx3 : (((w2.setCell ⟨g8, 0, none⟩ (.string f.f0)).setCell ⟨g8, 1, none⟩ (.string f.f1)).setCell ⟨g8, 2, none⟩ (.int .i64 f.f2)).heap[w.heap.size]? = some (.cells #[.slice (some ad) T.length c] 39 (0, 0)) := blk_far (blk_far (blk_far x3 (by show w.heap.size ≠ g8; omega) _) (by show w.heap.size ≠ g8; omega) _) (by show w.heap.size ≠ g8; omega) _
        have hx6 : (((w2.setCell ⟨g8, 0, none⟩ (.string f.f0)).setCell ⟨g8, 1, none⟩ (.string f.f1)).setCell ⟨g8, 2, none⟩ (.int .i64 f.f2)).heap[g6]? = some (.cells #[.slice none 0 0] 39 (0, 0)) := blk_far (blk_far (blk_far x6 (by show g6 ≠ g8; omega) _) (by show g6 ≠ g8; omega) _) (by show g6 ≠ g8; omega) _
        generalize strOfNums l = q at *
        have HCV := Aside0.mk hcv
        have HX8 := Aside0.mk hx8
        have HX3 := Aside0.mk hx3
        have HX6 := Aside0.mk hx6
        have HB7 := Aside0.mk hb7
        clear hcv hx8 hx3 hx6 hb7 x3 x6 x8
        go_wp2_with fail
        generalize ((w2.setCell ⟨g8, 0, none⟩ (.string f.f0)).setCell ⟨g8, 1, none⟩ (.string f.f1)).setCell ⟨g8, 2, none⟩ (.int .i64 f.f2) = w5 at *
        clear hc80 hc81 hc82 hf8 hf6 hc6 hc3 hb5
        have hcv := HCV.out
        have X6 := Aside0.mk HX6.out
        have hc3 := blk_cell HX3.out 0
        have hc6 := blk_cell HX6.out 0
        have hf6 := blk_frozen HX6.out 0
        have hc80 := blk_cell HX8.out 0
        have hc81 := blk_cell HX8.out 1
        have hc82 := blk_cell HX8.out 2
        have hf8 := fun i => blk_frozen HX8.out i
        have hb5 := HB7.out
        go_simp
        go_wp2_with fail
        have hbW : Below w.heap.size w (w5.setCell ⟨g8, 1, none⟩ (.string (f.f1 ++ q))) := hb5.setCell hg8 _
        have hg6W : g6 < (w5.setCell ⟨g8, 1, none⟩ (.string (f.f1 ++ q))).heap.size := by simp only [World.size_setCell]; exact blk_lt X6.out
        have x6W : (w5.setCell ⟨g8, 1, none⟩ (.string (f.f1 ++ q))).heap[g6]? = some (.cells #[.slice none 0 0] 39 (0, 0)) := (Below.heap_setCell _ _ _ _ (by show g6 ≠ g8; omega)).trans X6.out
        refine (with_calls T (some ad) c ⟨f.f0, f.f1 ++ q, f.f2⟩ _ (Kd.C_below HR.out hbW) hc hT.len).mono ?_
        rintro e w3 ⟨v, rfl, hvr, hb6⟩
        have hend := SV.of_R (S := fun k => S k ∨ k = g6) hvr (fun k hk => hk.elim (fun hk => Nat.lt_of_lt_of_le (hS k hk) hbW.size) (fun hk => hk ▸ hg6W))
        have x6n := (hb6.block g6 hg6W).trans x6W
        have hbn := below_step hbW hb6
        obtain ⟨Ao, co, hAo⟩ := Kd.R_slice hvr
        have hc6n := blk_cell x6n 0
        have hf6n := blk_frozen x6n 0
        rw [hAo] at hend ⊢
        have HE := Aside0.mk hend
        have X6N := Aside0.mk x6n
        clear hend x6n hvr hAo hb6 hbW hg6W x6W
        obtain ⟨R, hRr⟩ : ∃ R, R = refWith T ⟨f.f0, f.f1 ++ q, f.f2⟩ := ⟨_, rfl⟩
        rw [← hRr] at HE hv ⊢
        clear hRr
        go_wp2
        refine bodyPost_ret (results_ct rfl _ _ g6 39 #[.slice Ao R.length co] (0, 0) _ rfl (by refine blk_put (cs := #[.slice none 0 0]) ?_ 0 _ rfl; exact X6N.out) Try.underlying39 rfl (by kernel_rfl)) rfl ?_
        unfold RefPost
        rw [hv.out]
        exact ⟨_, rfl, ref_end hbn hg6 HE.out⟩
end Go.Proofs.Ytahifafnfjcfpaa.D
