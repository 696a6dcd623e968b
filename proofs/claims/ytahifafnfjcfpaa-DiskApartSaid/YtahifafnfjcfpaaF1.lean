/- The laws' argument: a list of operations. Conditions: as each theorem says. -/
import Derived.Test.YtahifafnfjcfpaaF0
import Derived.Test.YtahifafnfjcfpaaO
namespace Go.Proofs.Ytahifafnfjcfpaa.D
open Go.RowKit Go.Maps Go.Sort Go.Proofs.YtahifafnfjcfpaaW.PrintWords Go.Proofs.YtahifafnfjcfpaaW.PrintLast Go.Proofs.YtahifafnfjcfpaaW.PrintMore
open Go.Proofs.Ytahifafnfjcfpaa.R (S61 S45 k61 k45 k61_mkM k61_open k61_mk at_T61 rd_T61 at_T45 rd_T45 info61)

/-- What a reading tells of an operation. -/
structure ActFit (x : S45) : Prop where
  b0 : 0 ≤ x.f0 ∧ x.f0 < 256
  b3 : ∀ y ∈ x.f3, 0 ≤ y ∧ y < 256
  b4 : ∀ y ∈ x.f4, -9223372036854775808 ≤ y ∧ y ≤ 9223372036854775807
theorem opens_bytes : Opens Try.prog (Kd.slice 5 (Kd.int .u8)) 22 (fun xs => ∀ x ∈ xs, (Lit.int .u8 x).wf = true) := .slice Try.underlying22 (by kernel_rfl) (.int Try.underlying5 (by kernel_rfl))
theorem opens_ints : Opens Try.prog (Kd.slice 3 (Kd.int .i64)) 30 (fun xs => ∀ x ∈ xs, (Lit.int .i64 x).wf = true) := .slice Try.underlying30 (by kernel_rfl) (.int Try.underlying3 (by kernel_rfl))
theorem opens_act : Opens Try.prog k45 45 ActFit := by
  refine Opens.mono (Opens.iso (Opens.struct Try.underlying45 (by kernel_rfl) (.cons (.int Try.underlying5 (by kernel_rfl)) rfl (.cons (.string Try.underlying9 (by kernel_rfl)) rfl (.cons (.string Try.underlying9 (by kernel_rfl)) rfl (.cons opens_bytes rfl (.one opens_ints rfl)))))) (fun x : S45 => (x.f0, x.f1, x.f2, x.f3, x.f4)) (fun y => ⟨y.1, y.2.1, y.2.2.1, y.2.2.2.1, y.2.2.2.2⟩) (fun _ => rfl)) ?_
  rintro x ⟨h0, _, _, h3, h4⟩
  exact ⟨wf8 h0, fun y hy => wf8 (h3 y hy), fun y hy => wf64 (h4 y hy)⟩
theorem opens_acts : Opens Try.prog (Kd.slice 45 k45) 35 (fun xs => ∀ x ∈ xs, ActFit x) := .slice Try.underlying35 (by kernel_rfl) opens_act

theorem short_calls (l : List S45) (A : Option Addr) (c : Nat) (w : World) (hr : Kd.C k45 w A l.length l) (hc : l.length ≤ c) : Calls Try.prog 14 #[.slice A l.length c] w fun e w' => e = .returned (.bool (shortB l)) ∧ Below w.heap.size w w' :=
  (R.brokerlaw36_short.calls (l.length + 1) A c l (shortB l) w hr hc (short_f l)).mono fun _ _ ⟨h1, h2⟩ => ⟨h1, h2.below⟩
theorem refnew_calls (w : World) (S : Nat → Prop) (hS : ∀ k, S k → k < w.heap.size) : Calls Try.prog 15 #[] w fun e w' => ∃ A c, e = .returned (.agg #[.slice A 0 c]) ∧ SV w' S (.slice A 0 c) [] ∧ Below w.heap.size w w' := by
  refine (R.brokerref36_New.calls [] w rfl).mono ?_
  rintro e w' ⟨v, rfl, h, hb⟩
  obtain ⟨A, c, hv⟩ := Kd.R_slice h
  rw [hv] at h ⊢
  exact ⟨A, c, rfl, SV.of_R h hS, hb⟩

/-- What stands at the loop's head: a disk, its state in box g. -/
structure At (w0 w : World) (S : Nat → Prop) (d g : Nat) (v : Value) (F : List S61) (k : Nat) : Prop where
  pre : Pre w0 w S d F
  state : SV w S v F
  box : w.heap[g]? = some (.cells #[v] 39 (0, 0))
  out : ¬ S g
  ge : w0.heap.size ≤ g
  sorted : Sorted F
  len : F.length ≤ k

theorem At.below {w0 w w' : World} {S : Nat → Prop} {d g : Nat} {v : Value} {F : List S61} {k : Nat} (h : At w0 w S d g v F k) (hb : Below w.heap.size w w') : At w0 w' S d g v F k :=
  ⟨h.pre.then_ hb, h.state.below hb, (hb.block g (blk_lt h.box)).trans h.box, h.out, h.ge, h.sorted, h.len⟩
/-- An operation of the list, as it lies at w. -/
def ActsAt (w0 : World) (A : Option Addr) (x : S45) (k : Nat) : Prop := ∃ ad A3 c3 A4 c4, A = some ad ∧ ActOk w0 x A3 c3 A4 c4 ∧
  ∀ W, Below w0.heap.size w0 W → W.cell? (ad.add (k * 5)) = some (.int .u8 x.f0) ∧ W.cell? ⟨(ad.add (k * 5)).block, (ad.add (k * 5)).off + 1, none⟩ = some (.string x.f1) ∧ W.cell? ⟨(ad.add (k * 5)).block, (ad.add (k * 5)).off + 2, none⟩ = some (.string x.f2) ∧
    W.cell? ⟨(ad.add (k * 5)).block, (ad.add (k * 5)).off + 3, none⟩ = some (.slice A3 x.f3.length c3) ∧ W.cell? ⟨(ad.add (k * 5)).block, (ad.add (k * 5)).off + 4, none⟩ = some (.slice A4 x.f4.length c4)
theorem acts_at {w0 : World} {A : Option Addr} {l : List S45} (hr : Kd.C k45 w0 A l.length l) (hl : ∀ x ∈ l, ActFit x) (hs : shortB l = true) (k : Nat) (hk : k < l.length) : ActsAt w0 A l[k] k := by
  obtain ⟨ad, A3, c3, A4, c4, e, h0, h1, h2, h3, h4, l3, g3, l4, g4⟩ := at_T45 hr (k : Int) (by omega) (by omega)
  rw [rd45 hk, Int.toNat_natCast] at h0 h1 h2 h3 h4
  rw [rd45 hk] at l3 g3 l4 g4
  have hf := hl l[k] (List.getElem_mem hk)
  refine ⟨ad, A3, c3, A4, c4, e, ⟨g3, g4, l3, l4, hf.b0, hf.b3, hf.b4, ?_⟩, fun W hW => ⟨pw_cell_below hW h0, pw_cell_below hW h1, pw_cell_below hW h2, pw_cell_below hW h3, pw_cell_below hW h4⟩⟩
  unfold shortB at hs
  rw [Bool.and_eq_true, List.all_eq_true] at hs
  exact hs.2 _ (List.getElem_mem hk)
theorem short_len {l : List S45} (hs : shortB l = true) : l.length ≤ 40 := by
  unfold shortB at hs
  rw [Bool.and_eq_true, decide_eq_true_eq] at hs
  exact hs.1

/-- Behind an operation: the disk, and its state in a box of its own beside the elder one. -/
structure Aft (w1 w : World) (S : Nat → Prop) (d g : Nat) (v0 : Value) (gt : Nat) (v : Value) (F : List S61) : Prop where
  pre : Pre w1 w S d F
  state : SV w S v F
  box : w.heap[gt]? = some (.cells #[v] 39 (0, 0))
  out : ¬ S gt
  old : w.heap[g]? = some (.cells #[v0] 39 (0, 0))
  outg : ¬ S g
  ne : g ≠ gt
theorem Aft.next {w1 w w' : World} {S : Nat → Prop} {d g gt : Nat} {A0 : Option Addr} {n0 c0 : Nat} {v : Value} {F : List S61} {k : Nat} (h : Aft w1 w S d g (.slice A0 n0 c0) gt v F) (hb : Below w.heap.size w w') (hg : w1.heap.size ≤ g) (hs : Sorted F) (hl : F.length ≤ k) : At w1 (w'.setCell ⟨g, 0, none⟩ v) S d g v F k := by
  have hb' := (hb.block g (blk_lt h.old)).trans h.old
  refine ⟨(h.pre.then_ hb).far h.outg hg 0 v, ?_, ?_, h.outg, hg, hs, hl⟩
  · exact (SV.box (h.state.below hb) hb').kept ((Kept.refl w' _).setCell (.inl (.inr rfl)) v) (fun _ hh => .inl (.inl hh))
  · rw [blk_set hb']; simp
def StepPost (w1 wr W : World) (d g : Nat) (v0 : Value) (F : List S61) (e : Ending) (w' : World) : Prop := ∃ A c S, e = .returned (.tuple #[.agg #[.slice A F.length c], .bool true]) ∧
  Aft w1 (w'.alloc (.cells #[.slice A F.length c] 39)) S d g v0 w'.heap.size (.slice A F.length c) F ∧
  (W.heap[wr.heap.size]? = some (.cells #[.slice none 0 0] 39 (0, 0)) → w'.heap[wr.heap.size]? = some (.cells #[.slice none 0 0] 39 (0, 0)) ∧ Aft w1 (w'.setCell ⟨wr.heap.size, 0, none⟩ (.slice A F.length c)) S d g v0 wr.heap.size (.slice A F.length c) F)
theorem step_calls {w1 wr : World} {S : Nat → Prop} {d g : Nat} {Av : Option Addr} {cv : Nat} {F : List S61} {k : Nat} {x : S45} {A3 : Option Addr} {c3 : Nat} {A4 : Option Addr} {c4 : Nat} (h : At w1 wr S d g (.slice Av F.length cv) F k) (hx : ActOk w1 x A3 c3 A4 c4) (hk : k < 1073741824) :
    ∀ W, Below wr.heap.size wr W → Calls Try.prog 17 #[ptr d, .agg #[.slice Av F.length cv], .agg #[.int .u8 x.f0, .string x.f1, .string x.f2, .slice A3 x.f3.length c3, .slice A4 x.f4.length c4]] W (StepPost w1 wr W d g (.slice Av F.length cv) (dStep F x)) := by
  intro W hW
  have hF : F.length < 1073741824 := by have := h.len; omega
  refine (do_calls x Av cv A3 c3 A4 c4 (h.pre.then_ hW) (h.state.below hW) hF (fit_of h.pre.disk hF) hx).mono ?_
  rintro e w' ⟨v, b, S', rfl, hp, hb⟩
  obtain rfl := hb rfl h.sorted
  obtain ⟨hp, hs, hkp, hg⟩ := hp
  rw [step_eq h.sorted] at hs
  obtain ⟨A', c', ev, hr⟩ := hs
  subst ev
  have hs : SV w' S' (.slice A' (dStep F x).length c') (dStep F x) := ⟨A', c', rfl, hr⟩
  have hglt := Nat.lt_of_lt_of_le (blk_lt h.box) hW.size
  have hbw : W.heap[g]? = some (.cells #[.slice Av F.length cv] 39 (0, 0)) := (hW.block g (blk_lt h.box)).trans h.box
  have hbw' := (hkp.2 g hglt h.out).trans hbw
  have hog : ¬ S' g := fun hh => (hg g hh).elim h.out (fun hh => by omega)
  have hsz := hkp.1
  refine ⟨A', c', S', rfl, ?_, fun hbx => ?_⟩
  · have ha := below_alloc (Below.refl _ w') (.cells #[.slice A' (dStep F x).length c'] 39)
    refine ⟨hp.then_ ha, hs.below ha, heap_alloc_new w' _, fun hh => ?_, (ha.block g (blk_lt hbw')).trans hbw', hog, fun e => ?_⟩
    · have := hp.lt _ hh; omega
    · omega
  · have hlt := blk_lt hbx
    have hno : ¬ S wr.heap.size := fun hh => by have := h.pre.lt _ hh; omega
    have hno' : ¬ S' wr.heap.size := fun hh => (hg _ hh).elim hno (fun hh => by omega)
    have hb' := (hkp.2 wr.heap.size hlt hno).trans hbx
    have hne : g ≠ wr.heap.size := by have := blk_lt h.box; omega
    refine ⟨hb', hp.far hno' ?_ 0 _, ?_, ?_, hno', ?_, hog, hne⟩
    · have := h.pre.below.size; omega
    · exact (SV.box hs hb').kept ((Kept.refl w' _).setCell (.inl (.inr rfl)) _) (fun _ hh => .inl (.inl hh))
    · rw [blk_set hb']; simp
    · rw [Below.heap_setCell _ _ _ _ hne]; exact hbw'

set_option maxRecDepth 100000 in
set_option maxHeartbeats 4000000 in
theorem plays_calls (w : World) (A : Option Addr) (c : Nat) (l : List S45) (hr : Kd.C k45 w A l.length l) (hc : l.length ≤ c) (hl : ∀ x ∈ l, ActFit x) :
    Calls Try.prog 5 #[.slice A l.length c] w (AwakePost w) := by
  unfold AwakePost
  have HR := Aside0.mk hr
  clear hr
  cases hsh : shortB l with
  | false =>
    have hs := short_calls l A c w HR.out hc
    rw [hsh] at hs
    clear hsh
    go_enter Try.func5, Try.ntmps5
    go_wp2_with fail
    refine hs.mono ?_
    rintro e w1 ⟨rfl, hb⟩
    go_wp2_with (go_at_call 8; refine (awake_calls w1).mono ?_; rintro e w2 ⟨rfl, hb2⟩)
    go_ret
    exact ⟨rfl, below_then hb hb.size hb2⟩
  | true =>
    have hs := short_calls l A c w HR.out hc
    rw [hsh] at hs
    have hl40 := short_len hsh
    have hu45 := Try.underlying45
    have hu39 := Try.underlying39
    go_enter Try.func5, Try.ntmps5
    go_wp2_with fail
    refine hs.mono ?_
    rintro e w1 ⟨rfl, hb1⟩
    go_wp2_with fail
    refine (new_st w1).mono ?_
    rintro e w2 ⟨d, rfl, hS2⟩
    have hp2 : Pre w1 w2 (fun k => w1.heap.size ≤ k ∧ k < w2.heap.size) d [] := by
      obtain ⟨m, n, L, hL, e⟩ := hS2.disk
      exact ⟨⟨m, n, L, hL.bound, e⟩, hS2.below, fun k hk => hk.2, fun k hk => hk.1⟩
    have HP2 := Aside0.mk hp2
    clear hp2 hS2
    unfold ptr
    go_wp2_with fail
    refine (refnew_calls w2 (fun k => w1.heap.size ≤ k ∧ k < w2.heap.size) (fun k hk => hk.2)).mono ?_
    rintro e w3 ⟨As, cs, rfl, hv3, hb3⟩
    have HV3 := Aside0.mk hv3
    have HB3 := Aside0.mk hb3
    clear hv3 hb3
    clear hs
    go_wp2_with fail
    obtain ⟨g, hg⟩ : ∃ g, g = w3.heap.size := ⟨_, rfl⟩
    have hbx := heap_alloc_new w3 (.cells #[.slice As 0 cs] 39)
    have hba := below_alloc (Below.refl _ w3) (.cells #[.slice As 0 cs] 39)
    rw [← hg] at hbx ⊢
    generalize hw4 : w3.alloc (.cells #[.slice As 0 cs] 39) = w4 at *
    have hat : At w1 w4 (fun k => w1.heap.size ≤ k ∧ k < w2.heap.size) d g (.slice As ([] : List S61).length cs) [] 0 := by
      have h4 := below_then HB3.out HB3.out.size hba
      refine ⟨HP2.out.then_ h4, HV3.out.below hba, hbx, fun h => ?_, ?_, List.Pairwise.nil, Nat.le_refl _⟩
      · have := HB3.out.size; omega
      · have := HB3.out.size; have := HP2.out.below.size; omega
    have HA := Aside0.mk hat
    have HRR : Aside0 (Kd.C k45 w1 A l.length l) := ⟨Kd.C_below HR.out hb1⟩
    obtain ⟨Ac, cc, ec, hcl, hcc, _⟩ := hat.state
    cases ec
    have hsc := same_calls As cs hat.pre.disk hcc hcl (by decide) hat.sorted
    clear hw4 hbx hba hg hat hcl hcc HR HP2 HV3 HB3
    refine hsc.mono ?_
    rintro e w5 ⟨rfl, hb5⟩
    have HA5 : Aside0 (At w1 w5 (fun k => w1.heap.size ≤ k ∧ k < w2.heap.size) d g (.slice As ([] : List S61).length cs) [] 0) := ⟨HA.out.below hb5⟩
    clear hb5 hsc HA
    go_wp2
    go_loopw [5] (fun i wr => ∃ (k : Nat) (S : Nat → Prop) (F : List S61) (Av : Option Addr) (cv : Nat), k ≤ l.length ∧ i = .int .i64 k ∧ At w1 wr S d g (.slice Av F.length cv) F k) (fun i _ => l.length - (intOf i).toNat)
    case atStart => exact ⟨0, _, [], As, cs, Nat.zero_le _, rfl, HA5.out⟩
    case round =>
      obtain ⟨k, S, F, Av, cv, hk, rfl, hat⟩ := hrel
      have HAT := Aside0.mk hat
      clear hat HA5
      by_cases hkn : k < l.length
      · have dk : decide ((k : Int) < (l.length : Int)) = true := by simp; omega
        obtain ⟨ad, A3, c3, A4, c4, ead, hok, hcells⟩ := acts_at HRR.out hl hsh k hkn
        subst ead
        obtain ⟨hq0, hq1, hq2, hq3, hq4⟩ := hcells wr HAT.out.pre.below
        have hcx := blk_cell HAT.out.box 0
        have HOK := Aside0.mk hok
        clear hok
        have h17 := Aside0.mk (step_calls (w1 := w1) (F := F) (g := g) HAT.out HOK.out (by omega))
        have hdr : Aside0 (Below wr.heap.size wr wr.drew) := ⟨(Below.refl _ _).drew⟩
        have hda : Aside0 (Below wr.heap.size wr (wr.alloc (.cells #[.slice none 0 0] 39)).drew) := ⟨(below_alloc (Below.refl _ _) _).drew⟩
        have hdb : Aside0 ((wr.alloc (.cells #[.slice none 0 0] 39)).drew.heap[wr.heap.size]? = some (.cells #[.slice none 0 0] 39 (0, 0))) := ⟨heap_alloc_new wr _⟩
        have hba := below_alloc (Below.refl _ wr) (.cells #[.slice none 0 0] 39)
        obtain ⟨ha0, ha1, ha2, ha3, ha4⟩ := hcells (wr.alloc (.cells #[.slice none 0 0] 39)) (below_then HAT.out.pre.below HAT.out.pre.below.size hba)
        have hax := pw_cell_below hba hcx
        clear hba hcells
        generalize l[k] = x at *
        unfold ptr at h17
        go_wp2_with fail
        go_region_with (go_at_call 17; first
          | (refine (h17.out _ hda.out).mono ?_; rintro e w6 ⟨A', c', S', rfl, hT1, hT2⟩; obtain ⟨hbx, hT3⟩ := hT2 hdb.out; have hcx6 := blk_cell hbx 0; have hfx6 := blk_frozen hbx 0; have HT := Aside0.mk hT3; clear hT1 hT2 hT3 hbx)
          | (refine (h17.out _ hdr.out).mono ?_; rintro e w6 ⟨A', c', S', rfl, hT1, hT2⟩; have HT := Aside0.mk hT1; clear hT1 hT2))
        all_goals
          first
            | (generalize hw7 : w6.setCell ⟨wr.heap.size, 0, none⟩ (.slice A' (dStep F x).length c') = w7 at *; generalize wr.heap.size = gt at *)
            | (generalize hw7 : w6.alloc (.cells #[.slice A' (dStep F x).length c'] 39) = w7 at *; generalize w6.heap.size = gt at *)
          obtain ⟨An, cn, en, hcl, hcc, _⟩ := HT.out.state
          cases en
          have hs7 := same_calls A' c' HT.out.pre.disk hcc hcl (by have := step_len HAT.out.sorted x; have := HAT.out.len; omega) (step_sorted HAT.out.sorted x)
          have hct := blk_cell HT.out.box 0
          clear hw7 hcl hcc h17 hdr hda hdb hq0 hq1 hq2 hq3 hq4 ha0 ha1 ha2 ha3 ha4 hcx hax
          go_wp2_with fail
          refine hs7.mono ?_
          rintro e w8 ⟨rfl, hb8⟩
          have HN : Aside0 (At w1 (w8.setCell ⟨g, 0, none⟩ (.slice A' (dStep F x).length c')) S' d g (.slice A' (dStep F x).length c') (dStep F x) (k + 1)) := ⟨HT.out.next hb8 HAT.out.ge (step_sorted HAT.out.sorted x) (Nat.le_trans (step_len HAT.out.sorted x) (Nat.succ_le_succ HAT.out.len))⟩
          have hct8 := pw_cell_below hb8 hct
          have hg8 := (hb8.block g (blk_lt HT.out.old)).trans HT.out.old
          have hcg8 := blk_cell hg8 0
          have hfg8 := blk_frozen hg8 0
          clear hs7 hct hb8 hg8
          go_wp2
          go_roundw
          case rel => exact ⟨k + 1, S', dStep F x, A', c', by omega, by go_num, HN.out⟩
          case measure => simp [intOf]; omega
      · have dk : decide ((k : Int) < (l.length : Int)) = false := by simp; omega
        have hbe := below_then hb1 hb1.size HAT.out.pre.below
        clear hk
        go_wp2_with (go_at_call 8; refine (awake_calls wr).mono ?_; rintro e w9 ⟨rfl, hb9⟩)
        go_ret
        exact ⟨rfl, below_then hbe hbe.size hb9⟩
end Go.Proofs.Ytahifafnfjcfpaa.D
