/- The law DiskCrashes: it answers true for every input. Conditions: the two arguments are slices as they lie in memory. -/
import Derived.Test.YtahifafnfjcfpaaF1
namespace Go.Proofs.Ytahifafnfjcfpaa.D
open Go.RowKit Go.Maps Go.Sort Go.Proofs.YtahifafnfjcfpaaW.PrintWords Go.Proofs.YtahifafnfjcfpaaW.PrintLast Go.Proofs.YtahifafnfjcfpaaW.PrintMore
open Go.Proofs.Ytahifafnfjcfpaa.R (S61 S45 k61 k45 k61_mkM k61_open k61_mk at_T61 rd_T61 at_T45 rd_T45 info61)

/-- An operation's state goes straight into box g. -/
def StepIn (w1 : World) (d g : Nat) (A0 : Option Addr) (n0 c0 : Nat) (F : List S61) (k : Nat) (e : Ending) (w' : World) : Prop := ∃ A c S, e = .returned (.tuple #[.agg #[.slice A F.length c], .bool true]) ∧
  w'.heap[g]? = some (.cells #[.slice A0 n0 c0] 39 (0, 0)) ∧ At w1 (w'.setCell ⟨g, 0, none⟩ (.slice A F.length c)) S d g (.slice A F.length c) F (k + 1)
theorem step_in {w1 wr : World} {S : Nat → Prop} {d g : Nat} {Av : Option Addr} {cv : Nat} {F : List S61} {k : Nat} {x : S45} {A3 : Option Addr} {c3 : Nat} {A4 : Option Addr} {c4 : Nat} (h : At w1 wr S d g (.slice Av F.length cv) F k) (hx : ActOk w1 x A3 c3 A4 c4) (hk : k < 1073741824) :
    ∀ W, Below wr.heap.size wr W → Calls Try.prog 17 #[ptr d, .agg #[.slice Av F.length cv], .agg #[.int .u8 x.f0, .string x.f1, .string x.f2, .slice A3 x.f3.length c3, .slice A4 x.f4.length c4]] W (StepIn w1 d g Av F.length cv (dStep F x) k) := by
  intro W hW
  have hF : F.length < 1073741824 := by have := h.len; omega
  refine (do_calls x Av cv A3 c3 A4 c4 (h.pre.then_ hW) (h.state.below hW) hF (fit_of h.pre.disk hF) hx).mono ?_
  rintro e w' ⟨v, b, S', rfl, hp, hb⟩
  obtain rfl := hb rfl h.sorted
  obtain ⟨hp, hs, hkp, hg⟩ := hp
  rw [step_eq h.sorted] at hs
  obtain ⟨A', c', ev, hr⟩ := hs
  subst ev
  have hs : SV w' S' (.slice A' (dStep F x).length c') (dStep F x) := ⟨A', c', rfl, hr⟩
  have hglt := Nat.lt_of_lt_of_le (blk_lt h.box) hW.size
  have hbw : W.heap[g]? = some (.cells #[.slice Av F.length cv] 39 (0, 0)) := (hW.block g (blk_lt h.box)).trans h.box
  have hbw' := (hkp.2 g hglt h.out).trans hbw
  have hog : ¬ S' g := fun hh => (hg g hh).elim h.out (fun hh => by omega)
  refine ⟨A', c', S', rfl, hbw', hp.far hog h.ge 0 _, ?_, ?_, hog, h.ge, step_sorted h.sorted x, Nat.le_trans (step_len h.sorted x) (Nat.succ_le_succ h.len)⟩
  · exact (SV.box hs hbw').kept ((Kept.refl w' _).setCell (.inl (.inr rfl)) _) (fun _ hh => .inl (.inl hh))
  · rw [blk_set hbw']; simp

/-- Behind a crash of the disk: the state is not yet turned. -/
structure Mid (w1 w : World) (S : Nat → Prop) (d g : Nat) (v : Value) (F F' : List S61) : Prop where
  pre : Pre w1 w S d F'
  state : SV w S v F
  box : w.heap[g]? = some (.cells #[v] 39 (0, 0))
  out : ¬ S g
def CrashMid (w1 : World) (d g : Nat) (v : Value) (F F' : List S61) (e : Ending) (w' : World) : Prop := e = .returned (.tuple #[]) ∧ ∃ S, Mid w1 w' S d g v F F'
theorem At.crash {w1 wr : World} {S : Nat → Prop} {d g : Nat} {v : Value} {F : List S61} {k : Nat} (h : At w1 wr S d g v F k) (hk : k < 1073741824) (B : Option Addr) (cb : Nat) (keep : List Int) (hr : Kd.C (Kd.int .i64) w1 B keep.length keep) (hkl : keep.length ≤ 1073741824) (hb : ∀ x ∈ keep, -9223372036854775808 ≤ x ∧ x ≤ 9223372036854775807) :
    Calls Try.prog 12 #[ptr d, .slice B keep.length cb] wr (CrashMid w1 d g v F (dCrash F keep)) := by
  have hF : F.length < 1073741824 := by have := h.len; omega
  refine (crash_calls B cb keep h.pre.below h.pre.disk hF (C_kept_int hr h.pre.below h.pre.ge) hkl hb).mono ?_
  rintro e w' ⟨rfl, nx⟩
  have hg : ∀ k, ((S k ∨ wr.heap.size ≤ k) ∧ k < w'.heap.size) → S k ∨ wr.heap.size ≤ k := fun _ hk => hk.1
  have hglt := blk_lt h.box
  refine ⟨rfl, _, h.pre.next nx, h.state.kept nx.kept hg, (nx.kept.2 g hglt h.out).trans h.box, fun hh => ?_⟩
  exact hh.1.elim h.out (fun hh => by omega)
/-- .. and then the reference's. -/
def RefMid (w1 : World) (d g : Nat) (v : Value) (F : List S61) (k : Nat) (e : Ending) (w' : World) : Prop := ∃ A c S, e = .returned (.agg #[.slice A F.length c]) ∧ w'.heap[g]? = some (.cells #[v] 39 (0, 0)) ∧ At w1 (w'.setCell ⟨g, 0, none⟩ (.slice A F.length c)) S d g (.slice A F.length c) F k
theorem Mid.ref {w1 w : World} {S : Nat → Prop} {d g : Nat} {A : Option Addr} {c : Nat} {F : List S61} {keep : List Int} {k : Nat} (h : Mid w1 w S d g (.slice A F.length c) F (dCrash F keep)) (hg : w1.heap.size ≤ g) (hs : Sorted F) (hF : Fit F) (hk : F.length ≤ k) (B : Option Addr) (cb : Nat) (hr : Kd.C (Kd.int .i64) w1 B keep.length keep) :
    Calls Try.prog 18 #[.agg #[.slice A F.length c], .slice B keep.length cb] w (RefMid w1 d g (.slice A F.length c) (dCrash F keep) k) := by
  obtain ⟨A', c', e', hl, hC, hout⟩ := h.state
  cases e'
  refine (crash_ref F A c B cb keep w (fun k => S k ∨ k = g) hC (fun k hk => hk.elim (h.pre.lt k) (fun e => e ▸ blk_lt h.box)) hF (Kd.C_below hr h.pre.below)).mono ?_
  rintro e w' ⟨v, rfl, hv, hb⟩
  rw [crash_eq hs] at hv
  obtain ⟨A', c', ev, hr'⟩ := hv
  subst ev
  have hv : SV w' (fun k => S k ∨ k = g) (.slice A' (dCrash F keep).length c') (dCrash F keep) := ⟨A', c', rfl, hr'⟩
  have hbx := (hb.block g (blk_lt h.box)).trans h.box
  refine ⟨A', c', S, rfl, hbx, (h.pre.then_ hb).far h.out hg 0 _, ?_, ?_, h.out, hg, hs.crashd keep, by rw [crash_len hs]; exact hk⟩
  · exact hv.kept ((Kept.refl w' _).setCell (.inl (.inr rfl)) _) (fun _ hh => .inl (.inl hh))
  · rw [blk_set hbx]; simp
theorem Mid.back {w1 w : World} {S : Nat → Prop} {d g : Nat} {v : Value} {F : List S61} {k : Nat} (h : Mid w1 w S d g v F F) (hg : w1.heap.size ≤ g) (hs : Sorted F) (hk : F.length ≤ k) : At w1 w S d g v F k := ⟨h.pre, h.state, h.box, h.out, hg, hs, hk⟩

set_option maxRecDepth 100000 in
set_option maxHeartbeats 4000000 in
theorem crashes_calls (w : World) (A : Option Addr) (c : Nat) (l : List S45) (B : Option Addr) (cb : Nat) (keep : List Int) (hr : Kd.C k45 w A l.length l) (hc : l.length ≤ c) (hl : ∀ x ∈ l, ActFit x) (hkr : Kd.C (Kd.int .i64) w B keep.length keep) (hkb : ∀ x ∈ keep, -9223372036854775808 ≤ x ∧ x ≤ 9223372036854775807) :
    Calls Try.prog 6 #[.slice A l.length c, .slice B keep.length cb] w (AwakePost w) := by
  unfold AwakePost
  have HR := Aside0.mk hr
  have HKR := Aside0.mk hkr
  have HKB := Aside0.mk hkb
  clear hr hkr hkb
  cases hsh : shortB l with
  | false =>
    have hs := short_calls l A c w HR.out hc
    rw [hsh] at hs
    clear hsh
    go_enter Try.func6, Try.ntmps6
    go_wp2_with fail
    refine hs.mono ?_
    rintro e w1 ⟨rfl, hb⟩
    go_wp2_with (go_at_call 8; refine (awake_calls w1).mono ?_; rintro e w2 ⟨rfl, hb2⟩)
    go_ret
    exact ⟨rfl, below_then hb hb.size hb2⟩
  | true =>
    have hs := short_calls l A c w HR.out hc
    rw [hsh] at hs
    by_cases h20 : 20 < keep.length
    · have d20 : decide ((20 : Int) < (keep.length : Int)) = true := by simp; omega
      clear hsh
      go_enter Try.func6, Try.ntmps6
      go_wp2_with fail
      refine hs.mono ?_
      rintro e w1 ⟨rfl, hb⟩
      go_wp2_with (go_at_call 8; refine (awake_calls w1).mono ?_; rintro e w2 ⟨rfl, hb2⟩)
      go_ret
      exact ⟨rfl, below_then hb hb.size hb2⟩
    have d20 : decide ((20 : Int) < (keep.length : Int)) = false := by simp; omega
    have hl40 := short_len hsh
    have hu45 := Try.underlying45
    have hu39 := Try.underlying39
    go_enter Try.func6, Try.ntmps6
    go_wp2_with fail
    refine hs.mono ?_
    rintro e w1 ⟨rfl, hb1⟩
    clear hs
    go_wp2_with fail
    refine (new_st w1).mono ?_
    rintro e w2 ⟨d, rfl, hS2⟩
    have hp2 : Pre w1 w2 (fun k => w1.heap.size ≤ k ∧ k < w2.heap.size) d [] := by
      obtain ⟨m, n, L, hL, e⟩ := hS2.disk
      exact ⟨⟨m, n, L, hL.bound, e⟩, hS2.below, fun k hk => hk.2, fun k hk => hk.1⟩
    have HP2 := Aside0.mk hp2
    clear hp2 hS2
    unfold ptr
    go_wp2_with fail
    refine (refnew_calls w2 (fun k => w1.heap.size ≤ k ∧ k < w2.heap.size) (fun k hk => hk.2)).mono ?_
    rintro e w3 ⟨As, cs, rfl, hv3, hb3⟩
    have HV3 := Aside0.mk hv3
    have HB3 := Aside0.mk hb3
    clear hv3 hb3
    go_wp2_with fail
    obtain ⟨g, hg⟩ : ∃ g, g = w3.heap.size := ⟨_, rfl⟩
    have hbx := heap_alloc_new w3 (.cells #[.slice As 0 cs] 39)
    have hba := below_alloc (Below.refl _ w3) (.cells #[.slice As 0 cs] 39)
    rw [← hg] at hbx ⊢
    generalize hw4 : w3.alloc (.cells #[.slice As 0 cs] 39) = w4 at *
    have hat : At w1 w4 (fun k => w1.heap.size ≤ k ∧ k < w2.heap.size) d g (.slice As ([] : List S61).length cs) [] 0 := by
      have h4 := below_then HB3.out HB3.out.size hba
      refine ⟨HP2.out.then_ h4, HV3.out.below hba, hbx, fun h => ?_, ?_, List.Pairwise.nil, Nat.le_refl _⟩
      · have := HB3.out.size; omega
      · have := HB3.out.size; have := HP2.out.below.size; omega
    have HRR : Aside0 (Kd.C k45 w1 A l.length l) := ⟨Kd.C_below HR.out hb1⟩
    have HKK : Aside0 (Kd.C (Kd.int .i64) w1 B keep.length keep) := ⟨Kd.C_below HKR.out hb1⟩
    have HA5 := Aside0.mk hat
    clear hw4 hbx hba hg hat HR HKR HP2 HV3 HB3
    go_loopw [7] (fun i wr => ∃ (k : Nat) (S : Nat → Prop) (F : List S61) (Av : Option Addr) (cv : Nat), k ≤ l.length ∧ i = .int .i64 k ∧ At w1 wr S d g (.slice Av F.length cv) F k) (fun i _ => l.length - (intOf i).toNat)
    case atStart => exact ⟨0, _, [], As, cs, Nat.zero_le _, rfl, HA5.out⟩
    case round =>
      obtain ⟨k, S, F, Av, cv, hk, rfl, hat⟩ := hrel
      have HAT := Aside0.mk hat
      clear hat HA5
      by_cases hkn : k < l.length
      · have dk : decide ((k : Int) < (l.length : Int)) = true := by simp; omega
        obtain ⟨ad, A3, c3, A4, c4, ead, hok, hcells⟩ := acts_at HRR.out hl hsh k hkn
        subst ead
        obtain ⟨hq0, hq1, hq2, hq3, hq4⟩ := hcells wr HAT.out.pre.below
        have hcx := blk_cell HAT.out.box 0
        have HOK := Aside0.mk hok
        clear hok hcells
        have h17 := Aside0.mk (step_in (w1 := w1) (F := F) (g := g) HAT.out HOK.out (by omega))
        have hdr : Aside0 (Below wr.heap.size wr wr.drew) := ⟨(Below.refl _ _).drew⟩
        generalize l[k] = x at *
        unfold ptr at h17
        go_wp2_with fail
        go_region_with (go_at_call 17; (refine (h17.out _ hdr.out).mono ?_; rintro e w6 ⟨A', c', S', rfl, hbx6, hT⟩; have hcx6 := blk_cell hbx6 0; have hfx6 := blk_frozen hbx6 0; have HT := Aside0.mk hT; clear hT hbx6))
        all_goals
          clear h17 hdr hq0 hq1 hq2 hq3 hq4 hcx
          go_wp2
          go_roundw
          case rel => exact ⟨k + 1, S', dStep F x, A', c', by omega, by go_num, HT.out⟩
          case measure => simp [intOf]; omega
      · have dk : decide ((k : Int) < (l.length : Int)) = false := by simp; omega
        have hkl : k ≤ 40 := by omega
        clear hk hl
        go_wp2_with fail
        refine (At.crash HAT.out (by omega) B cb keep HKK.out (by omega) HKB.out).mono ?_
        rintro e w6 ⟨rfl, S6, hm6⟩
        have HM6 := Aside0.mk hm6
        have hcx6 := blk_cell hm6.box 0
        clear hm6
        go_wp2_with fail
        refine (Mid.ref HM6.out HAT.out.ge HAT.out.sorted (fit_of HAT.out.pre.disk (by have := HAT.out.len; omega)) HAT.out.len B cb HKK.out).mono ?_
        rintro e w7 ⟨A7, c7, S7, rfl, hbx7, hT⟩
        have hcx7 := blk_cell hbx7 0
        have hfx7 := blk_frozen hbx7 0
        have HT := Aside0.mk hT
        clear hT hbx7 hcx6
        have htw : Aside0 (dCrash (dCrash F keep) [] = dCrash F keep) := ⟨crash_twice HAT.out.sorted (fit_of HAT.out.pre.disk (by have := HAT.out.len; omega)) keep⟩
        generalize dCrash F keep = F7 at *
        go_wp2_with fail
        generalize w7.setCell ⟨g, 0, none⟩ (.slice A7 F7.length c7) = w8 at *
        obtain ⟨_, _, en, hcl, hcc, _⟩ := HT.out.state
        cases en
        have hs8 := same_calls A7 c7 HT.out.pre.disk hcc hcl (by have := HT.out.len; omega) HT.out.sorted
        refine hs8.mono ?_
        rintro e w9 ⟨rfl, hb9⟩
        have HT9 := Aside0.mk (HT.out.below hb9)
        clear hs8 hcl hcc hb9 hcx7 hfx7
        go_wp2_with fail
        have h12 := At.crash HT9.out (by omega) none 0 [] (Kd.C_nil _ _) (by simp) (fun x hx => by cases hx)
        rw [htw.out] at h12
        refine h12.mono ?_
        rintro e w10 ⟨rfl, S10, hm10⟩
        have HTT := Aside0.mk (hm10.back HT9.out.ge HT9.out.sorted HT9.out.len)
        clear h12 hm10
        have hcx10 := blk_cell HTT.out.box 0
        obtain ⟨_, _, en, hcl, hcc, _⟩ := HTT.out.state
        cases en
        have hs10 := same_calls A7 c7 HTT.out.pre.disk hcc hcl (by have := HTT.out.len; omega) HTT.out.sorted
        clear hcl hcc
        go_wp2_with fail
        refine hs10.mono ?_
        rintro e w11 ⟨rfl, hb11⟩
        have hbe := below_then hb1 hb1.size (HTT.out.below hb11).pre.below
        clear hs10 hb11 hcx10
        go_wp2_with (go_at_call 8; refine (awake_calls w11).mono ?_; rintro e w12 ⟨rfl, hb12⟩)
        go_ret
        exact ⟨rfl, below_then hbe hbe.size hb12⟩
end Go.Proofs.Ytahifafnfjcfpaa.D
