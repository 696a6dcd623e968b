/- The law DiskApart: it answers true for every input. Conditions: the two arguments are slices as they lie in memory. -/
import Derived.Test.YtahifafnfjcfpaaF1
import Derived.StillTailTactics
namespace Go.Proofs.Ytahifafnfjcfpaa.D
open Go.RowKit Go.Maps Go.Sort Go.Proofs.YtahifafnfjcfpaaW.PrintWords Go.Proofs.YtahifafnfjcfpaaW.PrintLast Go.Proofs.YtahifafnfjcfpaaW.PrintMore
open Go.Proofs.Ytahifafnfjcfpaa.R (S61 S45 k61 k45 k61_mkM k61_open k61_mk at_T61 rd_T61 at_T45 rd_T45 info61)

def own : ByteArray := ⟨#[111, 119, 110]⟩
/-- What stands at the loop's head. -/
structure Ap (w0 w : World) (S : Nat → Prop) (d : Nat) (F : List S61) (s : ByteArray) (k : Nat) : Prop where
  pre : Pre w0 w S d F
  sorted : Sorted F
  len : F.length ≤ k
  own : find F (key own) = some ⟨own, s, 0⟩
theorem Ap.below {w0 w w' : World} {S : Nat → Prop} {d : Nat} {F : List S61} {s : ByteArray} {k : Nat} (h : Ap w0 w S d F s k) (hb : Below w.heap.size w w') : Ap w0 w' S d F s k := ⟨h.pre.then_ hb, h.sorted, h.len, h.own⟩
theorem Ap.more {w0 w : World} {S : Nat → Prop} {d : Nat} {F : List S61} {s : ByteArray} {k : Nat} (h : Ap w0 w S d F s k) : Ap w0 w S d F s (k + 1) := ⟨h.pre, h.sorted, Nat.le_succ_of_le h.len, h.own⟩
theorem own_list : own.toList = [111, 119, 110] := by rw [ByteArray.toList_eq]; rfl
theorem own_first (l : List Int) (h : l.length ≤ 65536) : dAppend [] own l = ([⟨own, strOfNums l, 0⟩], 0) := by
  have e : (⟨#[]⟩ : ByteArray) ++ strOfNums l = strOfNums l := ByteArray.empty_append
  unfold dAppend
  rw [if_pos (by decide), if_pos (by show 0 + l.length ≤ 65536; omega)]
  show (put ⟨own, ⟨#[]⟩ ++ strOfNums l, 0⟩ [], (0 : Int)) = _
  rw [e]
  rfl
def ApPost (w0 : World) (d : Nat) (F : List S61) (s : ByteArray) (k : Nat) (e : Ending) (w' : World) : Prop := ∃ v b S, e = .returned (.tuple #[.agg #[v], .bool b]) ∧ Ap w0 w' S d F s k
theorem ap_step {w0 w : World} {S : Nat → Prop} {d : Nat} {F : List S61} {s : ByteArray} {k : Nat} {x : S45} {A : Option Addr} {c : Nat} {A3 : Option Addr} {c3 : Nat} {A4 : Option Addr} {c4 : Nat} (h : Ap w0 w S d F s k) (hx : ActOk w0 x A3 c3 A4 c4) (hk : k < 1073741824) (h1 : x.f1 ≠ own) (h2 : x.f2 ≠ own) (h7 : actN x ≠ 7) (hv : SV w S (.slice A 0 c) []) :
    Calls Try.prog 17 #[ptr d, .agg #[.slice A 0 c], .agg #[.int .u8 x.f0, .string x.f1, .string x.f2, .slice A3 x.f3.length c3, .slice A4 x.f4.length c4]] w (ApPost w0 d (dStep F x) s (k + 1)) := by
  have hF : F.length < 1073741824 := by have := h.len; omega
  refine (do_calls (T := []) x A c A3 c3 A4 c4 h.pre hv hF ⟨by decide, fun f hf => by cases hf⟩ hx).mono ?_
  rintro e w' ⟨v, b, S', rfl, hp, _⟩
  exact ⟨v, b, S', rfl, hp.pre, step_sorted h.sorted x, Nat.le_trans (step_len h.sorted x) (Nat.succ_le_succ h.len), (step_other h1 h2 h7).trans h.own⟩

set_option maxRecDepth 100000 in
set_option maxHeartbeats 4000000 in
theorem apart_calls (w : World) (A : Option Addr) (c : Nat) (l : List S45) (B : Option Addr) (cb : Nat) (lb : List Int) (hr : Kd.C k45 w A l.length l) (hc : l.length ≤ c) (hl : ∀ x ∈ l, ActFit x) (hkr : Kd.C K8 w B lb.length lb) (hkb : ∀ x ∈ lb, 0 ≤ x ∧ x < 256) :
    Calls Try.prog 7 #[.slice A l.length c, .slice B lb.length cb] w (AwakePost w) := by
  unfold AwakePost
  have HR := Aside0.mk hr
  have HKR := Aside0.mk hkr
  have HKB := Aside0.mk hkb
  clear hr hkr hkb
  cases hsh : shortB l with
  | false =>
    have hs := short_calls l A c w HR.out hc
    rw [hsh] at hs
    clear hsh
    go_enter Try.func7, Try.ntmps7
    go_wp2_with fail
    refine hs.mono ?_
    rintro e w1 ⟨rfl, hb⟩
    go_wp2_with (go_at_call 8; refine (awake_calls w1).mono ?_; rintro e w2 ⟨rfl, hb2⟩)
    go_ret
    exact ⟨rfl, below_then hb hb.size hb2⟩
  | true =>
    have hs := short_calls l A c w HR.out hc
    rw [hsh] at hs
    by_cases h20 : 400 < lb.length
    · have d20 : decide ((400 : Int) < (lb.length : Int)) = true := by simp; omega
      clear hsh
      go_enter Try.func7, Try.ntmps7
      go_wp2_with fail
      refine hs.mono ?_
      rintro e w1 ⟨rfl, hb⟩
      go_wp2_with (go_at_call 8; refine (awake_calls w1).mono ?_; rintro e w2 ⟨rfl, hb2⟩)
      go_ret
      exact ⟨rfl, below_then hb hb.size hb2⟩
    have d20 : decide ((400 : Int) < (lb.length : Int)) = false := by simp; omega
    have hl40 := short_len hsh
    have hu45 := Try.underlying45
    have hu39 := Try.underlying39
    go_enter Try.func7, Try.ntmps7
    go_wp2_with fail
    refine hs.mono ?_
    rintro e w1 ⟨rfl, hb1⟩
    clear hs
    go_wp2_with fail
    refine (new_st w1).mono ?_
    rintro e w2 ⟨d, rfl, hS2⟩
    unfold ptr
    go_wp2_with fail
    have h3 := append_st hS2 own B cb lb (by decide) (fun W hW => Kd.C_below (Kd.C_below (Kd.C_below HKR.out hb1) hS2.below) hW) HKB.out (by omega) (by decide)
    rw [own_first _ (by omega)] at h3
    refine h3.mono ?_
    rintro e w3 ⟨rfl, hS3⟩
    have hp3 : Pre w1 w3 (fun k => w1.heap.size ≤ k ∧ k < w3.heap.size) d [⟨own, strOfNums lb, 0⟩] := by
      obtain ⟨m, n, L, hL, e⟩ := hS3.disk
      exact ⟨⟨m, n, L, hL.bound, e⟩, hS3.below, fun k hk => hk.2, fun k hk => hk.1⟩
    have hap : Ap w1 w3 (fun k => w1.heap.size ≤ k ∧ k < w3.heap.size) d [⟨own, strOfNums lb, 0⟩] (strOfNums lb) 1 := ⟨hp3, by simp [Sorted], Nat.le_refl _, by unfold find; rw [List.find?_cons_of_pos (by simp)]⟩
    have HA5 := Aside0.mk hap
    have HRR : Aside0 (Kd.C k45 w1 A l.length l) := ⟨Kd.C_below HR.out hb1⟩
    have HKK : Aside0 (Kd.C K8 w1 B lb.length lb) := ⟨Kd.C_below HKR.out hb1⟩
    clear hS2 h3 hS3 hp3 hap HR HKR HKB
    go_wp2
    go_loopw [6] (fun i wr => ∃ (k : Nat) (S : Nat → Prop) (F : List S61), k ≤ l.length ∧ i = .int .i64 k ∧ Ap w1 wr S d F (strOfNums lb) (k + 1)) (fun i _ => l.length - (intOf i).toNat)
    case atStart => exact ⟨0, _, _, Nat.zero_le _, rfl, HA5.out⟩
    case round =>
      obtain ⟨k, S, F, hk, rfl, hat⟩ := hrel
      have HAT := Aside0.mk hat
      clear hat HA5
      by_cases hkn : k < l.length
      · have dk : decide ((k : Int) < (l.length : Int)) = true := by simp; omega
        obtain ⟨ad, A3, c3, A4, c4, ead, hok, hcells⟩ := acts_at HRR.out hl hsh k hkn
        subst ead
        obtain ⟨hq0, hq1, hq2, hq3, hq4⟩ := hcells wr HAT.out.pre.below
        have HOK := Aside0.mk hok
        clear hok hcells
        generalize l[k] = x at *
        obtain ⟨n, hn⟩ := Int.eq_ofNat_of_zero_le HOK.out.b0.1
        have hn2 : n < 256 := by have := HOK.out.b0.2; omega
        rw [hn] at hq0
        have hbb := below_alloc (Below.refl _ wr) (.cells #[.int .u8 (n : Int), .string x.f1, .string x.f2, .slice A3 x.f3.length c3, .slice A4 x.f4.length c4] 45)
        have hxb := heap_alloc_new wr (.cells #[.int .u8 (n : Int), .string x.f1, .string x.f2, .slice A3 x.f3.length c3, .slice A4 x.f4.length c4] 45)
        have HAA := Aside0.mk (HAT.out.below hbb)
        have HN := Aside0.mk hn
        clear hn hbb
        by_cases h1 : x.f1 = own
        · have s1 : x.f1.toList = [111, 119, 110] := by rw [h1]; exact own_list
          clear h1 hxb
          go_wp2
          go_roundw
          case rel => exact ⟨k + 1, S, F, by omega, by go_num, HAA.out.more⟩
          case measure => simp [intOf]; omega
        have s1 : ¬ x.f1.toList = [111, 119, 110] := fun e => h1 (key_inj (toList_inj.1 (e.trans own_list.symm)))
        by_cases h2 : x.f2 = own
        · have s2 : x.f2.toList = [111, 119, 110] := by rw [h2]; exact own_list
          clear h1 h2 hxb
          go_wp2
          go_roundw
          case rel => exact ⟨k + 1, S, F, by omega, by go_num, HAA.out.more⟩
          case measure => simp [intOf]; omega
        have s2 : ¬ x.f2.toList = [111, 119, 110] := fun e => h2 (key_inj (toList_inj.1 (e.trans own_list.symm)))
        by_cases h7 : n % 8 = 7
        · have d7 : (((n : Int) % 8) != 7) = false := by simp; omega
          clear h1 h2 hxb h7
          go_wp2
          go_roundw
          case rel => exact ⟨k + 1, S, F, by omega, by go_num, HAA.out.more⟩
          case measure => simp [intOf]; omega
        have d7 : (((n : Int) % 8) != 7) = true := by simp; omega
        have ha7 : actN x ≠ 7 := by unfold actN; rw [HN.out, Int.toNat_natCast]; exact h7
        have h17 : Aside0 (∀ (W : World) (Ar : Option Addr) (cr : Nat), Below (wr.alloc (.cells #[.int .u8 (n : Int), .string x.f1, .string x.f2, .slice A3 x.f3.length c3, .slice A4 x.f4.length c4] 45)).heap.size (wr.alloc (.cells #[.int .u8 (n : Int), .string x.f1, .string x.f2, .slice A3 x.f3.length c3, .slice A4 x.f4.length c4] 45)) W → SV W S (.slice Ar 0 cr) [] →
            Calls Try.prog 17 #[.pointer (some ⟨d, 0, none⟩), .agg #[.slice Ar 0 cr], .agg #[.int .u8 (n : Int), .string x.f1, .string x.f2, .slice A3 x.f3.length c3, .slice A4 x.f4.length c4]] W (ApPost w1 d (dStep F x) (strOfNums lb) (k + 1 + 1))) := ⟨fun W Ar cr hW hv => by
          have := ap_step (HAA.out.below hW) HOK.out (by omega) h1 h2 ha7 hv
          rw [HN.out] at this
          exact this⟩
        clear h1 h2 h7 ha7 hn2
        go_wp2_with fail
        have HG : Aside0 (∀ j, S j → j < (wr.alloc (.cells #[.int .u8 (n : Int), .string x.f1, .string x.f2, .slice A3 x.f3.length c3, .slice A4 x.f4.length c4] 45)).heap.size) := ⟨HAA.out.pre.lt⟩
        generalize wr.alloc (.cells #[.int .u8 (n : Int), .string x.f1, .string x.f2, .slice A3 x.f3.length c3, .slice A4 x.f4.length c4] 45) = wa at *
        generalize wr.heap.size = gx at *
        have hdr : Aside0 (Below wa.heap.size wa wa.drew) := ⟨(Below.refl _ _).drew⟩
        have h15 : Aside0 (∀ W, Below wa.heap.size wa W → Calls Try.prog 15 #[] W fun e w' => ∃ A c, e = .returned (.agg #[.slice A 0 c]) ∧ SV w' S (.slice A 0 c) [] ∧ Below W.heap.size W w') := ⟨fun W hW => refnew_calls W S (fun k hk => Nat.lt_of_lt_of_le (HG.out k hk) hW.size)⟩
        have a0 := blk_cell hxb 0
        have a1 := blk_cell hxb 1
        have a2 := blk_cell hxb 2
        have a3 := blk_cell hxb 3
        have a4 := blk_cell hxb 4
        have HXB := Aside0.mk hxb
        clear hxb hq0 hq1 hq2 hq3 hq4
        go_region_with (first
          | (go_at_call 15; refine (h15.out _ hdr.out).mono ?_; rintro e w6 ⟨Ar, cr, rfl, hv6, hb6⟩; have HB6 := Aside0.mk (below_step hdr.out hb6); have HV6 := Aside0.mk hv6; have b0 := blk_cell ((HB6.out.block gx (blk_lt HXB.out)).trans HXB.out) 0; have b1 := blk_cell ((HB6.out.block gx (blk_lt HXB.out)).trans HXB.out) 1; have b2 := blk_cell ((HB6.out.block gx (blk_lt HXB.out)).trans HXB.out) 2; have b3 := blk_cell ((HB6.out.block gx (blk_lt HXB.out)).trans HXB.out) 3; have b4 := blk_cell ((HB6.out.block gx (blk_lt HXB.out)).trans HXB.out) 4; clear hv6 hb6)
          | (go_at_call 17; refine (h17.out _ Ar cr HB6.out HV6.out).mono ?_; rintro e w7 ⟨v, b, S', rfl, hT⟩; have HT := Aside0.mk hT; clear hT))
        all_goals
          clear h17 h15 hdr a0 a1 a2 a3 a4
          go_wp2
          go_roundw
          case rel => exact ⟨k + 1, S', dStep F x, by omega, by go_num, HT.out⟩
          case measure => simp [intOf]; omega
      · have dk : decide ((k : Int) < (l.length : Int)) = false := by simp; omega
        clear hk hl
        go_wp2_with fail
        refine (read_calls own HAT.out.pre.disk (by decide)).mono ?_
        intro e w6 hp
        unfold ReadPost at hp
        rw [HAT.out.own] at hp
        obtain ⟨v, rfl, hv, hb6⟩ := hp
        obtain ⟨R, cr, rfl, _, hstr⟩ := hv.str
        have hB6 := Kd.C_string (P := Try.prog) (c := cb) Try.underlying22 Try.underlying5 Try.underlying9 (Kd.C_below (Kd.C_below HKK.out HAT.out.pre.below) hb6)
        have hbe := below_then (below_then hb1 hb1.size HAT.out.pre.below) (Nat.le_trans hb1.size HAT.out.pre.below.size) hb6
        have hstr2 : (convert 22 9 (.slice R (strOfNums lb).size cr)).run Try.prog w6 = .ok (.string (strOfNums lb)) w6 := hstr
        clear hv hb6 hstr
        generalize (strOfNums lb).size = m at *
        generalize strOfNums lb = sb at *
        go_wp2_with (go_at_call 8; refine (awake_calls w6).mono ?_; rintro e w8 ⟨rfl, hb8⟩)
        go_ret
        exact ⟨rfl, below_then hbe hbe.size hb8⟩
end Go.Proofs.Ytahifafnfjcfpaa.D
