/- The disk's method Crash. Conditions: as the theorem says. -/
import Derived.Test.YtahifafnfjcfpaaD5
namespace Go.Proofs.Ytahifafnfjcfpaa.D
open Go.RowKit Go.Maps Go.Sort Go.Proofs.YtahifafnfjcfpaaW.PrintWords Go.Proofs.YtahifafnfjcfpaaW.PrintLast Go.Proofs.YtahifafnfjcfpaaW.PrintMore
open Go.Proofs.Ytahifafnfjcfpaa.R (S61 k61)

/-- How many more bytes the i-th file keeps. -/
def crashN (keep : List Int) (i : Nat) (f : S61) : Int := if i < keep.length then max 0 (min (keep.getD i 0) ((f.f1.size : Int) - f.f2)) else 0
def cutF (f : S61) (n : Int) : S61 := ⟨f.f0, f.f1.extract 0 (f.f2 + n).toNat, f.f2 + n⟩
def crashLoop (keep : List Int) : Nat → List ByteArray → List S61 → List S61
  | _, [], F => F
  | i, nm :: r, F => match find F (key nm) with | some f => crashLoop keep (i + 1) r (upd (cutF f (crashN keep i f)) F) | none => F
def dCrash (F : List S61) (keep : List Int) : List S61 := crashLoop keep 0 (namesOf F) F

theorem crashN_bd {keep : List Int} {i : Nat} {f : S61} (h : f.f2 ≤ (f.f1.size : Int)) : 0 ≤ crashN keep i f ∧ crashN keep i f ≤ (f.f1.size : Int) - f.f2 := by
  unfold crashN
  split
  · omega
  · omega

theorem crashN_val {keep : List Int} {k q : Nat} {f : S61} (h : k < keep.length) (hq : f.f2 = (q : Int)) (hz : q ≤ f.f1.size) (hs : f.f1.size ≤ 65536) : max 0 (min (keep.getD k 0) (wrap64 ((f.f1.size : Int) - (q : Int)))) = crashN keep k f := by
  have hw : wrap64 ((f.f1.size : Int) - (q : Int)) = (f.f1.size : Int) - (q : Int) := IntWalk.wrap64_in _ (by omega)
  unfold crashN
  rw [if_pos h, hw, hq]

theorem bytesOf_cut (s : ByteArray) (k : Nat) : bytesOf (s.extract 0 k) = (bytesOf s).take k := by
  unfold bytesOf
  rw [← List.map_take]
  congr 1
  rw [ByteArray.data_extract, Array.toList_extract]
  simp
theorem size_cut (s : ByteArray) {k : Nat} (h : k ≤ s.size) : (s.extract 0 k).size = k := by
  rw [ByteArray.size_extract]; omega
/-- One file is cut: in memory. -/
theorem DAtL.cutx {w : World} {base : Nat} {ok : Nat → Prop} {d m n : Nat} {L : List E} {x : E} (h : DAtL w base ok d m n L) (hx : x ∈ L) {A : Option Addr} {c : Nat} (hv : x.v = .slice A x.f.f1.size c) (k : Nat) (hk : k ≤ x.f.f1.size) :
    DAtL ((w.setCell ⟨x.fb, 1, none⟩ (.int .i64 (k : Int))).setCell ⟨x.fb, 0, none⟩ (.slice A k k)) base ok d m n (updE ⟨⟨x.f.f0, x.f.f1.extract 0 k, (k : Int)⟩, x.fb, .slice A k k⟩ L) := by
  have hx0 := h.files x hx
  have hset : ((w.setCell ⟨x.fb, 1, none⟩ (.int .i64 (k : Int))).setCell ⟨x.fb, 0, none⟩ (.slice A k k)).heap[x.fb]? = some (.cells #[.slice A k k, .int .i64 (k : Int)] 57 (0, 0)) := by
    rw [blk_set (blk_set hx0.blk _ _)]; simp
  have hfar : ∀ j, j ≠ x.fb → ((w.setCell ⟨x.fb, 1, none⟩ (.int .i64 (k : Int))).setCell ⟨x.fb, 0, none⟩ (.slice A k k)).heap[j]? = w.heap[j]? := fun j hj => by
    rw [Below.heap_setCell _ _ _ _ hj, Below.heap_setCell _ _ _ _ hj]
  have hown : (Value.slice A k k).ownBlock = x.v.ownBlock := by rw [hv]; cases A <;> rfl
  have hrow : FRow w base ok (.slice A k k) (bytesOf (x.f.f1.extract 0 k)) := by
    rw [bytesOf_cut]
    have hr := hx0.row
    rw [hv] at hr
    cases A with
    | none =>
      rcases hr with ⟨e, e2⟩ | ⟨g, cap, cur, e, _⟩
      · have : x.f.f1.size = 0 := by rw [← bytesOf_length, e2]; rfl
        obtain rfl : k = 0 := by omega
        exact .inl ⟨rfl, by simp⟩
      · cases e
    | some ad =>
      rcases hr with ⟨e, e2⟩ | ⟨g, cap, cur, e, r⟩
      · cases e
      · injection e with e1 e2 e3
        injection e1 with e1
        subst e1
        have hr' : FRow w base ok (.slice (some ⟨g, 0, none⟩) (bytesOf x.f.f1).length cap) (bytesOf x.f.f1) := .inr ⟨g, cap, cur, rfl, r⟩
        exact hr'.cut k (by rw [bytesOf_length]; exact hk)
  refine h.change hx rfl rfl (fun y hy e => by rw [uniq h hx y hy e]) (fun _ hk => hk) ⟨hset, hrow.move (fun j hj => hfar j ?_), hx0.ge, hx0.okb, Int.natCast_nonneg _, ?_, ?_, hx0.nm⟩ (fun j hj => .inl (hown ▸ hj)) (fun j _ hne _ => hfar j hne)
  · rintro rfl
    obtain ⟨cells, hc⟩ := hrow.typed _ hj
    exact blk_ne hc hx0.blk (by decide) rfl
  · show (k : Int) ≤ ((x.f.f1.extract 0 k).size : Int)
    rw [size_cut _ hk]; exact Int.le_refl _
  · show (x.f.f1.extract 0 k).size ≤ 65536
    rw [size_cut _ hk]
    have := hx0.len
    omega

/-! ### the names that are there stay there -/
theorem find_upd_isSome {F : List S61} {f : S61} {n : List UInt8} (h : (find F n).isSome = true) : (find (upd f F) n).isSome = true := by
  unfold find upd at *
  rw [List.find?_isSome] at *
  obtain ⟨g, hg, hk⟩ := h
  by_cases e : key g.f0 = key f.f0
  · exact ⟨f, List.mem_map.2 ⟨g, hg, by rw [if_pos e]⟩, by rw [← e]; exact hk⟩
  · exact ⟨g, List.mem_map.2 ⟨g, hg, by rw [if_neg e]⟩, hk⟩
theorem mem_namesOf {F : List S61} {s : ByteArray} (h : s ∈ namesOf F) : (find F (key s)).isSome = true := by
  unfold namesOf at h
  obtain ⟨l, hl, rfl⟩ := List.mem_map.1 h
  have hl' := (List.mergeSort_perm _ _).mem_iff.1 hl
  obtain ⟨f, hf, e⟩ := List.mem_map.1 hl'
  unfold find
  rw [List.find?_isSome]
  exact ⟨f, hf, by simp [key, strB, ← e]⟩
theorem namesOf_size {F : List S61} (hF : ∀ f ∈ F, f.f0.size ≤ 16) {s : ByteArray} (h : s ∈ namesOf F) : s.size ≤ 16 := by
  unfold namesOf at h
  obtain ⟨l, hl, rfl⟩ := List.mem_map.1 h
  have hl' := (List.mergeSort_perm _ _).mem_iff.1 hl
  obtain ⟨f, hf, e⟩ := List.mem_map.1 hl'
  have := hF f hf
  subst e
  exact this
theorem length_upd (f : S61) (F : List S61) : (upd f F).length = F.length := by simp [upd]

theorem DAt.nm {w : World} {base : Nat} {ok : Nat → Prop} {d : Nat} {F : List S61} (h : DAt w base ok d F) : ∀ f ∈ F, f.f0.size ≤ 16 := by
  obtain ⟨m, n, L, h, rfl⟩ := h
  intro f hf
  obtain ⟨x, hx, rfl⟩ := List.mem_map.1 hf
  exact (h.files x hx).nm

/-- One round of Crash: what is behind it. -/
structure Rest (keep : List Int) (F0 F : List S61) (names : List ByteArray) (k : Nat) : Prop where
  fin : crashLoop keep k (names.drop k) F = dCrash F0 keep
  all : ∀ s ∈ names.drop k, (find F (key s)).isSome = true

theorem Rest.step {keep : List Int} {F0 F : List S61} {names : List ByteArray} {k : Nat} (h : Rest keep F0 F names k) (hk : k < names.length) {f : S61} (hf : find F (key names[k]) = some f) : Rest keep F0 (upd (cutF f (crashN keep k f)) F) names (k + 1) := by
  have e : names.drop k = names[k] :: names.drop (k + 1) := (List.getElem_cons_drop hk).symm
  refine ⟨?_, fun s hs => find_upd_isSome (h.all s (by rw [e]; exact List.mem_cons_of_mem _ hs))⟩
  have h1 := h.fin
  rw [e] at h1
  simp only [crashLoop, hf] at h1
  exact h1

set_option maxRecDepth 100000 in
set_option maxHeartbeats 400000 in
theorem crash_calls {w0 w : World} {ok : Nat → Prop} {d : Nat} {F : List S61} (A : Option Addr) (c : Nat) (keep : List Int) (hB : Below w0.heap.size w0 w) (hD : DAt w w0.heap.size ok d F) (hF : F.length < 1073741824)
    (hr : ∀ W, Kept w W ok → Kd.C (Kd.int .i64) W A keep.length keep) (hkl : keep.length ≤ 1073741824) (hb : ∀ x ∈ keep, -9223372036854775808 ≤ x ∧ x ≤ 9223372036854775807) :
    Calls Try.prog 12 #[ptr d, .slice A keep.length c] w fun e w' => e = .returned (.tuple #[]) ∧ Next w0 w w' ok d (dCrash F keep) := by
  unfold ptr
  go_enter Try.func12, Try.ntmps12
  go_wp2_with fail
  refine (names_calls hD hF).mono ?_
  rintro e w1 ⟨v, rfl, hnm, hbl⟩
  obtain ⟨A1, c1, hv1⟩ := Kd.R_slice hnm
  rw [hv1] at hnm ⊢
  clear hv1
  have hD1 : DAt w1 w0.heap.size (fun k => ok k ∧ k < w.heap.size) d F := by
    obtain ⟨m, n, L, h, e⟩ := hD
    exact ⟨m, n, L, h.bound.move (fun k hk _ => hbl.block k hk.2), e⟩
  have namesz : ∀ s ∈ namesOf F, s.size ≤ 16 := fun s hs => namesOf_size hD1.nm hs
  have hnl : Aside0 ((namesOf F).length < 1073741824) := ⟨by unfold namesOf; simpa using hF⟩
  have hR0 : Aside0 (Rest keep F F (namesOf F) 0) := ⟨⟨rfl, fun s hs => mem_namesOf hs⟩⟩
  have HB1 := Aside0.mk (below_then hB hB.size hbl)
  have HK1 := Aside0.mk (Kept.of_below hbl ok)
  have HR := Aside0.mk hr
  have Hb := Aside0.mk hb
  clear hD hbl hr hb hF hB
  generalize namesOf F = names at *
  go_wp2
  go_loopw [11] (fun i wr => ∃ (k : Nat) (F' : List S61), k ≤ names.length ∧ i = .int .i64 k ∧ DAt wr w0.heap.size (fun k => ok k ∧ k < w.heap.size) d F' ∧ Rest keep F F' names k ∧ Below w0.heap.size w0 wr ∧ Kept w wr ok ∧
      Kd.R Kd.string 9 wr w.heap.size (fun _ => True) (.slice A1 names.length c1) names) (fun i _ => names.length - (intOf i).toNat)
  case atStart => exact ⟨0, F, Nat.zero_le _, rfl, hD1, hR0.out, HB1.out, HK1.out, hnm⟩
  case round =>
    obtain ⟨k, F', hk, rfl, hD2, hRest, hB2, hK2, hnm2⟩ := hrel
    by_cases hkn : k < names.length
    · obtain ⟨f, hff⟩ := Option.isSome_iff_exists.1 (hRest.all names[k] (by rw [(List.getElem_cons_drop hkn).symm]; exact List.mem_cons_self))
      have hRest2 := Aside0.mk (hRest.step hkn hff)
      have hsz := namesz names[k] (List.getElem_mem hkn)
      obtain ⟨m, n, L, h, hLF⟩ := hD2
      rw [← hLF, find_of] at hff
      have hl := h.look names[k] (by unfold maxLen; omega)
      unfold look at hl
      cases hfe : findE L (key names[k]) with
      | none => rw [hfe] at hff; cases hff
      | some x =>
        rw [hfe] at hff hl
        injection hff with hff
        subst hff
        replace hl : (Instr.lookup 51 (.map (some m)) (.string names[k]) false).run Try.prog wr = .ok (.pointer (some ⟨x.fb, 0, none⟩)) wr := hl
        obtain ⟨hx, hkx⟩ := findE_some hfe
        have hx0 := h.files x hx
        obtain ⟨A0, c0, hv0, hc0l, _⟩ := hx0.row.slice
        rw [bytesOf_length] at hv0 hc0l
        obtain ⟨q, hq⟩ := Int.eq_ofNat_of_zero_le hx0.lo
        obtain ⟨hn0, hn1⟩ := crashN_bd (keep := keep) (i := k) hx0.hi
        obtain ⟨nn, hnn⟩ := Int.eq_ofNat_of_zero_le hn0
        have hcd : wr.cell? ⟨d, 0, none⟩ = some (.map (some m)) := blk_cell h.hd 0
        have hc0 : wr.cell? ⟨x.fb, 0, none⟩ = some (.slice A0 x.f.f1.size c0) := by rw [← hv0]; exact blk_cell hx0.blk 0
        have hc1 : wr.cell? ⟨x.fb, 1, none⟩ = some (.int .i64 (q : Int)) := by have := blk_cell hx0.blk 1; rw [hq] at this; exact this
        obtain ⟨ad, ead, hcn⟩ := Kd.at_string (Kd.R_reads' hnm2).2.2 (k : Int) (by omega) (by omega)
        have hrd : rdOf ByteArray.empty names (k : Int) = names[k] := by simp [rdOf, hkn]
        rw [hrd, Int.toNat_natCast] at hcn
        subst ead
        obtain ⟨P, hP⟩ : ∃ P, P = q + nn := ⟨_, rfl⟩
        have hlen := hx0.len
        have hzq : P ≤ x.f.f1.size := by omega
        have hPc : P ≤ c0 := by omega
        have hqz : q ≤ x.f.f1.size := by omega
        have hcut := h.cutx hx hv0 P hzq
        have hceq : cutF x.f (crashN keep k x.f) = ⟨x.f.f0, x.f.f1.extract 0 P, (P : Int)⟩ := by
          unfold cutF
          rw [hnn, hq, show (q : Int) + (nn : Int) = (P : Int) by omega, Int.toNat_natCast]
        have hDn : Aside0 (∀ wf : World, wf.heap = ((wr.setCell ⟨x.fb, 1, none⟩ (.int .i64 (P : Int))).setCell ⟨x.fb, 0, none⟩ (.slice A0 P P)).heap → DAt wf w0.heap.size (fun k => ok k ∧ k < w.heap.size) d (upd (cutF x.f (crashN keep k x.f)) F')) := ⟨fun wf hwf => by
          refine ⟨m, n, _, hcut.move (fun j _ _ => by rw [hwf]), ?_⟩
          rw [updE_map, hLF, hceq]⟩
        have hKn : Aside0 (Below w0.heap.size w0 ((wr.setCell ⟨x.fb, 1, none⟩ (.int .i64 (P : Int))).setCell ⟨x.fb, 0, none⟩ (.slice A0 P P)) ∧ Kept w ((wr.setCell ⟨x.fb, 1, none⟩ (.int .i64 (P : Int))).setCell ⟨x.fb, 0, none⟩ (.slice A0 P P)) ok ∧
            Kd.R Kd.string 9 ((wr.setCell ⟨x.fb, 1, none⟩ (.int .i64 (P : Int))).setCell ⟨x.fb, 0, none⟩ (.slice A0 P P)) w.heap.size (fun _ => True) (.slice (some ad) names.length c1) names) := ⟨by
          refine ⟨(hB2.setCell hx0.ge _).setCell hx0.ge _, (hK2.setCell (.inl hx0.okb.1) _).setCell (.inl hx0.okb.1) _, ?_⟩
          exact Kd.R_mono (Kd.R_step (Kd.R_bound hnm2) (fun j hj _ => by
            have := hx0.okb.2
            rw [Below.heap_setCell _ _ _ _ (by show j ≠ x.fb; omega), Below.heap_setCell _ _ _ _ (by show j ≠ x.fb; omega)])) (fun _ _ => trivial)⟩
        have hfz1 : wr.frozen? ⟨x.fb, 1, none⟩ = false := blk_frozen hx0.blk 1
        have hcs0 : (wr.setCell ⟨x.fb, 1, none⟩ (.int .i64 (P : Int))).cell? ⟨x.fb, 0, none⟩ = some (.slice A0 x.f.f1.size c0) := by
          rw [← hv0, blk_cell (blk_set hx0.blk 1 _)]; simp
        have hcs1 : (wr.setCell ⟨x.fb, 1, none⟩ (.int .i64 (P : Int))).cell? ⟨x.fb, 1, none⟩ = some (.int .i64 (P : Int)) := by
          rw [blk_cell (blk_set hx0.blk 1 _)]; simp
        have hfz0 : (wr.setCell ⟨x.fb, 1, none⟩ (.int .i64 (P : Int))).frozen? ⟨x.fb, 0, none⟩ = false := blk_frozen (blk_set hx0.blk 1 _) 0
        have hfzs : Aside0 ((wr.setCell ⟨x.fb, 1, none⟩ (.int .i64 (P : Int))).cell? ⟨x.fb, 0, none⟩ = some (.slice A0 x.f.f1.size c0) ∧ (wr.setCell ⟨x.fb, 1, none⟩ (.int .i64 (P : Int))).cell? ⟨x.fb, 1, none⟩ = some (.int .i64 (P : Int)) ∧ (wr.setCell ⟨x.fb, 1, none⟩ (.int .i64 (P : Int))).frozen? ⟨x.fb, 0, none⟩ = false) := ⟨hcs0, hcs1, hfz0⟩
        have hlen' : x.f.f1.size ≤ 65536 := hlen
        clear hcs0 hcs1 hfz0 hcut hx hkx h hfe hLF hRest hx0 hn0 hn1 hceq hrd hv0 hnm hD1
        by_cases hkk : k < keep.length
        · have hdk : decide ((k : Int) < (keep.length : Int)) = true := by simp; omega
          obtain ⟨ad2, ead2, hck⟩ := Kd.at_int (HR.out wr hK2) (k : Int) (by omega) (by omega)
          subst ead2
          rw [Int.toNat_natCast] at hck
          have hrk : YtahifafnfjcfpaaW.PrintWords.rd keep (k : Int) = keep.getD k 0 := rfl
          rw [hrk] at hck
          have hwq : wrap64 ((q : Int) + (nn : Int)) = (P : Int) := (IntWalk.wrap64_in _ (by omega)).trans (by omega)
          have hval := (crashN_val hkk hq hqz hlen).trans hnn
          clear hrk hnn hq hqz hP
          generalize keep.getD k 0 = kk at hck hval
          go_wp2
          go_quiet (fail)
          go_wp2
          obtain ⟨hcs0, hcs1, hfz0⟩ := hfzs.out
          clear hfzs hwq hval
          change Code.wp _ _ _ _ (World.drewN (wr.setCell ⟨x.fb, 1, none⟩ (.int .i64 (P : Int))) nq)
          generalize hW2 : wr.setCell ⟨x.fb, 1, none⟩ (.int .i64 (P : Int)) = W2 at *
          go_region
          go_wp2
          go_roundw
          case rel => exact ⟨k + 1, _, by omega, by go_num, hDn.out _ rfl, hRest2.out, below_at (m := nq + 1) rfl hKn.out.1, hKn.out.2.1, Kd.R_step hKn.out.2.2 (fun _ _ _ => rfl)⟩
          case measure => simp [intOf]; omega
        · have hdk : decide ((k : Int) < (keep.length : Int)) = false := by simp; omega
          have hn0 : nn = 0 := by
            unfold crashN at hnn
            rw [if_neg hkk] at hnn
            omega
          subst hn0
          obtain rfl : P = q := by omega
          have hwq : wrap64 (P : Int) = (P : Int) := IntWalk.wrap64_in _ (by omega)
          clear hnn hq hqz hP
          have hnl' := hnl.out
          go_wp2
          obtain ⟨hcs0, hcs1, hfz0⟩ := hfzs.out
          clear hfzs hwq
          generalize hW2 : wr.setCell ⟨x.fb, 1, none⟩ (.int .i64 (P : Int)) = W2 at *
          go_region
          go_wp2
          go_roundw
          case rel => exact ⟨k + 1, _, by omega, by go_num, hDn.out _ rfl, hRest2.out, below_at (m := 1) rfl hKn.out.1, hKn.out.2.1, Kd.R_step hKn.out.2.2 (fun _ _ _ => rfl)⟩
          case measure => simp [intOf]; omega
    · have hkN : k = names.length := by omega
      have hd0 : decide ((k : Int) < (names.length : Int)) = false := by simp; omega
      have hfin := hRest.fin
      rw [List.drop_eq_nil_of_le (by omega)] at hfin
      have hfin' : Aside0 (F' = dCrash F keep) := ⟨hfin⟩
      clear hfin
      go_wp2
      go_end0
      exact ⟨rfl, hfin'.out ▸ hD2.mono (fun k hk => .inl hk.1), hB2, hK2⟩
end Go.Proofs.Ytahifafnfjcfpaa.D
