/- The disk's methods New, Append, Remove, Rename. Conditions: as each theorem says. -/
import Derived.Test.YtahifafnfjcfpaaD3
import Derived.Test.YtahifafnfjcfpaaN
namespace Go.Proofs.Ytahifafnfjcfpaa.D
open Go.RowKit Go.Maps Go.Proofs.YtahifafnfjcfpaaW.PrintWords Go.Proofs.YtahifafnfjcfpaaW.PrintLast Go.Proofs.YtahifafnfjcfpaaW.PrintMore
open Go.Proofs.Ytahifafnfjcfpaa.R (S61 k61)

theorem key_inj {a b : ByteArray} (h : key a = key b) : a = b := by
  cases a; cases b
  simp only [key] at h
  exact congrArg ByteArray.mk (Array.toList_inj.1 h)

theorem new_calls (w : World) : Calls Try.prog 9 #[] w fun e w' => ∃ d, e = .returned (ptr d) ∧ DAt w' w.heap.size (fun k => w.heap.size ≤ k) d [] ∧ Below w.heap.size w w' := by
  have hmm := @run_makeMap Try.prog
  unfold ptr
  go_enter Try.func9, Try.ntmps9
  go_wp2
  go_ret
  refine ⟨w.heap.size + 1, rfl, ⟨w.heap.size, 0, [], ⟨?_, ?_, by omega, Nat.le_refl _, by omega, Nat.le_refl _, (fun x hx => by cases hx), (fun x hx => by cases hx)⟩, rfl⟩, ?_⟩
  · have := heap_alloc_new (w.alloc (.map #[] 0)) (.cells #[.map (some w.heap.size)] 53 (0, 0))
    simpa using this
  · exact (World.ownsMap_made (H := Value) w Try.prog 9 rawR).alloc _
  · exact ((Below.refl _ w).alloc (Nat.le_refl _) _).alloc (by simp) _

/-- A file is laid in the place of that of its name, or beside the others. -/
theorem DAtL.putx {w w1 : World} {base : Nat} {ok ok1 : Nat → Prop} {d m n n' : Nat} {L : List E} {x : E} (h : DAtL w base ok d m n L) (hmap : w1.ownsMap Try.prog 9 rawR m n' (Dm (putE x L))) (hf : FileAt w1 base ok1 x) (hok : ∀ k, ok k → ok1 k)
    (hdk : w1.heap[d]? = w.heap[d]?) (hkeep : ∀ y ∈ L, key y.f.f0 ≠ key x.f.f0 → ∀ k, k < w.heap.size → (k = y.fb ∨ y.v.ownBlock = some k) → w1.heap[k]? = w.heap[k]?)
    (hap : ∀ y ∈ L, key y.f.f0 ≠ key x.f.f0 → Apart x y ∧ Apart y x) : DAtL w1 base ok1 d m n' (putE x L) := by
  refine ⟨hdk.trans h.hd, hmap, h.gd, h.gm, hok _ h.okd, hok _ h.okm, fun y hy => ?_, fun y hy z hz hne => ?_⟩
  · rcases mem_putE hy with rfl | ⟨hy, hne⟩
    · exact hf
    · exact ((h.files y hy).keep (fun k _ hl hk => hkeep y hy hne k hl hk)).mono hok
  · rcases mem_putE hy with e1 | ⟨hy', hy1⟩
    · subst e1
      rcases mem_putE hz with e2 | ⟨hz', hz1⟩
      · exact absurd (by rw [e2]) hne
      · exact (hap z hz' hz1).1
    · rcases mem_putE hz with e2 | ⟨hz', hz1⟩
      · subst e2
        exact (hap y hy' hy1).2
      · exact h.apart y hy' z hz' hne

theorem DAtL.row_ne {w : World} {base : Nat} {ok : Nat → Prop} {d m n : Nat} {L : List E} (h : DAtL w base ok d m n L) {g : Nat} {es : Array MapEntry} {c : Nat} (hm : w.heap[g]? = some (.map es c)) {y : E} (hy : y ∈ L) : ∀ k, (k = y.fb ∨ y.v.ownBlock = some k) → k ≠ g := by
  have hf := h.files y hy
  rintro k hk rfl
  rcases hk with rfl | e
  · rw [hf.blk] at hm; cases hm
  · obtain ⟨cells, hc⟩ := hf.row.typed k e
    rw [hc] at hm; cases hm

def dRemove (F : List S61) (s : ByteArray) : List S61 × Int := match find F (key s) with | none => (F, 8) | some _ => (del (key s) F, 0)

/-- 'delete(d.files, name)'. -/
theorem DAtL.drop {w : World} {base : Nat} {ok : Nat → Prop} {d m n : Nat} {L : List E} (h : DAtL w base ok d m n L) {s : ByteArray} {w1 : World} (hown : w1.ownsMap Try.prog 9 rawR m n (Dm (delE (key s) L))) (ht : w.mapTurned w1 m) : DAtL w1 base ok d m n (delE (key s) L) := by
  have hg := ht.grown
  obtain ⟨es, c, hmb, _⟩ := h.map
  refine ⟨(hg.block d (blk_lt h.hd) (fun e => by injection e with e; exact h.m_ne h.hd e.symm)).trans h.hd, hown, h.gd, h.gm, h.okd, h.okm, fun y hy => ?_, fun y hy z hz hne => h.apart y (mem_delE hy) z (mem_delE hz) hne⟩
  exact (h.files y (mem_delE hy)).keep (fun k _ hl hk => hg.block k hl (fun e => by injection e with e; exact h.row_ne hmb (mem_delE hy) k hk e))

set_option maxRecDepth 100000 in
set_option maxHeartbeats 400000 in
theorem remove_calls {w0 w : World} {ok : Nat → Prop} {d : Nat} {F : List S61} (s : ByteArray) (hB : Below w0.heap.size w0 w) (hD : DAt w w0.heap.size ok d F) (hs : s.size ≤ maxLen) :
    Calls Try.prog 27 #[ptr d, .string s] w fun e w' => e = .returned (.int .i64 (dRemove F s).2) ∧ Next w0 w w' ok d (dRemove F s).1 := by
  have hD0 := hD
  obtain ⟨m, n, L, h, rfl⟩ := hD
  have hl := h.look s hs
  have hc : w.cell? ⟨d, 0, none⟩ = some (.map (some m)) := blk_cell h.hd 0
  unfold dRemove
  rw [find_of]
  unfold look at hl
  cases hf : findE L (key s) with
  | none =>
    simp only [Option.map_none]
    rw [hf] at hl
    clear hf
    unfold ptr
    go_enter Try.func27, Try.ntmps27
    go_wp2
    go_ret
    exact ⟨rfl, Next.same hB hD0⟩
  | some x =>
    simp only [Option.map_some]
    rw [hf] at hl
    replace hl : (Instr.lookup 51 (.map (some m)) (.string s) false).run Try.prog w = .ok (.pointer (some ⟨x.fb, 0, none⟩)) w := hl
    clear hf
    have H := Aside0.mk h
    have HB := Aside0.mk hB
    clear hD0 h hB
    unfold ptr
    go_enter Try.func27, Try.ntmps27
    go_wp2_with (at_delete; go_must (refine wpList_delete_own (H := Value) w rfl (.tmp 15) (.tmp 16) 51 9 rfl 55 strKeyed Try.underlying51 rawR m n (Dm L) rfl H.out.map (.string s) (.string (key s)) rfl (WideMaps.keyOf_string_mk Try.underlying9 hs) ?_); intro w1 hown ht)
    go_ret
    rw [Dm_del] at hown
    refine ⟨rfl, ⟨m, n, delE (key s) L, (H.out.drop hown ht).mono (fun _ hk => .inl hk), delE_map _ _⟩, HB.out.grown ht.grown HB.out.size (fun k hk => by cases hk; exact H.out.gm), Kept.of_grown ht.grown (Kept.refl _ _) (fun k hk => by cases hk; exact .inl H.out.okm)⟩

def fileOf (F : List S61) (s : ByteArray) : S61 := (find F (key s)).getD ⟨s, ⟨#[]⟩, 0⟩
def dAppend (F : List S61) (s : ByteArray) (l : List Int) : List S61 × Int :=
  if nameB s = true then
    if (fileOf F s).f1.size + l.length ≤ 65536 then (put ⟨s, (fileOf F s).f1 ++ strOfNums l, (fileOf F s).f2⟩ F, 0) else (F, 6)
  else (F, 11)

theorem bytesOf_append (a b : ByteArray) : bytesOf (a ++ b) = bytesOf a ++ bytesOf b := by simp [bytesOf]
theorem bytesOf_strOfNums {l : List Int} (h : ∀ x ∈ l, 0 ≤ x ∧ x < 256) : bytesOf (strOfNums l) = l := by
  unfold bytesOf
  rw [strOfNums_data, List.map_map]
  conv => rhs; rw [← List.map_id l]
  refine List.map_congr_left fun x hx => ?_
  obtain ⟨h0, h1⟩ := h x hx
  simp only [Function.comp, UInt8.toNat_ofNat', id]
  omega

/-- What a method that answers a number leaves. -/
def Post1 (w0 w : World) (ok : Nat → Prop) (d : Nat) (r : List S61 × Int) (e : Ending) (w' : World) : Prop := e = .returned (.int .i64 r.2) ∧ Next w0 w w' ok d r.1

/-- Behind a file's store and the map's: the disk with its new file. -/
theorem laid_end {w0 w w1 w2 w3 : World} {ok : Nat → Prop} {d m n : Nat} {L : List E} {fb : Nat} {v1 : Value} {f : S61} (H : DAtL w1 w0.heap.size ok d m n L) (hb : w.heap.size ≤ w1.heap.size)
    (hK : Kept w w2 ok) (hB2 : Below w0.heap.size w0 w2) (h12 : w1.heap.size ≤ w2.heap.size) (hd2 : w2.heap[d]? = w1.heap[d]?) (hm2 : w2.heap[m]? = w1.heap[m]?)
    (hblk : w2.heap[fb]? = some (.cells #[v1, .int .i64 f.f2] 57 (0, 0))) (hrow : FRow w2 w0.heap.size (fun k => ok k ∨ w1.heap.size ≤ k) v1 (bytesOf f.f1)) (hge : w0.heap.size ≤ fb) (hok : ok fb ∨ w1.heap.size ≤ fb) (hlo : 0 ≤ f.f2) (hhi : f.f2 ≤ (f.f1.size : Int)) (hlen : f.f1.size ≤ 65536) (hnm : f.f0.size ≤ 16)
    {n' : Nat} (hown : w3.ownsMap Try.prog 9 rawR m n' (Dm (putE ⟨f, fb, v1⟩ L))) (hg3 : w2.grownBy w3 (some m))
    (hkeep : ∀ y ∈ L, key y.f.f0 ≠ key f.f0 → ∀ k, k < w1.heap.size → (k = y.fb ∨ y.v.ownBlock = some k) → w2.heap[k]? = w1.heap[k]?)
    (hap : ∀ y ∈ L, key y.f.f0 ≠ key f.f0 → Apart ⟨f, fb, v1⟩ y ∧ Apart y ⟨f, fb, v1⟩) : Next w0 w w3 ok d (put f (L.map E.f)) := by
  obtain ⟨es, c, hmb, _⟩ := H.map
  have hmb2 := hm2.trans hmb
  have h3 : ∀ k, k < w2.heap.size → k ≠ m → w3.heap[k]? = w2.heap[k]? := fun k hk hne => hg3.block k hk (fun e => hne (by injection e))
  have hfm : fb ≠ m := by
    rintro rfl
    rw [hmb2] at hblk; cases hblk
  have hok1 : ∀ k, (ok k ∨ w1.heap.size ≤ k) → (ok k ∨ w.heap.size ≤ k) := fun k hk => hk.imp id (fun h => Nat.le_trans hb h)
  have hD3 : DAtL w3 w0.heap.size (fun k => ok k ∨ w.heap.size ≤ k) d m n' (putE ⟨f, fb, v1⟩ L) := by
    refine H.putx hown ⟨(h3 fb (blk_lt hblk) hfm).trans hblk, (hrow.mono (fun k _ hk => hok1 k hk)).move (fun k hk => h3 k (hrow.lt k hk) ?_), hge, hok1 _ hok, hlo, hhi, hlen, hnm⟩ (fun k hk => .inl hk) ?_ (fun y hy hne k hlt hk => ?_) hap
    · rintro rfl
      obtain ⟨cells, hc⟩ := hrow.typed k hk
      rw [hmb2] at hc; cases hc
    · exact (h3 d (Nat.lt_of_lt_of_le (blk_lt H.hd) h12) (fun e => H.m_ne H.hd e.symm)).trans hd2
    · exact (h3 k (Nat.lt_of_lt_of_le hlt h12) (H.row_ne hmb hy k hk)).trans (hkeep y hy hne k hlt hk)
  exact ⟨⟨m, n', _, hD3, putE_map _ _⟩, hB2.grown hg3 hB2.size (fun k hk => by cases hk; exact H.gm), Kept.of_grown hg3 hK (fun k hk => by cases hk; exact .inl H.okm)⟩

theorem FB_set {w : World} {fb : Nat} {v0 x : Value} (h : w.heap[fb]? = some (.cells #[v0, x] 57 (0, 0))) (v1 : Value) : (w.setCell ⟨fb, 0, none⟩ v1).heap[fb]? = some (.cells #[v1, x] 57 (0, 0)) := by
  rw [blk_set h]; simp
theorem nm_size {s : ByteArray} (h : nameB s = true) : s.size ≤ 16 := (of_decide_eq_true h : Nm s).2.1

set_option maxRecDepth 100000 in
set_option maxHeartbeats 1000000 in
theorem append_calls {w0 w : World} {ok : Nat → Prop} {d : Nat} {F : List S61} (s : ByteArray) (A : Option Addr) (c : Nat) (l : List Int) (hB : Below w0.heap.size w0 w) (hD : DAt w w0.heap.size ok d F) (hs : s.size ≤ maxLen)
    (hr : ∀ W, Below w.heap.size w W → Kd.C K8 W A l.length l) (hl8 : ∀ x ∈ l, 0 ≤ x ∧ x < 256) (hlc : l.length ≤ 1073741824) (hF : F.length < 1073741824) :
    Calls Try.prog 10 #[ptr d, .string s, .slice A l.length c] w (Post1 w0 w ok d (dAppend F s l)) := by
  by_cases hn : nameB s = true
  · unfold ptr
    go_enter Try.func10, Try.ntmps10
    go_wp2_with fail
    refine (name_calls s w).mono ?_
    rintro e w1 ⟨rfl, hb⟩
    rw [hn]
    have hD1 := hD.below hb
    have hB1 := below_then hB hB.size hb
    obtain ⟨m, n, L, h, hLF⟩ := hD1
    have hl := h.look s hs
    have hc : w1.cell? ⟨d, 0, none⟩ = some (.map (some m)) := blk_cell h.hd 0
    unfold look at hl
    have hfo : fileOf F s = (match findE L (key s) with | some x => x.f | none => ⟨s, ⟨#[]⟩, 0⟩) := by
      unfold fileOf
      rw [← hLF, find_of]
      cases findE L (key s) <;> rfl
    have hkept1 := Kept.of_below hb ok
    have hdk : ∀ k, (ok k ∨ w1.heap.size ≤ k) → (ok k ∨ w.heap.size ≤ k) := fun k hk => hk.imp id (fun hk => Nat.le_trans hb.size hk)
    cases hf : findE L (key s) with
    | none =>
      rw [hf] at hl hfo
      simp only [] at hl hfo
      by_cases hfit : 65536 < l.length
      · have hd1 : decide ((65536 : Int) < (l.length : Int)) = true := by simp; omega
        have hv : Aside0 (dAppend F s l = (F, 6)) := ⟨by unfold dAppend; rw [if_pos hn, hfo, if_neg (by show ¬ (0 + l.length ≤ 65536); omega)]⟩
        clear hf hfo
        go_wp2
        go_ret
        unfold Post1
        rw [hv.out]
        obtain ⟨h1, h2, h3⟩ := Next.same hB1 ⟨m, n, L, h, hLF⟩
        exact ⟨rfl, (DAt.below h1 (below_alloc (Below.refl _ _) _)).mono hdk, h2.alloc h2.size _, (hkept1).alloc _⟩
      · have hd1 : decide ((65536 : Int) < (l.length : Int)) = false := by simp; omega
        have hv : Aside0 (dAppend F s l = (put ⟨s, strOfNums l, 0⟩ F, 0)) := ⟨by
          unfold dAppend
          rw [if_pos hn, hfo, if_pos (by show 0 + l.length ≤ 65536; omega)]
          congr 2⟩
        have hrr := Aside0.mk hr
        have H := Aside0.mk h
        have HLF := Aside0.mk hLF
        have HF := Aside0.mk hF
        have HL8 := Aside0.mk hl8
        have HFE := Aside0.mk hf
        have hw01 := hB1.size
        clear hr h hf hfo hLF hF hD hl8
        have hdne : d ≠ w1.heap.size := fun e => by have := blk_lt H.out.hd; omega
        go_wp2_with (first
          | (at_builtin; refine wpList_append_F rfl (.tmp 34) (.tmp 35) rfl w0.heap.size (fun k => w1.heap.size ≤ k) (.slice none 0 0) [] rfl A l.length c l rfl rfl (.inl ⟨rfl, rfl⟩) (hrr.out _ (hb.alloc hb.size _)) (by simp; omega) (by simp; omega) ?_; intro v1 w2 hrow hgrow _; obtain ⟨A1, c1, hv1, _, _⟩ := hrow.slice; have HR := Aside0.mk hrow; have HG := Aside0.mk hgrow; rw [hv1]; have HV := Aside0.mk hv1; clear hrow hgrow hv1; have hfb := blk_grown (heap_alloc_new w1 (.cells #[.slice none 0 0, .int .i64 0] 57)) HG.out (by simp [Value.ownBlock]); have HFB := Aside0.mk hfb; have hcf : w2.cell? ⟨w1.heap.size, 0, none⟩ = some (.slice none 0 0) := blk_cell hfb 0; have hff := blk_frozen hfb 0; clear hfb; have hdw : w2.heap[d]? = some (.cells #[.map (some m)] 53 (0, 0)) := blk_grown (by rw [Below.heap_alloc _ _ _ (blk_lt H.out.hd)]; exact H.out.hd) HG.out (by simp [Value.ownBlock]); have HDW := Aside0.mk hdw; have hcd : ∀ u, (w2.setCell ⟨w1.heap.size, 0, none⟩ u).cell? ⟨d, 0, none⟩ = some (.map (some m)) := (fun u => blk_cell (blk_far HDW.out (p := ⟨w1.heap.size, 0, none⟩) hdne u) 0); clear hdw)
          | (at_mapUpdate; go_must (refine wpList_mapUpdate_own (H := Value) _ rfl (.tmp 42) (.tmp 43) (.tmp 44) 51 rfl 9 55 strKeyed Try.underlying51 rawR m L.length (Dm L) rfl (map_move (map_tight H.out.map) ?hmv) ?hnn (.string s) (ptr w1.heap.size) (.string (key s)) rfl rfl (WideMaps.keyOf_string_mk Try.underlying9 hs) (.held (ptr w1.heap.size)) [] rfl ?_); rotate_left; rotate_left; intro w3 hown3 hg3))
        case hmv =>
          rw [Below.heap_setCell _ _ _ _ (by have := H.out.map.lt; show m ≠ w1.heap.size; omega), HG.out.block m (by have := H.out.map.lt; simp; omega) (by simp [Value.ownBlock]), Below.heap_alloc _ _ _ H.out.map.lt]
        case hnn =>
          have h1 := HF.out
          rw [← HLF.out, List.length_map] at h1
          unfold maxLen; omega
        go_ret
        unfold Post1
        rw [hv.out]
        refine ⟨rfl, ?_⟩
        have hsz := HG.out.size
        simp only [World.size_alloc] at hsz
        have hB2 : Below w0.heap.size w0 w2 := (hB1.alloc hB1.size _).grown HG.out (by simp; omega) (fun k hk => by simp [Value.ownBlock] at hk)
        have hK2 : Kept w w2 ok := Kept.of_grown HG.out (hkept1.alloc _) (fun k hk => by simp [Value.ownBlock] at hk)
        rw [Dm_put ⟨⟨s, strOfNums l, 0⟩, w1.heap.size, .slice A1 ([] ++ l).length c1⟩ L] at hown3
        have hblk := FB_set HFB.out (.slice A1 ([] ++ l).length c1)
        rw [← HLF.out]
        have hne : ∀ y ∈ L, ∀ k, (k = y.fb ∨ y.v.ownBlock = some k) → k < w1.heap.size := fun y hy k hk => by
          have hf := H.out.files y hy
          rcases hk with rfl | e
          · exact hf.lt
          · exact hf.row.lt k e
        have hold : ∀ k, k < w1.heap.size → (w2.setCell ⟨w1.heap.size, 0, none⟩ (.slice A1 ([] ++ l).length c1)).heap[k]? = w1.heap[k]? := fun k hk => by
          rw [Below.heap_setCell _ _ _ _ (by show k ≠ w1.heap.size; omega), HG.out.block k (by simp; omega) (by simp [Value.ownBlock]), Below.heap_alloc _ _ _ hk]
        have hr1 := HR.out
        rw [HV.out] at hr1
        have hrnew : ∀ k, (Value.slice A1 ([] ++ l).length c1).ownBlock = some k → w1.heap.size ≤ k := fun k hk => by
          rcases hr1.isok k hk with h | h
          · exact h
          · simp at h; omega
        refine laid_end H.out hb.size (hK2.setCell (.inr hb.size) _) (hB2.setCell hw01 _) (by simp [World.setCell]; omega) (hold d (blk_lt H.out.hd)) (hold m H.out.map.lt) hblk ?_ hw01 (.inr (Nat.le_refl _)) (Int.le_refl _) (Int.natCast_nonneg _) ?_ (nm_size hn) hown3 hg3
          (fun y hy _ k hk _ => hold k hk) (fun y hy _ => ?_)
        · rw [bytesOf_strOfNums HL8.out]
          have hr2 := hr1.mono (ok' := fun k => ok k ∨ w1.heap.size ≤ k) (fun k hk _ => .inr (hrnew k hk))
          rw [List.nil_append] at hr2 ⊢
          refine hr2.move (fun k hk => Below.heap_setCell _ _ _ _ (fun e => ?_))
          obtain ⟨cells, hc'⟩ := hr2.typed k hk
          exact blk_ne hc' HFB.out (by decide) e
        · rw [strOfNums_size]; omega
        · have h1 : w1.heap.size ≠ y.fb := fun e => by have := hne y hy _ (.inl e); omega
          exact ⟨⟨h1, fun k e e' => by have := hrnew k e; have := hne y hy k (.inr e'); omega⟩, fun e => h1 e.symm, fun k e e' => by have := hrnew k e'; have := hne y hy k (.inr e); omega⟩
    | some x =>
      rw [hf] at hl hfo
      simp only [] at hl hfo
      replace hl : (Instr.lookup 51 (.map (some m)) (.string s) false).run Try.prog w1 = .ok (.pointer (some ⟨x.fb, 0, none⟩)) w1 := hl
      obtain ⟨hx, hk⟩ := findE_some hf
      have hfs : x.f.f0 = s := key_inj hk
      have hx0 := h.files x hx
      obtain ⟨A0, c0, hv0, _, _⟩ := hx0.row.slice
      rw [bytesOf_length] at hv0
      have hc0 : w1.cell? ⟨x.fb, 0, none⟩ = some (.slice A0 x.f.f1.size c0) := by rw [← hv0]; exact blk_cell hx0.blk 0
      have hlen0 : x.f.f1.size ≤ 65536 := hx0.len
      by_cases hfit : 65536 < x.f.f1.size + l.length
      · have hd1 : decide ((65536 : Int) < (x.f.f1.size : Int) + (l.length : Int)) = true := by simp; omega
        have hv : Aside0 (dAppend F s l = (F, 6)) := ⟨by unfold dAppend; rw [if_pos hn, hfo, if_neg (by omega)]⟩
        clear hf hfo hk hfs hv0
        go_wp2
        go_ret
        unfold Post1
        rw [hv.out]
        obtain ⟨h1, h2, h3⟩ := Next.same hB1 ⟨m, n, L, h, hLF⟩
        exact ⟨rfl, h1.mono hdk, h2, hkept1⟩
      · have hd1 : decide ((65536 : Int) < (x.f.f1.size : Int) + (l.length : Int)) = false := by simp; omega
        have hv : Aside0 (dAppend F s l = (put ⟨s, x.f.f1 ++ strOfNums l, x.f.f2⟩ F, 0)) := ⟨by
          unfold dAppend
          rw [if_pos hn, hfo, if_pos (by omega)]⟩
        have hrr := Aside0.mk hr
        have H := Aside0.mk h
        have HLF := Aside0.mk hLF
        have HF := Aside0.mk hF
        have HL8 := Aside0.mk hl8
        have HX := Aside0.mk hx
        have HX0 := Aside0.mk hx0
        have HS := Aside0.mk hfs
        have HV0 := Aside0.mk hv0
        have hrow0 : Aside0 (FRow w1 w0.heap.size ok (.slice A0 x.f.f1.size c0) (bytesOf x.f.f1)) := ⟨hv0 ▸ hx0.row⟩
        have hdb : Aside0 (d ≠ x.fb) := ⟨blk_ne h.hd hx0.blk (by decide)⟩
        have hbr : Aside0 (some x.fb ≠ (Value.slice A0 x.f.f1.size c0).ownBlock) := ⟨fun e => by
          obtain ⟨cells, hc'⟩ := hrow0.out.typed x.fb e.symm
          exact blk_ne hx0.blk hc' (by decide) rfl⟩
        have hdr : Aside0 (some d ≠ (Value.slice A0 x.f.f1.size c0).ownBlock) := ⟨fun e => by
          obtain ⟨cells, hc'⟩ := hrow0.out.typed d e.symm
          exact blk_ne h.hd hc' (by decide) rfl⟩
        have hmr : Aside0 (some m ≠ (Value.slice A0 x.f.f1.size c0).ownBlock) := ⟨fun e => by
          obtain ⟨cells, hc'⟩ := hrow0.out.typed m e.symm
          exact h.m_ne hc' rfl⟩
        have hw01 := hB1.size
        have hbl := bytesOf_length x.f.f1
        have HBL := Aside0.mk hbl
        clear hr h hf hfo hLF hF hD hl8 hx hx0 hfs hk hv0 hbl
        go_wp2_with (first
          | (at_builtin; refine wpList_append_F rfl (.tmp 34) (.tmp 35) rfl w0.heap.size ok (.slice A0 x.f.f1.size c0) (bytesOf x.f.f1) rfl A l.length c l rfl rfl hrow0.out (hrr.out _ hb) (by rw [HBL.out]; omega) hw01 ?_; intro v1 w2 hrow hgrow hat; obtain ⟨A1, c1, hv1, _, _⟩ := hrow.slice; have HAT := Aside0.mk hat; clear hat; have HR := Aside0.mk hrow; have HG := Aside0.mk hgrow; rw [hv1]; have HV := Aside0.mk hv1; clear hrow hgrow hv1; have hfb := blk_grown HX0.out.blk HG.out hbr.out; have HFB := Aside0.mk hfb; have hcf : w2.cell? ⟨x.fb, 0, none⟩ = some x.v := blk_cell hfb 0; have hff := blk_frozen hfb 0; clear hfb; have hdw := blk_grown H.out.hd HG.out hdr.out; have HDW := Aside0.mk hdw; have hcd : ∀ u, (w2.setCell ⟨x.fb, 0, none⟩ u).cell? ⟨d, 0, none⟩ = some (.map (some m)) := (fun u => blk_cell (blk_far HDW.out (p := ⟨x.fb, 0, none⟩) hdb.out u) 0); clear hdw)
          | (at_mapUpdate; go_must (refine wpList_mapUpdate_own (H := Value) _ rfl (.tmp 42) (.tmp 43) (.tmp 44) 51 rfl 9 55 strKeyed Try.underlying51 rawR m L.length (Dm L) rfl (map_move (map_tight H.out.map) ?hmv2) ?hnn2 (.string s) (ptr x.fb) (.string (key s)) rfl rfl (WideMaps.keyOf_string_mk Try.underlying9 hs) (.held (ptr x.fb)) [] rfl ?_); rotate_left; rotate_left; intro w3 hown3 hg3))
        case hmv2 =>
          obtain ⟨es, cl, hmb, _⟩ := H.out.map
          rw [Below.heap_setCell _ _ _ _ (by show m ≠ x.fb; exact H.out.m_ne HX0.out.blk), HG.out.block m (blk_lt hmb) hmr.out]
        case hnn2 =>
          have h1 := HF.out
          rw [← HLF.out, List.length_map] at h1
          unfold maxLen; omega
        go_ret
        unfold Post1
        rw [hv.out]
        refine ⟨rfl, ?_⟩
        rw [← List.length_append] at hg3
        have hsz := HG.out.size
        have hgeb : ∀ k, (Value.slice A0 x.f.f1.size c0).ownBlock = some k → w0.heap.size ≤ k := hrow0.out.ge
        have hB2 : Below w0.heap.size w0 w2 := hB1.grown HG.out hw01 (fun k hk => hgeb k hk)
        have hK2 : Kept w w2 ok := Kept.of_grown HG.out hkept1 (fun k hk => .inl (hrow0.out.isok k hk))
        rw [← HS.out] at hown3
        rw [show key x.f.f0 = key (E.mk ⟨x.f.f0, x.f.f1 ++ strOfNums l, x.f.f2⟩ x.fb (.slice A1 (bytesOf x.f.f1 ++ l).length c1)).f.f0 from rfl, Dm_put ⟨⟨x.f.f0, x.f.f1 ++ strOfNums l, x.f.f2⟩, x.fb, .slice A1 (bytesOf x.f.f1 ++ l).length c1⟩ L] at hown3
        rw [← HS.out]
        have hblk := FB_set HFB.out (.slice A1 (bytesOf x.f.f1 ++ l).length c1)
        rw [← HLF.out]
        have hr1 := HR.out
        rw [HV.out] at hr1
        have hrnew : ∀ k, (Value.slice A1 (bytesOf x.f.f1 ++ l).length c1).ownBlock = some k → x.v.ownBlock = some k ∨ w1.heap.size ≤ k := fun k hk => by
          have h1 := HAT.out
          rw [HV.out, hk, ← HV0.out] at h1
          rcases h1 with h1 | ⟨b, h1, h2⟩
          · exact .inl h1.symm
          · injection h1 with h1; exact .inr (by omega)
        have hold : ∀ k, k < w1.heap.size → k ≠ x.fb → x.v.ownBlock ≠ some k → (w2.setCell ⟨x.fb, 0, none⟩ (.slice A1 (bytesOf x.f.f1 ++ l).length c1)).heap[k]? = w1.heap[k]? := fun k hk hne hne2 => by
          rw [Below.heap_setCell _ _ _ _ hne, HG.out.block k hk (fun e => hne2 (by rw [HV0.out]; exact e.symm))]
        have hfl : x.f.f1.size + l.length ≤ 65536 := by omega
        have hszA : (x.f.f1 ++ strOfNums l).size = x.f.f1.size + l.length := by rw [ByteArray.size_append, strOfNums_size]
        have hnmx := HX0.out.nm
        refine laid_end H.out hb.size (hK2.setCell (.inl HX0.out.okb) _) (hB2.setCell HX0.out.ge _) (by simp [World.setCell]; omega) (hold d (blk_lt H.out.hd) hdb.out (fun e => hdr.out (by rw [← HV0.out]; exact e.symm))) (hold m H.out.map.lt (H.out.m_ne HX0.out.blk) (fun e => hmr.out (by rw [← HV0.out]; exact e.symm))) hblk ?_ HX0.out.ge (.inl HX0.out.okb) HX0.out.lo ?_ ?_ hnmx hown3 hg3
          (fun y hy hne k hk hky => ?_) (fun y hy hne => ?_)
        · show FRow _ _ _ _ (bytesOf (x.f.f1 ++ strOfNums l))
          rw [bytesOf_append, bytesOf_strOfNums HL8.out]
          refine hr1.move (fun k hk => Below.heap_setCell _ _ _ _ (fun e => ?_))
          obtain ⟨cells, hc'⟩ := hr1.typed k hk
          exact blk_ne hc' HFB.out (by decide) e
        · have := HX0.out.hi
          show x.f.f2 ≤ ((x.f.f1 ++ strOfNums l).size : Int)
          omega
        · show (x.f.f1 ++ strOfNums l).size ≤ 65536
          omega
        · have ha := H.out.apart x HX.out y hy (fun e => hne e.symm)
          have hyf := H.out.files y hy
          refine hold k hk ?_ ?_
          · rcases hky with rfl | e
            · exact fun e => ha.1 e.symm
            · rintro rfl
              obtain ⟨c, hc⟩ := hyf.row.typed _ e
              exact blk_ne HX0.out.blk hc (by decide) rfl
          · rcases hky with rfl | e
            · intro e
              obtain ⟨c, hc⟩ := HX0.out.row.typed _ e
              exact blk_ne hyf.blk hc (by decide) rfl
            · exact fun e' => ha.2 k e' e
        · have ha := H.out.apart x HX.out y hy (fun e => hne e.symm)
          have hyf := H.out.files y hy
          have hr' : ∀ k, (Value.slice A1 (bytesOf x.f.f1 ++ l).length c1).ownBlock = some k → y.v.ownBlock ≠ some k := fun k e e' => by
            rcases hrnew k e with h | h
            · exact ha.2 k h e'
            · have := hyf.row.lt k e'; omega
          exact ⟨⟨ha.1, hr'⟩, fun e => ha.1 e.symm, fun k e e' => hr' k e' e⟩
  · have hn' : nameB s = false := by simpa using hn
    have hv : Aside0 (dAppend F s l = (F, 11)) := ⟨by unfold dAppend; rw [if_neg hn]⟩
    unfold ptr
    go_enter Try.func10, Try.ntmps10
    go_wp2_with (go_at_call 20; refine (name_calls s w).mono ?_; rintro e w1 ⟨rfl, hb⟩; rw [hn'])
    go_ret
    obtain ⟨h1, h2, h3⟩ := Next.same (below_then hB hB.size hb) (hD.below hb)
    unfold Post1
    rw [hv.out]
    exact ⟨rfl, h1.mono (fun k hk => hk.imp id (fun hk => Nat.le_trans hb.size hk)), h2, Kept.of_below hb _⟩
end Go.Proofs.Ytahifafnfjcfpaa.D
