/- The disk's methods that change no map: Sync, Read. Conditions: as each theorem says. -/
import Derived.Test.YtahifafnfjcfpaaD1
import Derived.WalkLawsBesides
import Derived.WalkSpells
import Derived.Lib.Hide
namespace Go.Proofs.Ytahifafnfjcfpaa.D
open Go.RowKit Go.Maps Go.Proofs.YtahifafnfjcfpaaW.PrintWords Go.Proofs.YtahifafnfjcfpaaW.PrintLast Go.Proofs.YtahifafnfjcfpaaW.PrintMore
open Go.Proofs.Ytahifafnfjcfpaa.R (S61 k61)

/-- What a method leaves. -/
structure Next (w0 w w' : World) (ok : Nat → Prop) (d : Nat) (F : List S61) : Prop where
  disk : DAt w' w0.heap.size (fun k => ok k ∨ w.heap.size ≤ k) d F
  below : Below w0.heap.size w0 w'
  kept : Kept w w' ok

def dSync (F : List S61) (s : ByteArray) : List S61 × Int := match find F (key s) with | none => (F, 8) | some f => (upd ⟨f.f0, f.f1, f.f1.size⟩ F, 0)

theorem find_of (L : List E) (n : List UInt8) : find (L.map E.f) n = (findE L n).map E.f := findE_map L n

theorem mem_updE {x y : E} {L : List E} (h : y ∈ updE x L) : y = x ∨ (y ∈ L ∧ key y.f.f0 ≠ key x.f.f0) := by
  simp only [updE, List.mem_map] at h
  obtain ⟨z, hz, rfl⟩ := h
  split
  · exact .inl rfl
  · rename_i hne; exact .inr ⟨hz, hne⟩
theorem Dm_updE {x x0 : E} {L : List E} (hb : x.fb = x0.fb) (hk : key x.f.f0 = key x0.f.f0) (hu : ∀ y ∈ L, key y.f.f0 = key x0.f.f0 → y.fb = x0.fb) : Dm (updE x L) = Dm L := by
  unfold Dm updE
  rw [List.map_map]
  congr 1
  refine List.map_congr_left fun y hy => ?_
  simp only [Function.comp]
  split
  · rename_i h
    have := hu y hy (h.trans hk)
    simp only [ent]
    rw [hb, this, h]
  · rfl

/-- A file's cells have been written, or its row: the others stay. -/
theorem DAtL.change {w w1 : World} {base : Nat} {ok ok1 : Nat → Prop} {d m n : Nat} {L : List E} {x0 x : E} (h : DAtL w base ok d m n L) (hx : x0 ∈ L) (hb : x.fb = x0.fb) (hk : key x.f.f0 = key x0.f.f0)
    (hu : ∀ y ∈ L, key y.f.f0 = key x0.f.f0 → y.fb = x0.fb)
    (hok : ∀ k, ok k → ok1 k) (hf : FileAt w1 base ok1 x) (hr : ∀ k, x.v.ownBlock = some k → x0.v.ownBlock = some k ∨ w.heap.size ≤ k)
    (hm : ∀ k, k < w.heap.size → k ≠ x0.fb → x0.v.ownBlock ≠ some k → w1.heap[k]? = w.heap[k]?) : DAtL w1 base ok1 d m n (updE x L) := by
  have hx0 := h.files x0 hx
  have hmb := h.m_ne hx0.blk
  have hdb : d ≠ x0.fb := blk_ne h.hd hx0.blk (by decide)
  have hmr : x0.v.ownBlock ≠ some m := fun e => by
    obtain ⟨c, hc⟩ := hx0.row.typed m e
    exact h.m_ne hc rfl
  have hdr : x0.v.ownBlock ≠ some d := fun e => by
    obtain ⟨c, hc⟩ := hx0.row.typed d e
    exact blk_ne h.hd hc (by decide) rfl
  refine ⟨(hm d (blk_lt h.hd) hdb hdr).trans h.hd, ?_, h.gd, h.gm, hok _ h.okd, hok _ h.okm, fun y hy => ?_, fun y hy z hz hne => ?_⟩
  · rw [Dm_updE hb hk hu]
    exact map_move h.map (hm m h.map.lt hmb hmr)
  · rcases mem_updE hy with rfl | ⟨hy, hne⟩
    · exact hf
    · have hy0 := h.files y hy
      have ha := h.apart x0 hx y hy (fun e => hne (e.symm.trans hk.symm))
      refine (hy0.keep (fun k _ hl hk' => hm k hl ?_ ?_)).mono hok
      · rcases hk' with rfl | e
        · exact fun e => ha.1 e.symm
        · rintro rfl
          obtain ⟨c, hc⟩ := hy0.row.typed _ e
          exact blk_ne hx0.blk hc (by decide) rfl
      · rcases hk' with rfl | e
        · intro e
          obtain ⟨c, hc⟩ := hx0.row.typed _ e
          exact blk_ne hy0.blk hc (by decide) rfl
        · exact fun e' => ha.2 k e' e
  · have key1 : ∀ a ∈ L, key a.f.f0 ≠ key x.f.f0 → Apart x a ∧ Apart a x := by
      intro a ha hne
      have h1 := h.apart x0 hx a ha (fun e => hne (e.symm.trans hk.symm))
      have ha0 := h.files a ha
      have hrow : ∀ k, x.v.ownBlock = some k → a.v.ownBlock ≠ some k := by
        intro k e
        rcases hr k e with e | e
        · exact h1.2 k e
        · intro e2
          have := ha0.row.lt k e2
          omega
      exact ⟨⟨fun e => h1.1 (hb ▸ e), hrow⟩, fun e => h1.1 (hb ▸ e.symm), fun k e e2 => hrow k e2 e⟩
    rcases mem_updE hy with e1 | ⟨hy', hy1⟩
    · subst e1
      rcases mem_updE hz with e2 | ⟨hz', hz1⟩
      · exact absurd (by rw [e2]) hne
      · exact (key1 z hz' hz1).1
    · rcases mem_updE hz with e2 | ⟨hz', hz1⟩
      · subst e2
        exact (key1 y hy' hy1).2
      · exact h.apart y hy' z hz' hne

theorem Next.same {w0 w : World} {ok : Nat → Prop} {d : Nat} {F : List S61} (hB : Below w0.heap.size w0 w) (hD : DAt w w0.heap.size ok d F) : Next w0 w w ok d F := by
  obtain ⟨m, n, L, h, rfl⟩ := hD
  exact ⟨⟨m, n, L, h.mono (fun _ hk => .inl hk), rfl⟩, hB, Kept.refl _ _⟩
theorem same_fb {w : World} {base : Nat} {ok : Nat → Prop} {d m n : Nat} {L : List E} (h : DAtL w base ok d m n L) : L.Pairwise (fun a b => key a.f.f0 ≠ key b.f.f0) := by
  obtain ⟨es, he, hp⟩ := h.map.tidy strKeyed
  have : es = L.map ent := by
    have : Dm L = .map es := he
    unfold Dm at this
    injection this with this
    exact this.symm
  subst this
  rw [List.pairwise_map] at hp
  refine hp.imp (fun {a b} hab e => hab ?_)
  simp only [ent]
  rw [e]
theorem uniq0 : ∀ {L : List E}, L.Pairwise (fun a b => key a.f.f0 ≠ key b.f.f0) → ∀ {x : E}, x ∈ L → ∀ y ∈ L, key y.f.f0 = key x.f.f0 → y = x
  | [], _, x, hx, _, _, _ => by cases hx
  | a :: r, hp, x, hx, y, hy, e => by
    obtain ⟨h1, h2⟩ := List.pairwise_cons.1 hp
    rcases List.mem_cons.1 hx with ex | hx
    · rcases List.mem_cons.1 hy with ey | hy
      · rw [ex, ey]
      · exact absurd (ex ▸ e.symm) (h1 y hy)
    · rcases List.mem_cons.1 hy with ey | hy
      · exact absurd (ey ▸ e) (h1 x hx)
      · exact uniq0 h2 hx y hy e
theorem uniq {w : World} {base : Nat} {ok : Nat → Prop} {d m n : Nat} {L : List E} (h : DAtL w base ok d m n L) {x : E} (hx : x ∈ L) : ∀ y ∈ L, key y.f.f0 = key x.f.f0 → y = x := uniq0 (same_fb h) hx

set_option maxRecDepth 100000 in
set_option maxHeartbeats 400000 in
theorem sync_calls {w0 w : World} {ok : Nat → Prop} {d : Nat} {F : List S61} (s : ByteArray) (hB : Below w0.heap.size w0 w) (hD : DAt w w0.heap.size ok d F) (hs : s.size ≤ maxLen) :
    Calls Try.prog 11 #[ptr d, .string s] w fun e w' => e = .returned (.int .i64 (dSync F s).2) ∧ Next w0 w w' ok d (dSync F s).1 := by
  have hD0 := hD
  obtain ⟨m, n, L, h, rfl⟩ := hD
  have hl := h.look s hs
  have hc : w.cell? ⟨d, 0, none⟩ = some (.map (some m)) := blk_cell h.hd 0
  unfold dSync
  rw [find_of]
  unfold look at hl
  cases hf : findE L (key s) with
  | none =>
    rw [hf] at hl
    clear hf
    unfold ptr
    go_enter Try.func11, Try.ntmps11
    go_wp2
    go_ret
    exact ⟨rfl, Next.same hB hD0⟩
  | some x =>
    simp only [Option.map_some]
    rw [hf] at hl
    obtain ⟨hx, hk⟩ := findE_some hf
    clear hf
    have hx0 := h.files x hx
    obtain ⟨A, c, hv, _, hlen⟩ := hx0.row.slice
    rw [bytesOf_length] at hv
    have hc0 : w.cell? ⟨x.fb, 0, none⟩ = some (.slice A x.f.f1.size c) := by rw [← hv]; exact blk_cell hx0.blk 0
    have hc1 : w.cell? ⟨x.fb, 1, none⟩ = some (.int .i64 x.f.f2) := blk_cell hx0.blk 1
    have hf1 : w.frozen? ⟨x.fb, 1, none⟩ = false := blk_frozen hx0.blk 1
    have hset : (w.setCell ⟨x.fb, 1, none⟩ (.int .i64 (x.f.f1.size : Int))).heap[x.fb]? = some (.cells #[x.v, .int .i64 (x.f.f1.size : Int)] 57 (0, 0)) := by
      rw [blk_set hx0.blk]; simp
    have hN : Aside0 (Next w0 w (w.setCell ⟨x.fb, 1, none⟩ (.int .i64 (x.f.f1.size : Int))) ok d (upd ⟨x.f.f0, x.f.f1, x.f.f1.size⟩ (L.map E.f))) := by
      refine Aside0.mk ⟨⟨m, n, updE ⟨⟨x.f.f0, x.f.f1, x.f.f1.size⟩, x.fb, x.v⟩ L, ?_, updE_map _ _⟩, ?_, ?_⟩
      · refine h.change hx rfl rfl (fun y hy e => by rw [uniq h hx y hy e]) (fun k hk => .inl hk) ⟨hset, ?_, hx0.ge, .inl hx0.okb, Int.natCast_nonneg _, Int.le_refl _, hx0.len, hx0.nm⟩ (fun k e => .inl e) (fun k _ hne _ => Below.heap_setCell _ _ _ _ hne)
        exact (hx0.row.mono (fun k _ hk => .inl hk)).move (fun k hk => Below.heap_setCell _ _ _ _ (fun e => by
          obtain ⟨c, hc⟩ := hx0.row.typed k hk
          exact blk_ne hc hx0.blk (by decide) e))
      · exact hB.setCell hx0.ge _
      · exact (Kept.refl _ _).setCell (.inl hx0.okb) _
    replace hl : (Instr.lookup 51 (.map (some m)) (.string s) false).run Try.prog w = .ok (.pointer (some ⟨x.fb, 0, none⟩)) w := hl
    clear hset hx hk hx0 hv hD0 h hlen hB hs
    unfold ptr
    go_enter Try.func11, Try.ntmps11
    go_wp2
    go_ret
    exact ⟨rfl, hN.out⟩
end Go.Proofs.Ytahifafnfjcfpaa.D
