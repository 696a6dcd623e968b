/- The disk's method Rename. Conditions: as the theorem says. -/
import Derived.Test.YtahifafnfjcfpaaD7
namespace Go.Proofs.Ytahifafnfjcfpaa.D
open Go.RowKit Go.Maps Go.Sort Go.Proofs.YtahifafnfjcfpaaW.PrintWords Go.Proofs.YtahifafnfjcfpaaW.PrintLast Go.Proofs.YtahifafnfjcfpaaW.PrintMore
open Go.Proofs.Ytahifafnfjcfpaa.R (S61 k61)

def dRename (F : List S61) (a b : ByteArray) : List S61 × Int := match find F (key a) with
  | none => (F, 8)
  | some f => if nameB b = true then (put ⟨b, f.f1, f.f2⟩ (del (key a) F), 0) else (F, 11)

set_option maxRecDepth 100000 in
set_option maxHeartbeats 400000 in
theorem rename_calls {w0 w : World} {ok : Nat → Prop} {d : Nat} {F : List S61} (s t : ByteArray) (hB : Below w0.heap.size w0 w) (hD : DAt w w0.heap.size ok d F) (hs : s.size ≤ maxLen) (ht : t.size ≤ maxLen) (hF : F.length < 1073741824) :
    Calls Try.prog 25 #[ptr d, .string s, .string t] w (Post1 w0 w ok d (dRename F s t)) := by
  have hD0 := hD
  obtain ⟨m, n, L, h, hLF⟩ := hD
  have hl := h.look s hs
  have hc : w.cell? ⟨d, 0, none⟩ = some (.map (some m)) := blk_cell h.hd 0
  have hfd : find F (key s) = (findE L (key s)).map E.f := by rw [← hLF]; exact find_of _ _
  unfold look at hl
  cases hf : findE L (key s) with
  | none =>
    rw [hf] at hl hfd
    have hv : Aside0 (dRename F s t = (F, 8)) := ⟨by unfold dRename; rw [hfd]; rfl⟩
    have HB := Aside0.mk hB
    clear hf hfd hLF h hB
    unfold ptr
    go_enter Try.func25, Try.ntmps25
    go_wp2
    go_ret
    unfold Post1
    rw [hv.out]
    exact ⟨rfl, Next.same HB.out hD0⟩
  | some x =>
    rw [hf] at hl hfd
    replace hl : (Instr.lookup 51 (.map (some m)) (.string s) false).run Try.prog w = .ok (.pointer (some ⟨x.fb, 0, none⟩)) w := hl
    obtain ⟨hx, hk⟩ := findE_some hf
    clear hf
    unfold ptr
    go_enter Try.func25, Try.ntmps25
    go_wp2_with fail
    refine (name_calls t w).mono ?_
    rintro e w1 ⟨rfl, hb⟩
    have hB1 := below_then hB hB.size hb
    have hdk : ∀ k, (ok k ∨ w1.heap.size ≤ k) → (ok k ∨ w.heap.size ≤ k) := fun k hk => hk.imp id (fun hk => Nat.le_trans hb.size hk)
    have hkept1 := Kept.of_below hb ok
    have h1 : DAtL w1 w0.heap.size ok d m n L := h.move (fun k _ hk => hb.block k hk)
    cases hn : nameB t with
    | false =>
      have hv : Aside0 (dRename F s t = (F, 11)) := ⟨by unfold dRename; rw [hfd]; show (if nameB t = true then _ else _) = _; rw [hn]; rfl⟩
      have HB := Aside0.mk hB1
      have H1 := Aside0.mk h1
      have HK := Aside0.mk hkept1
      have HLF := Aside0.mk hLF
      clear hB1 h1 hkept1 hLF h hB hD0 hx hk hb hfd hdk
      go_wp2
      go_ret
      unfold Post1
      rw [hv.out]
      obtain ⟨q1, q2, q3⟩ := Next.same HB.out ⟨m, n, L, H1.out, HLF.out⟩
      refine ⟨rfl, ?_, q2, HK.out⟩
      exact q1.mono (fun k hk => hk.imp id (fun hk => Nat.le_trans (by have := HK.out.1; exact this) hk))
    | true =>
      have hv : Aside0 (dRename F s t = (put ⟨t, x.f.f1, x.f.f2⟩ (del (key s) F), 0)) := ⟨by unfold dRename; rw [hfd]; exact if_pos hn⟩
      have hc1 : w1.cell? ⟨d, 0, none⟩ = some (.map (some m)) := blk_cell h1.hd 0
      have HB := Aside0.mk hB1
      have H1 := Aside0.mk h1
      have HK := Aside0.mk hkept1
      have HLF := Aside0.mk hLF
      have HX := Aside0.mk hx
      have HN := Aside0.mk (nm_size hn)
      have HBB := Aside0.mk hb
      have HKX := Aside0.mk hk
      have hHF := Aside0.mk hF
      clear hB1 h1 hkept1 hLF h hB hD0 hx hb hfd hdk hc hl hk hF
      go_wp2_with (first
        | (at_delete; go_must (refine wpList_delete_own (H := Value) w1 rfl (.tmp 22) (.tmp 23) 51 9 rfl 55 strKeyed Try.underlying51 rawR m n (Dm L) rfl H1.out.map (.string s) (.string (key s)) rfl (WideMaps.keyOf_string_mk Try.underlying9 hs) ?_); intro w2 hown ht2; rw [Dm_del] at hown; have H2 := Aside0.mk (H1.out.drop hown ht2); have HT := Aside0.mk ht2; clear hown ht2; have hc2 : w2.cell? ⟨d, 0, none⟩ = some (.map (some m)) := blk_cell H2.out.hd 0)
        | (at_mapUpdate; go_must (refine wpList_mapUpdate_own (H := Value) _ rfl (.tmp 27) (.tmp 28) (.tmp 29) 51 rfl 9 55 strKeyed Try.underlying51 rawR m (delE (key s) L).length (Dm (delE (key s) L)) rfl (map_tight H2.out.map) ?hnn (.string t) (ptr x.fb) (.string (key t)) rfl rfl (WideMaps.keyOf_string_mk Try.underlying9 ht) (.held (ptr x.fb)) [] rfl ?_); rotate_left; intro w3 hown3 hg3))
      case hnn =>
        have q1 := hHF.out
        rw [← HLF.out, List.length_map] at q1
        have q2 : (delE (key s) L).length ≤ L.length := List.length_filter_le _ _
        unfold maxLen; omega
      go_ret
      unfold Post1
      rw [hv.out]
      refine ⟨rfl, ?_⟩
      rw [show key t = key (E.mk ⟨t, x.f.f1, x.f.f2⟩ x.fb x.v).f.f0 from rfl, Dm_put ⟨⟨t, x.f.f1, x.f.f2⟩, x.fb, x.v⟩ (delE (key s) L)] at hown3
      have hF2 : del (key s) F = (delE (key s) L).map E.f := by rw [← HLF.out, delE_map]
      rw [hF2]
      have hx0 := H1.out.files x HX.out
      have hgr := HT.out.grown
      have hne : ∀ k, k = x.fb ∨ x.v.ownBlock = some k → k ≠ m := fun k hk e => by
        obtain ⟨es, c, hmb, _⟩ := H1.out.map
        exact H1.out.row_ne hmb HX.out k hk e
      have hblk := (hgr.block x.fb hx0.lt (by intro e; exact hne x.fb (.inl rfl) (by injection e))).trans hx0.blk
      refine laid_end H2.out (Nat.le_trans HBB.out.size hgr.size) (Kept.of_grown hgr HK.out (fun k hk => by cases hk; exact .inl H1.out.okm)) (HB.out.grown hgr HB.out.size (fun k hk => by cases hk; exact H1.out.gm)) (Nat.le_refl _) rfl rfl hblk ?_ hx0.ge (.inl hx0.okb) hx0.lo hx0.hi hx0.len HN.out hown3 (by simpa using hg3) (fun y _ _ k _ _ => rfl) (fun y hy hny => ?_)
      · exact (hx0.row.mono (fun k _ hk => .inl hk)).move (fun k hk => hgr.block k (hx0.row.lt k hk) (by intro e; exact hne k (.inr hk) (by injection e)))
      · have hyL := mem_delE hy
        have hyk := mem_delE_ne hy
        have a1 := H1.out.apart x HX.out y hyL (by rw [HKX.out]; exact fun e => hyk e.symm)
        have a2 := H1.out.apart y hyL x HX.out (by rw [HKX.out]; exact hyk)
        exact ⟨a1, a2⟩
end Go.Proofs.Ytahifafnfjcfpaa.D
