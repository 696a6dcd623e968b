/- The law PlaceMoves: it answers true for every input, if the example of the chapter holds. Conditions: the arguments lie in memory. -/
import Derived.Test.YtiiokhoonailaaaDoorG1
import Derived.Deep.RegionHeld3
namespace Go.Proofs.YtiiokhoonailaaaDoor.D
open Go.RowKit Go.Sort Go.Proofs.YtiiokhoonailaaaDoorW.PrintWords Go.Proofs.YtiiokhoonailaaaDoorW.PrintLast Go.Proofs.YtiiokhoonailaaaDoorW.PrintMore
open Go.Proofs.YtiiokhoonailaaaDoor.R

theorem equals_calls (l : List ByteArray) (A B : Option Addr) (a b : Nat) (w : World) (hA : Kd.C Kd.string w A l.length l) (ha : l.length ≤ a) (hB : Kd.C Kd.string w B l.length l) (hb : l.length ≤ b) :
    Calls Tryd.prog 24 #[.slice A l.length a, .slice B l.length b] w (TruePost w) :=
  (slices_Equal_string_string.calls (l.length + 1) A a l B b l _ w hA ha hB hb (equals_f l hA.2.1)).mono fun _ _ ⟨h1, h2⟩ => ⟨h1, h2.below⟩

/-- Two results, in either order: a list of names each time. -/
def NamesPost (w0 w : World) (l : List ByteArray) (e : Ending) (w' : World) : Prop := ∃ A c, e = .returned (.slice A l.length c) ∧ l.length ≤ c ∧ Kd.C Kd.string w' A l.length l ∧ Below w.heap.size w w' ∧ Below w0.heap.size w0 w'
theorem names_post {w0 w : World} (h0 : Below w0.heap.size w0 w) {l : List ByteArray} {e : Ending} {w' : World} (h : MovesPost w l e w') : NamesPost w0 w l e w' := by
  obtain ⟨v, rfl, hv, hb⟩ := h
  obtain ⟨A, c, rfl, hl, hC⟩ := Kd.R_reads hv
  exact ⟨A, c, rfl, hl, hC, hb, below_step h0 hb⟩

set_option maxRecDepth 100000 in
set_option maxHeartbeats 4000000 in
theorem placeMoves_calls (hex : ExOk) (w : World) (names : List ByteArray) (old next : List Int) (N A B : Option Addr) (cn a b : Nat) (n : Int) (hN : Kd.C Kd.string w N names.length names) (hcn : names.length ≤ cn) (hA : Kd.C KI w A old.length old) (ha : old.length ≤ a) (hB : Kd.C KI w B next.length next) (hb : next.length ≤ b) :
    Calls Tryd.prog 6 #[.slice N names.length cn, .agg #[.slice A old.length a, .slice B next.length b], .int .i64 n] w (TruePost w) := by
  have HEX := Aside0.mk hex
  have HN := Aside0.mk hN
  have HA := Aside0.mk hA
  have HB := Aside0.mk hB
  unfold TruePost
  have hx1 := heap_alloc_new w (.cells #[.slice A old.length a, .slice B next.length b] 45)
  have hb1 := below_alloc (Below.refl _ w) (.cells #[.slice A old.length a, .slice B next.length b] 45)
  have hsz := World.size_alloc w (.cells #[.slice A old.length a, .slice B next.length b] 45)
  have hb12 := below_step hb1 (below_alloc (Below.refl _ (w.alloc (.cells #[.slice A old.length a, .slice B next.length b] 45))) (.cells #[.slice A old.length a, .slice B next.length b] 23))
  have hf := few_calls names [old, next] N _ cn 2 _ (Kd.C_below hN hb12) hcn (L_two (w.alloc (.cells #[.slice A old.length a, .slice B next.length b] 45)) old next A B a b 23 ha (Kd.C_below hA hb1) hb (Kd.C_below hB hb1)) (Nat.le_refl _)
  have hbx : ∀ W, Below (w.heap.size + 1) (w.alloc (.cells #[.slice A old.length a, .slice B next.length b] 45)) W → W.cell? ⟨w.heap.size, 0, none⟩ = some (.slice A old.length a) ∧ W.cell? ⟨w.heap.size, 1, none⟩ = some (.slice B next.length b) := fun W hW => by
    have h := (hW.block w.heap.size (Nat.lt_succ_self _)).trans hx1
    exact ⟨blk_cell h 0, blk_cell h 1⟩
  rw [hsz] at hf
  have hq := below_alloc (Below.refl _ (w.alloc (.cells #[.slice A old.length a, .slice B next.length b] 45))) (.cells #[.slice A old.length a, .slice B next.length b] 23)
  rw [hsz] at hq
  have hu45 := Tryd.underlying45
  have HBX := Aside0.mk hbx
  clear hex hN hA hB hbx
  cases hfb : fewB names [old, next] with
  | false =>
    rw [hfb] at hf
    go_enter Tryd.func6, Tryd.ntmps6
    go_wp2_with fail
    refine hf.mono ?_
    rintro e w2 ⟨rfl, hb2⟩
    have HB2 := Aside0.mk (below_step hb12 hb2)
    clear hf hfb hb12 hb1 hb2 hq
    go_wp2_with (go_at_call 7; refine (HEX.out w2).mono ?_; rintro e w3 ⟨rfl, hb3⟩)
    go_ret
    exact ⟨rfl, below_step HB2.out hb3⟩
  | true =>
    rw [hfb] at hf
    obtain ⟨f1, f2, f3⟩ := few_of hfb
    have g1 := f2 old (by simp)
    have g2 := f2 next (by simp)
    have F1 := Aside0.mk f1
    go_enter Tryd.func6, Tryd.ntmps6
    go_wp2_with fail
    refine hf.mono ?_
    rintro e w2 ⟨rfl, hb2⟩
    have hb02 := below_step hb12 hb2
    have HB2 := Aside0.mk hb02
    have hs : ∀ s ∈ names, s.size ≤ 1073741000 := fun s hs => Nat.le_trans (F1.out s hs) (by decide)
    have h19 : Aside0 (∀ W, Below w2.heap.size w2 W → Calls Tryd.prog 19 #[.slice N names.length cn, .slice A old.length a, .slice B next.length b, .int .i64 n] W (NamesPost w2 W (movesF names old next n))) := ⟨fun W hW =>
      (moves_calls names hs (by omega) N cn old next A B a b n W (Kd.C_below HN.out (below_step hb02 hW)) (Kd.C_below HA.out (below_step hb02 hW)) ha (by omega) (Kd.C_below HB.out (below_step hb02 hW)) hb (by omega)).mono fun _ _ h => names_post hW h⟩
    have h25 : Aside0 (∀ W, Below w2.heap.size w2 W → Calls Tryd.prog 25 #[.slice N names.length cn, .slice A old.length a, .slice B next.length b, .int .i64 n] W (NamesPost w2 W (movesF names old next n))) := ⟨fun W hW =>
      (rmoves_calls names hs (by omega) N cn old next A B a b n W (Kd.C_below HN.out (below_step hb02 hW)) (Kd.C_below HA.out (below_step hb02 hW)) ha (by omega) (Kd.C_below HB.out (below_step hb02 hW)) hb (by omega)).mono fun _ _ h => names_post hW h⟩
    have HS : Aside0 (∀ W, Below w2.heap.size w2 W → W.cell? ⟨w.heap.size, 0, none⟩ = some (.slice A old.length a) ∧ W.cell? ⟨w.heap.size, 1, none⟩ = some (.slice B next.length b)) := ⟨fun W hW => HBX.out W ((hq.trans (hb2.mono (by rw [World.size_alloc, World.size_alloc]; omega))).trans (hW.mono (by have := hb2.size; rw [World.size_alloc, World.size_alloc] at this; omega)))⟩
    have hdr : Aside0 (Below w2.heap.size w2 w2.drew) := ⟨(Below.refl _ _).drew⟩
    have h7 : Aside0 (∀ W, Calls Tryd.prog 7 #[] W (TruePost W)) := ⟨HEX.out⟩
    generalize movesF names old next n = M at *
    clear hf hfb hb12 hb1 hb2 hq hb02 hs f1 f2 HN HA HB HBX F1
    go_wp2
    go_region_held3 (fun W => W.cell? ⟨w.heap.size, 0, none⟩ = some (.slice A old.length a) ∧ W.cell? ⟨w.heap.size, 1, none⟩ = some (.slice B next.length b))
      ((refine HS.out _ ?_; first | exact HQ.out | exact HZ.out | exact HY.out | exact HX.out | exact hdr.out))
      (first
      | (go_at_call 24; (with_reducible refine hE.out.mono ?_); rintro e wz ⟨rfl, gz⟩; have HZ := Aside0.mk (below_step HY.out gz); clear gz)
      | (go_at_call 7; (with_reducible refine (h7.out _).mono ?_); rintro e wq ⟨rfl, gq⟩; have HQ := Aside0.mk (below_step HZ.out gq); clear gq)
      | (go_at_call 19; first
        | ((with_reducible refine (h19.out _ HX.out).mono ?_); rintro e wy ⟨A2, c2, rfl, hl2, hC2, hb2, hb2'⟩; have HY := Aside0.mk hb2'; have hE := Aside0.mk (equals_calls M A2 A1 c2 c1 _ hC2 hl2 (Kd.C_below HC1.out hb2) hl1); clear hC2 hb2 hb2')
        | ((with_reducible refine (h19.out _ hdr.out).mono ?_); rintro e wx ⟨A1, c1, rfl, hl1, hC1, hb1, hb1'⟩; have HX := Aside0.mk hb1'; have HC1 := Aside0.mk hC1; clear hC1 hb1 hb1'))
      | (go_at_call 25; first
        | ((with_reducible refine (h25.out _ HX.out).mono ?_); rintro e wy ⟨A2, c2, rfl, hl2, hC2, hb2, hb2'⟩; have HY := Aside0.mk hb2'; have hE := Aside0.mk (equals_calls M A1 A2 c1 c2 _ (Kd.C_below HC1.out hb2) hl1 hC2 hl2); clear hC2 hb2 hb2')
        | ((with_reducible refine (h25.out _ hdr.out).mono ?_); rintro e wx ⟨A1, c1, rfl, hl1, hC1, hb1, hb1'⟩; have HX := Aside0.mk hb1'; have HC1 := Aside0.mk hC1; clear hC1 hb1 hb1')))
    all_goals (go_wp2; go_ret; exact ⟨rfl, below_step HB2.out HQ.out⟩)
end Go.Proofs.YtiiokhoonailaaaDoor.D
