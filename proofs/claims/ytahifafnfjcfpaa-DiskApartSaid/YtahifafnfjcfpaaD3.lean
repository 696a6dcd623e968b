/- The disk's method Read; New. Conditions: as each theorem says. -/
import Derived.Test.YtahifafnfjcfpaaD2
namespace Go.Proofs.Ytahifafnfjcfpaa.D
open Go.RowKit Go.Maps Go.Proofs.YtahifafnfjcfpaaW.PrintWords Go.Proofs.YtahifafnfjcfpaaW.PrintLast Go.Proofs.YtahifafnfjcfpaaW.PrintMore
open Go.Proofs.Ytahifafnfjcfpaa.R (S61 k61)

theorem DAt.below {w w1 : World} {base : Nat} {ok : Nat → Prop} {d : Nat} {F : List S61} (h : DAt w base ok d F) (hb : Below w.heap.size w w1) : DAt w1 base ok d F := by
  obtain ⟨m, n, L, h, e⟩ := h
  exact ⟨m, n, L, h.move (fun k _ hk => hb.block k hk), e⟩
theorem DAt.mono {w : World} {base : Nat} {ok ok' : Nat → Prop} {d : Nat} {F : List S61} (h : DAt w base ok d F) (hk : ∀ k, ok k → ok' k) : DAt w base ok' d F := by
  obtain ⟨m, n, L, h, e⟩ := h
  exact ⟨m, n, L, h.mono hk, e⟩

/-- What Read gives. -/
def ReadPost (w w' : World) (F : List S61) (s : ByteArray) (e : Ending) : Prop := match find F (key s) with
  | none => e = .returned (.tuple #[.slice none 0 0, .int .i64 8]) ∧ w = w'
  | some f => ∃ v, e = .returned (.tuple #[v, .int .i64 0]) ∧ FRow w' w.heap.size (fun _ => True) v (bytesOf f.f1) ∧ Below w.heap.size w w'

set_option maxRecDepth 100000 in
set_option maxHeartbeats 400000 in
theorem read_calls {base : Nat} {w : World} {ok : Nat → Prop} {d : Nat} {F : List S61} (s : ByteArray) (hD : DAt w base ok d F) (hs : s.size ≤ maxLen) :
    Calls Try.prog 13 #[ptr d, .string s] w fun e w' => ReadPost w w' F s e := by
  obtain ⟨m, n, L, h, rfl⟩ := hD
  have hl := h.look s hs
  have hc : w.cell? ⟨d, 0, none⟩ = some (.map (some m)) := blk_cell h.hd 0
  unfold ReadPost
  rw [find_of]
  unfold look at hl
  cases hf : findE L (key s) with
  | none =>
    simp only [Option.map_none]
    rw [hf] at hl
    clear hf
    unfold ptr
    go_enter Try.func13, Try.ntmps13
    go_wp2
    go_ret2
    exact ⟨rfl, rfl⟩
  | some x =>
    simp only [Option.map_some]
    rw [hf] at hl
    obtain ⟨hx, hk⟩ := findE_some hf
    clear hf
    have hx0 := h.files x hx
    obtain ⟨A, c, hv, _, hlen⟩ := hx0.row.slice
    have hR : Aside0 (∀ o, Kd.C K8 (w.alloc o) A (bytesOf x.f.f1).length (bytesOf x.f.f1)) := by
      obtain ⟨A', c', hv', _, hr⟩ := hx0.row.reads
      rw [hv] at hv'
      injection hv' with e1 e2 e3
      subst e1
      exact ⟨fun o => Kd.C_alloc hr o⟩
    have hc0 : w.cell? ⟨x.fb, 0, none⟩ = some (.slice A x.f.f1.size c) := by rw [← bytesOf_length, ← hv]; exact blk_cell hx0.blk 0
    have hc1 : ∀ o, (w.alloc o).cell? ⟨x.fb, 0, none⟩ = some (.slice A x.f.f1.size c) := fun o => pw_cell_below (below_alloc (Below.refl _ _) o) hc0
    have hsz : x.f.f1.size ≤ 65536 := hx0.len
    replace hl : (Instr.lookup 51 (.map (some m)) (.string s) false).run Try.prog w = .ok (.pointer (some ⟨x.fb, 0, none⟩)) w := hl
    clear hx hk hx0 hv h hlen hs
    unfold ptr
    go_enter Try.func13, Try.ntmps13
    go_wp2_with (at_builtin; go_must (refine wpList_append_F rfl (.tmp 15) (.tmp 19) rfl w.heap.size (fun _ => True) (.slice (some ⟨w.heap.size, 0, none⟩) 0 0) [] rfl A x.f.f1.size c (bytesOf x.f.f1) rfl (bytesOf_length _).symm (.inr ⟨w.heap.size, 0, #[], rfl, Nat.le_refl _, trivial, heap_alloc_new w _, Nat.le_refl _, Nat.zero_le _, Nat.le_refl _, fun i hi => absurd hi (by simp)⟩) (hR.out _) (by rw [bytesOf_length]; simp; omega) (by simp) ?_); intro v1 w1 hrow hgrow _)
    go_ret2
    exact ⟨_, rfl, by simpa using hrow.mono (fun _ _ _ => trivial), ((Below.refl _ w).alloc (Nat.le_refl _) _).grown hgrow (by simp) (fun k hk => by simp [Value.ownBlock] at hk; omega)⟩
end Go.Proofs.Ytahifafnfjcfpaa.D
