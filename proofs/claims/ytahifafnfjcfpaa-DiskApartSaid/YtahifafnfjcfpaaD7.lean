/- The disk's methods as a caller sees them that made the disk itself; the law's awake. Conditions: as each theorem says. -/
import Derived.Test.YtahifafnfjcfpaaD6
namespace Go.Proofs.Ytahifafnfjcfpaa.D
open Go.RowKit Go.Maps Go.Sort Go.Proofs.YtahifafnfjcfpaaW.PrintWords Go.Proofs.YtahifafnfjcfpaaW.PrintLast Go.Proofs.YtahifafnfjcfpaaW.PrintMore
open Go.Proofs.Ytahifafnfjcfpaa.R (S61 k61)

/-- A disk that was made behind world w. -/
structure St (w W : World) (d : Nat) (F : List S61) : Prop where
  disk : DAt W w.heap.size (fun k => w.heap.size ≤ k) d F
  below : Below w.heap.size w W
section
variable {w W W' : World} {d : Nat} {F F' : List S61}
theorem St.alloc (h : St w W d F) (o : Obj) : St w (W.alloc o) d F := ⟨h.disk.below (below_alloc (Below.refl _ _) o), h.below.alloc h.below.size o⟩
theorem St.then_ (h : St w W d F) (hb : Below W.heap.size W W') : St w W' d F := ⟨h.disk.below hb, below_then h.below h.below.size hb⟩
theorem St.next (h : St w W d F) {ok : Nat → Prop} (hok : ∀ k, ok k → w.heap.size ≤ k) (n : Next w W W' ok d F') : St w W' d F' :=
  ⟨n.disk.mono (fun k hk => hk.elim (hok k) (fun h2 => Nat.le_trans h.below.size h2)), n.below⟩
theorem St.grow (h : St w W d F) (hb : Below w.heap.size w W') (hs : ∀ k, w.heap.size ≤ k → k < W.heap.size → W'.heap[k]? = W.heap[k]?) : St w W' d F := by
  obtain ⟨⟨m, n, L, hL, e⟩, _⟩ := h
  exact ⟨⟨m, n, L, hL.move (fun k hk hl => hs k hk hl), e⟩, hb⟩

def StPost (w : World) (d : Nat) (r : List S61 × Int) (e : Ending) (w' : World) : Prop := e = .returned (.int .i64 r.2) ∧ St w w' d r.1

theorem new_st (w : World) : Calls Try.prog 9 #[] w fun e w' => ∃ d, e = .returned (ptr d) ∧ St w w' d [] :=
  (new_calls w).mono fun _ _ ⟨d, h1, h2, h3⟩ => ⟨d, h1, h2, h3⟩
theorem append_st (h : St w W d F) (s : ByteArray) (A : Option Addr) (c : Nat) (l : List Int) (hs : s.size ≤ maxLen) (hr : ∀ W1, Below W.heap.size W W1 → Kd.C K8 W1 A l.length l) (hl8 : ∀ x ∈ l, 0 ≤ x ∧ x < 256) (hlc : l.length ≤ 1073741824) (hF : F.length < 1073741824) :
    Calls Try.prog 10 #[ptr d, .string s, .slice A l.length c] W (StPost w d (dAppend F s l)) :=
  (append_calls s A c l h.below h.disk hs hr hl8 hlc hF).mono fun _ _ ⟨h1, h2⟩ => ⟨h1, h.next (fun _ hk => hk) h2⟩
theorem sync_st (h : St w W d F) (s : ByteArray) (hs : s.size ≤ maxLen) : Calls Try.prog 11 #[ptr d, .string s] W (StPost w d (dSync F s)) :=
  (sync_calls s h.below h.disk hs).mono fun _ _ ⟨h1, h2⟩ => ⟨h1, h.next (fun _ hk => hk) h2⟩
theorem remove_st (h : St w W d F) (s : ByteArray) (hs : s.size ≤ maxLen) : Calls Try.prog 27 #[ptr d, .string s] W (StPost w d (dRemove F s)) :=
  (remove_calls s h.below h.disk hs).mono fun _ _ ⟨h1, h2⟩ => ⟨h1, h.next (fun _ hk => hk) h2⟩
def CrashPost (w : World) (d : Nat) (F : List S61) (e : Ending) (w' : World) : Prop := e = .returned (.tuple #[]) ∧ St w w' d F
/-- .. with a list that came in. -/
theorem crash_in (h : St w W d F) (A : Option Addr) (c : Nat) (keep : List Int) (hr : Kd.C (Kd.int .i64) w A keep.length keep) (hF : F.length < 1073741824) (hkl : keep.length ≤ 1073741824) (hb : ∀ x ∈ keep, -9223372036854775808 ≤ x ∧ x ≤ 9223372036854775807) :
    Calls Try.prog 12 #[ptr d, .slice A keep.length c] W (CrashPost w d (dCrash F keep)) := by
  refine (crash_calls A c keep h.below h.disk hF (fun W1 hk => ?_) hkl hb).mono fun _ _ ⟨h1, h2⟩ => ⟨h1, h.next (fun _ hk => hk) h2⟩
  refine Kd.C_foot_neS (S := fun k => w.heap.size ≤ k) (fun h => h) (Kd.C_below hr h.below) (fun ad hA hn => ?_) W1 hk
  subst hA
  have hr2 := (Kd.at_int hr 0 (Int.le_refl _) (by omega))
  obtain ⟨ad', e, hc⟩ := hr2
  cases e
  have := World.block_lt_of_cell? w _ hc
  rw [add_block] at this
  show ¬ w.heap.size ≤ ad.block
  omega
/-- .. with a list that was made just now. -/
theorem crash_new (h : St w W d F) (keep : List Int) (t : Nat) (hF : F.length < 1073741824) (hkl : keep.length ≤ 1073741824) (hb : ∀ x ∈ keep, -9223372036854775808 ≤ x ∧ x ≤ 9223372036854775807) (c : Nat) :
    Calls Try.prog 12 #[ptr d, .slice (some ⟨W.heap.size, 0, none⟩) keep.length c] (W.alloc (.cells (keep.map fun x => Value.int .i64 x).toArray t)) (CrashPost w d (dCrash F keep)) := by
  have hS := h.alloc (.cells (keep.map fun x => Value.int .i64 x).toArray t)
  have hC : Kd.C (Kd.int .i64) (W.alloc (.cells (keep.map fun x => Value.int .i64 x).toArray t)) (some ⟨W.heap.size, 0, none⟩) keep.length keep := by
    refine Kd.C_of_reads (d := (0 : Int)) (h1 := fun _ => rfl) ⟨rfl, by omega, fun _ => ⟨_, rfl, fun j hj => ?_⟩⟩
    rw [add_plain, blk_cell (heap_alloc_new W _)]
    simp [List.getD_eq_getElem?_getD, hj]
  have hD : DAt (W.alloc (.cells (keep.map fun x => Value.int .i64 x).toArray t)) w.heap.size (fun k => w.heap.size ≤ k ∧ k < W.heap.size) d F := by
    obtain ⟨m, n, L, hL, e⟩ := h.disk
    exact ⟨m, n, L, hL.bound.move (fun k hk _ => Below.heap_alloc _ _ _ hk.2), e⟩
  refine (crash_calls _ c keep hS.below hD hF (fun W1 hk => ?_) hkl hb).mono fun _ _ ⟨h1, h2⟩ => ⟨h1, hS.next (fun _ hk => hk.1) h2⟩
  refine Kd.C_foot_neS (S := fun k => w.heap.size ≤ k ∧ k < W.heap.size) (fun h => h) hC (fun ad hA _ => ?_) W1 hk
  cases hA
  exact fun h => Nat.lt_irrefl _ h.2
end
end Go.Proofs.Ytahifafnfjcfpaa.D
