/- The law's do: one operation on both. Conditions: as the theorem says. -/
import Derived.Test.YtahifafnfjcfpaaE5
namespace Go.Proofs.Ytahifafnfjcfpaa.D
open Go.RowKit Go.Maps Go.Sort Go.Proofs.YtahifafnfjcfpaaW.PrintWords Go.Proofs.YtahifafnfjcfpaaW.PrintLast Go.Proofs.YtahifafnfjcfpaaW.PrintMore
open Go.Proofs.Ytahifafnfjcfpaa.R (S61 S45 k61 k45 k61_mkM k61_open k61_mk at_T61 rd_T61 info61)

def actN (x : S45) : Nat := x.f0.toNat % 8
def dStep (F : List S61) (x : S45) : List S61 :=
  if actN x ≤ 2 then (dAppend F x.f1 x.f3).1 else if actN x = 3 then (dSync F x.f1).1 else if actN x = 4 then (dRename F x.f1 x.f2).1
  else if actN x = 5 then (dRemove F x.f1).1 else if actN x = 6 then F else dCrash F x.f4
def refStep (T : List S61) (x : S45) : List S61 :=
  if actN x ≤ 2 then (refAppend T x.f1 x.f3).1 else if actN x = 3 then (refSync T x.f1).1 else if actN x = 4 then (refRename T x.f1 x.f2).1
  else if actN x = 5 then (refRemove T x.f1).1 else if actN x = 6 then T else refCrash T x.f4

/-- What stands before an operation: a disk, a state, and nothing that is shared. -/
structure Pre (w0 w : World) (S : Nat → Prop) (d : Nat) (F : List S61) : Prop where
  disk : DAt w w0.heap.size S d F
  below : Below w0.heap.size w0 w
  lt : ∀ k, S k → k < w.heap.size
  ge : ∀ k, S k → w0.heap.size ≤ k
/-- What the caller gives of an operation. -/
structure ActOk (w0 : World) (x : S45) (A3 : Option Addr) (c3 : Nat) (A4 : Option Addr) (c4 : Nat) : Prop where
  r3 : Kd.C K8 w0 A3 x.f3.length x.f3
  r4 : Kd.C (Kd.int .i64) w0 A4 x.f4.length x.f4
  l3 : x.f3.length ≤ c3
  l4 : x.f4.length ≤ c4
  b0 : 0 ≤ x.f0 ∧ x.f0 < 256
  b3 : ∀ y ∈ x.f3, 0 ≤ y ∧ y < 256
  b4 : ∀ y ∈ x.f4, -9223372036854775808 ≤ y ∧ y ≤ 9223372036854775807
  light : lightAct x = true

/-- What one operation leaves. -/
structure Post (w0 w w' : World) (S S' : Nat → Prop) (d : Nat) (F T : List S61) (v : Value) : Prop where
  pre : Pre w0 w' S' d F
  state : SV w' S' v T
  kept : Kept w w' S
  grow : ∀ k, S' k → S k ∨ w.heap.size ≤ k
def DoPost (w0 w : World) (S : Nat → Prop) (d : Nat) (F T : List S61) (x : S45) (e : Ending) (w' : World) : Prop :=
  ∃ v b S', e = .returned (.tuple #[.agg #[v], .bool b]) ∧ Post w0 w w' S S' d (dStep F x) (refStep T x) v ∧ (F = T → Sorted F → b = true)

section
variable {w0 w w1 w2 w3 : World} {S S' S1 : Nat → Prop} {d g : Nat} {F F' T T' : List S61} {v : Value}
/-- Behind the disk's method: the blocks that are its own now. -/
theorem Pre.next (h : Pre w0 w1 S d F) (n : Next w0 w1 w2 S d F') : Pre w0 w2 (fun k => (S k ∨ w1.heap.size ≤ k) ∧ k < w2.heap.size) d F' := by
  obtain ⟨m, q, L, hL, e⟩ := n.disk
  exact ⟨⟨m, q, L, hL.bound, e⟩, n.below, fun k hk => hk.2, fun k hk => hk.1.elim (h.ge k) (fun h2 => Nat.le_trans h.below.size h2)⟩
theorem Pre.then_ (h : Pre w0 w1 S d F) (hb : Below w1.heap.size w1 w2) : Pre w0 w2 S d F :=
  ⟨h.disk.below hb, below_then h.below h.below.size hb, fun k hk => Nat.lt_of_lt_of_le (h.lt k hk) hb.size, h.ge⟩
/-- A store outside. -/
theorem Pre.far (h : Pre w0 w1 S d F) (hg : ¬ S g) (hw : w0.heap.size ≤ g) (i : Nat) (u : Value) : Pre w0 (w1.setCell ⟨g, i, none⟩ u) S d F := by
  obtain ⟨m, q, L, hL, e⟩ := h.disk
  refine ⟨⟨m, q, L, hL.move (fun k hk _ => Below.heap_setCell _ _ _ _ (fun e => hg (by subst e; exact hk))), e⟩, h.below.setCell hw _, fun k hk => ?_, h.ge⟩
  rw [World.size_setCell]; exact h.lt k hk

theorem C_kept_int {A : Option Addr} {xs : List Int} (hr : Kd.C (Kd.int .i64) w0 A xs.length xs) (hb : Below w0.heap.size w0 w1) (ge : ∀ k, S k → w0.heap.size ≤ k) : ∀ W, Kept w1 W S → Kd.C (Kd.int .i64) W A xs.length xs := by
  intro W hk
  refine Kd.C_foot_neS (S := S) (fun h => h) (Kd.C_below hr hb) (fun ad hA hn hs => ?_) W hk
  subst hA
  obtain ⟨ad', e, hc⟩ := Kd.at_int hr 0 (Int.le_refl _) (by omega)
  cases e
  have := World.block_lt_of_cell? w0 _ hc
  rw [add_block] at this
  have := ge _ hs
  omega
/-- The end: the state's value lies in the result's cell. -/
theorem do_end (hp : Pre w0 w3 S1 d F') (hv : SV w3 (fun k => S1 k ∨ k = g) v T') (hk : Kept w w3 S) (hgr : ∀ k, S1 k → S k ∨ w.heap.size ≤ k) (hg : ¬ S1 g) (hw : w.heap.size ≤ g) (hw0 : w0.heap.size ≤ g) :
    Post w0 w (w3.setCell ⟨g, 0, none⟩ v) S S1 d F' T' v :=
  ⟨hp.far hg hw0 0 v, hv.kept ((Kept.refl w3 _).setCell (.inl (.inr rfl)) v) (fun _ h => .inl (.inl h)), hk.setCell (.inr hw) v, hgr⟩
theorem do_end2 (hp : Pre w0 w3 S1 d F') (hv : SV w3 (fun k => S1 k ∨ k = g) v T') (hk : Kept w w3 S) (hgr : ∀ k, S1 k → S k ∨ w.heap.size ≤ k) (hg : ¬ S1 g) (hw : w.heap.size ≤ g) (hw0 : w0.heap.size ≤ g) (o : Obj) :
    Post w0 w ((w3.alloc o).setCell ⟨g, 0, none⟩ v) S S1 d F' T' v :=
  do_end (hp.then_ (below_alloc (Below.refl _ _) o)) (hv.below (below_alloc (Below.refl _ _) o)) (hk.alloc o) hgr hg hw hw0
end

theorem light_of {x : S45} (h : lightAct x = true) : x.f3.length ≤ 400 ∧ x.f1.size ≤ 400 ∧ x.f2.size ≤ 400 ∧ x.f4.length ≤ 20 := by
  unfold lightAct at h
  simp only [Bool.and_eq_true, decide_eq_true_eq] at h
  omega

theorem boxes3 (w : World) (o1 o2 o3 : Obj) : (((w.alloc o1).alloc o2).alloc o3).heap[w.heap.size]? = some o1 ∧ (((w.alloc o1).alloc o2).alloc o3).heap[w.heap.size + 1]? = some o2 ∧ (((w.alloc o1).alloc o2).alloc o3).heap[w.heap.size + 1 + 1]? = some o3 ∧ Below w.heap.size w (((w.alloc o1).alloc o2).alloc o3) := by
  obtain ⟨h1, h2, h3⟩ := boxes2 w o1 o2
  refine ⟨(Below.heap_alloc _ _ _ (blk_lt h1)).trans h1, (Below.heap_alloc _ _ _ (blk_lt h2)).trans h2, ?_, below_alloc h3 _⟩
  have := heap_alloc_new ((w.alloc o1).alloc o2) o3
  simpa using this

/-- What the disk's Read tells, in one form. -/
theorem read_told {w w' : World} {F : List S61} {s : ByteArray} {e : Ending} (h : ReadPost w w' F s e) : ∃ b A c n, e = .returned (.tuple #[.slice A b.size c, .int .i64 n]) ∧ Below w.heap.size w w' ∧ (∀ W, Below w'.heap.size w' W → (convert 22 9 (.slice A b.size c)).run Try.prog W = .ok (.string b) W) ∧ (b, n) = refRead F s := by
  unfold ReadPost at h
  unfold refRead
  cases hf : find F (key s) with
  | none =>
    rw [hf] at h
    obtain ⟨rfl, rfl⟩ := h
    refine ⟨⟨#[]⟩, none, 0, 8, rfl, Below.refl _ _, fun W _ => ?_, rfl⟩
    exact Kd.C_string (P := Try.prog) (xs := []) Try.underlying22 Try.underlying5 Try.underlying9 (Kd.C_nil _ _)
  | some f =>
    rw [hf] at h
    obtain ⟨v, rfl, hv, hb⟩ := h
    obtain ⟨A, c, rfl, hc, _⟩ := hv.str
    refine ⟨f.f1, A, c, 0, rfl, hb, fun W hW => ?_, rfl⟩
    obtain ⟨A', c', e', _, h'⟩ := (hv.move (w1 := W) (fun k hk => hW.block k (hv.lt k hk))).str
    cases e'
    exact h'

theorem dstep_K0 {F : List S61} {x : S45} (h : actN x ≤ 2) : dStep F x = (dAppend F x.f1 x.f3).1 := by unfold dStep; rw [if_pos h]
theorem rstep_K0 {F : List S61} {x : S45} (h : actN x ≤ 2) : refStep F x = (refAppend F x.f1 x.f3).1 := by unfold refStep; rw [if_pos h]
theorem dstep_K3 {F : List S61} {x : S45} (h : actN x = 3) : dStep F x = (dSync F x.f1).1 := by unfold dStep; simp [h]
theorem rstep_K3 {F : List S61} {x : S45} (h : actN x = 3) : refStep F x = (refSync F x.f1).1 := by unfold refStep; simp [h]
theorem dstep_K4 {F : List S61} {x : S45} (h : actN x = 4) : dStep F x = (dRename F x.f1 x.f2).1 := by unfold dStep; simp [h]
theorem rstep_K4 {F : List S61} {x : S45} (h : actN x = 4) : refStep F x = (refRename F x.f1 x.f2).1 := by unfold refStep; simp [h]
theorem dstep_K5 {F : List S61} {x : S45} (h : actN x = 5) : dStep F x = (dRemove F x.f1).1 := by unfold dStep; simp [h]
theorem rstep_K5 {F : List S61} {x : S45} (h : actN x = 5) : refStep F x = (refRemove F x.f1).1 := by unfold refStep; simp [h]
theorem dstep_K6 {F : List S61} {x : S45} (h : actN x = 6) : dStep F x = F := by unfold dStep; simp [h]
theorem rstep_K6 {F : List S61} {x : S45} (h : actN x = 6) : refStep F x = F := by unfold refStep; simp [h]
theorem dstep_K7 {F : List S61} {x : S45} (h : actN x = 7) : dStep F x = dCrash F x.f4 := by unfold dStep; simp [h]
theorem rstep_K7 {F : List S61} {x : S45} (h : actN x = 7) : refStep F x = refCrash F x.f4 := by unfold refStep; simp [h]

set_option maxRecDepth 100000 in
set_option maxHeartbeats 400000 in
theorem do_append0 {w0 w : World} {S : Nat → Prop} {d : Nat} {F T : List S61} (x : S45) (A : Option Addr) (c : Nat) (A3 : Option Addr) (c3 : Nat) (A4 : Option Addr) (c4 : Nat) (hp : Pre w0 w S d F) (hv : SV w S (.slice A T.length c) T) (hF : F.length < 1073741824) (hT : Fit T) (hx : ActOk w0 x A3 c3 A4 c4) (hk : actN x = 0) :
    Calls Try.prog 17 #[ptr d, .agg #[.slice A T.length c], .agg #[.int .u8 x.f0, .string x.f1, .string x.f2, .slice A3 x.f3.length c3, .slice A4 x.f4.length c4]] w (DoPost w0 w S d F T x) := by
  have _ := hF
  have hu39 := Try.underlying39
  have hu45 := Try.underlying45
  obtain ⟨hl3, hl1, hl2, hl4⟩ := light_of hx.light
  obtain ⟨n, hn⟩ := Int.eq_ofNat_of_zero_le hx.b0.1
  have hn2 : n < 256 := by have := hx.b0.2; omega
  have hmod : (n : Int) % 8 = 0 := by
    unfold actN at hk
    rw [hn, Int.toNat_natCast] at hk
    omega
  have HP := Aside0.mk hp
  have HV := Aside0.mk hv
  have HX := Aside0.mk hx
  have HT := Aside0.mk hT
  have hS6 : Aside0 (∀ k, S k → k < w.heap.size) := ⟨hp.lt⟩
  have HKD := Aside0.mk hk
  clear hp hv hx hT hk
  unfold ptr
  rw [hn]
  go_enter Try.func17, Try.ntmps17
  go_wp2_with fail
  obtain ⟨x4, x5, x6, hb1⟩ := boxes3 w (.cells #[.slice A T.length c] 39) (.cells #[.int .u8 n, .string x.f1, .string x.f2, .slice A3 x.f3.length c3, .slice A4 x.f4.length c4] 45) (.cells #[.slice none 0 0] 39)
  have hg5 : w.heap.size ≤ w.heap.size + 1 := by omega
  have hg6 : w.heap.size ≤ w.heap.size + 1 + 1 := by omega
  have hd46 : w.heap.size ≠ w.heap.size + 1 + 1 := by omega
  have hd56 : w.heap.size + 1 ≠ w.heap.size + 1 + 1 := by omega
  generalize w.heap.size + 1 + 1 = g6 at *
  generalize w.heap.size + 1 = g5 at *
  generalize ((w.alloc (.cells #[.slice A T.length c] 39)).alloc (.cells #[.int .u8 n, .string x.f1, .string x.f2, .slice A3 x.f3.length c3, .slice A4 x.f4.length c4] 45)).alloc (.cells #[.slice none 0 0] 39) = w1 at *
  have HP1 := Aside0.mk (HP.out.then_ hb1)
  have HK1 := Aside0.mk (Kept.of_below hb1 S)
  have X4 := Aside0.mk x4
  have X5 := Aside0.mk x5
  have X6 := Aside0.mk x6
  have HG5 := Aside0.mk hg5
  have HG6 := Aside0.mk hg6
  have HB1 := Aside0.mk hb1
  clear x4 x5 x6 hb1 hg5 hg6
  refine (append_calls x.f1 A3 c3 x.f3 HP1.out.below HP1.out.disk (by unfold maxLen; omega) (fun W hW => Kd.C_below HX.out.r3 (below_then HP1.out.below HP1.out.below.size hW)) HX.out.b3 (by omega) hF).mono ?_
  rintro e w2 ⟨rfl, nx⟩
  have y4 := (nx.kept.2 w.heap.size (blk_lt X4.out) (fun h => by have := hS6.out _ h; omega)).trans X4.out
  have y5 := (nx.kept.2 g5 (blk_lt X5.out) (fun h => by have := hS6.out _ h; have := HG5.out; omega)).trans X5.out
  have y6 := (nx.kept.2 g6 (blk_lt X6.out) (fun h => by have := hS6.out _ h; have := HG6.out; omega)).trans X6.out
  obtain ⟨S1, hp2, hS1⟩ : ∃ S1 : Nat → Prop, Pre w0 w2 S1 d _ ∧ ∀ k, S1 k ↔ ((S k ∨ w1.heap.size ≤ k) ∧ k < w2.heap.size) := ⟨_, HP1.out.next nx, fun _ => Iff.rfl⟩
  have HP2 := Aside0.mk hp2
  have HK2 : Aside0 (Kept w w2 S) := ⟨HK1.out.then_ nx.kept (fun k hk => .inl hk)⟩
  have HG2 : Aside0 (∀ k, S1 k → S k ∨ w.heap.size ≤ k) := ⟨fun k hk => ((hS1 k).1 hk).1.imp id (fun h => Nat.le_trans HB1.out.size h)⟩
  have HSV := Aside0.mk (HV.out.kept (S' := fun k => S1 k ∨ k = g6) HK2.out (fun k hk => hk.elim (HG2.out k) (fun e => .inr (e ▸ HG6.out))))
  have HNG : Aside0 (¬ S1 g6) := ⟨fun h => by
    have := blk_lt X6.out
    rcases ((hS1 _).1 h).1 with h | h
    · have := hS6.out _ h; have := HG6.out; omega
    · omega⟩
  have hlt2 : Aside0 (∀ k, (S1 k ∨ k = g6) → k < w2.heap.size) := ⟨fun k hk => hk.elim (fun h => ((hS1 k).1 h).2) (fun e => e ▸ blk_lt y6)⟩
  have hc4 := blk_cell y4 0
  have hc50 := blk_cell y5 0
  have hc51 := blk_cell y5 1
  have hc52 := blk_cell y5 2
  have hc53 := blk_cell y5 3
  have hc54 := blk_cell y5 4
  have Y6 := Aside0.mk y6
  clear y4 y5 y6 nx hp2 hS1
  go_wp2_with fail
  obtain ⟨A', c', e', hcl, hcr, hout⟩ := HSV.out
  cases e'
  refine (append_ref T A c x.f1 A3 c3 x.f3 w2 (fun k => S1 k ∨ k = g6) hcr hcl hout hlt2.out HT.out (by omega) (Kd.C_below HX.out.r3 HP2.out.below) (by omega)).mono ?_
  rintro e w3 ⟨v, rfl, hsv, hb3⟩
  have hsv2 := hsv
  obtain ⟨A5, c5, e5, _⟩ := hsv2
  have HV3 : Aside0 (SV w3 (fun k => S1 k ∨ k = g6) (.slice A5 (refAppend T x.f1 x.f3).1.length c5) (refAppend T x.f1 x.f3).1) := ⟨e5 ▸ hsv⟩
  rw [e5]
  have z6 := (hb3.block g6 (blk_lt Y6.out)).trans Y6.out
  have hf6 : ∀ o, (w3.alloc o).frozen? ⟨g6, 0, none⟩ = false := fun o => blk_frozen ((Below.heap_alloc w3 o g6 (blk_lt z6)).trans z6) 0
  have hc6 : ∀ o, (w3.alloc o).cell? ⟨g6, 0, none⟩ = some (.slice none 0 0) := fun o => blk_cell ((Below.heap_alloc w3 o g6 (blk_lt z6)).trans z6) 0
  have hg6w : g6 ≠ w3.heap.size := fun e => by have := blk_lt z6; omega
  have Z6 := Aside0.mk z6
  have HB3 := Aside0.mk hb3
  clear hsv hb3 z6 e5 hcl hcr hout
  have hfin : Aside0 (∀ o, Post w0 w ((w3.alloc o).setCell ⟨g6, 0, none⟩ (.slice A5 (refAppend T x.f1 x.f3).1.length c5)) S S1 d (dStep F x) (refStep T x) (.slice A5 (refAppend T x.f1 x.f3).1.length c5)) := ⟨fun o => by
    rw [dstep_K0 (by rw [HKD.out]; decide), rstep_K0 (by rw [HKD.out]; decide)]
    exact do_end2 (HP2.out.then_ HB3.out) HV3.out (HK2.out.below HB3.out) HG2.out HNG.out HG6.out (Nat.le_trans HP.out.below.size HG6.out) o⟩
  have heq : Aside0 (F = T → Sorted F → (dAppend F x.f1 x.f3).2 = (refAppend T x.f1 x.f3).2) := ⟨fun e hs => by subst e; rw [append_eq hs]⟩
  generalize (dAppend F x.f1 x.f3).2 = e1 at *
  generalize hR : (refAppend T x.f1 x.f3) = R at *
  have hRR := Aside0.mk hR
  clear hR
  go_wp2
  refine bodyPost_ret (results_ct rfl _ _ g6 39 #[.slice A5 R.1.length c5] (0, 0) _ rfl (by refine blk_put (cs := #[.slice none 0 0]) ?_ 0 _ rfl; exact (Below.heap_alloc w3 _ g6 (blk_lt Z6.out)).trans Z6.out) Try.underlying39 rfl (by kernel_rfl)) rfl ?_
  refine ⟨_, _, S1, rfl, hfin.out _, fun e hs => ?_⟩
  have := heq.out e hs
  simpa using this

set_option maxRecDepth 100000 in
set_option maxHeartbeats 400000 in
theorem do_append1 {w0 w : World} {S : Nat → Prop} {d : Nat} {F T : List S61} (x : S45) (A : Option Addr) (c : Nat) (A3 : Option Addr) (c3 : Nat) (A4 : Option Addr) (c4 : Nat) (hp : Pre w0 w S d F) (hv : SV w S (.slice A T.length c) T) (hF : F.length < 1073741824) (hT : Fit T) (hx : ActOk w0 x A3 c3 A4 c4) (hk : actN x = 1) :
    Calls Try.prog 17 #[ptr d, .agg #[.slice A T.length c], .agg #[.int .u8 x.f0, .string x.f1, .string x.f2, .slice A3 x.f3.length c3, .slice A4 x.f4.length c4]] w (DoPost w0 w S d F T x) := by
  have _ := hF
  have hu39 := Try.underlying39
  have hu45 := Try.underlying45
  obtain ⟨hl3, hl1, hl2, hl4⟩ := light_of hx.light
  obtain ⟨n, hn⟩ := Int.eq_ofNat_of_zero_le hx.b0.1
  have hn2 : n < 256 := by have := hx.b0.2; omega
  have hmod : (n : Int) % 8 = 1 := by
    unfold actN at hk
    rw [hn, Int.toNat_natCast] at hk
    omega
  have HP := Aside0.mk hp
  have HV := Aside0.mk hv
  have HX := Aside0.mk hx
  have HT := Aside0.mk hT
  have hS6 : Aside0 (∀ k, S k → k < w.heap.size) := ⟨hp.lt⟩
  have HKD := Aside0.mk hk
  clear hp hv hx hT hk
  unfold ptr
  rw [hn]
  go_enter Try.func17, Try.ntmps17
  go_wp2_with fail
  obtain ⟨x4, x5, x6, hb1⟩ := boxes3 w (.cells #[.slice A T.length c] 39) (.cells #[.int .u8 n, .string x.f1, .string x.f2, .slice A3 x.f3.length c3, .slice A4 x.f4.length c4] 45) (.cells #[.slice none 0 0] 39)
  have hg5 : w.heap.size ≤ w.heap.size + 1 := by omega
  have hg6 : w.heap.size ≤ w.heap.size + 1 + 1 := by omega
  have hd46 : w.heap.size ≠ w.heap.size + 1 + 1 := by omega
  have hd56 : w.heap.size + 1 ≠ w.heap.size + 1 + 1 := by omega
  generalize w.heap.size + 1 + 1 = g6 at *
  generalize w.heap.size + 1 = g5 at *
  generalize ((w.alloc (.cells #[.slice A T.length c] 39)).alloc (.cells #[.int .u8 n, .string x.f1, .string x.f2, .slice A3 x.f3.length c3, .slice A4 x.f4.length c4] 45)).alloc (.cells #[.slice none 0 0] 39) = w1 at *
  have HP1 := Aside0.mk (HP.out.then_ hb1)
  have HK1 := Aside0.mk (Kept.of_below hb1 S)
  have X4 := Aside0.mk x4
  have X5 := Aside0.mk x5
  have X6 := Aside0.mk x6
  have HG5 := Aside0.mk hg5
  have HG6 := Aside0.mk hg6
  have HB1 := Aside0.mk hb1
  clear x4 x5 x6 hb1 hg5 hg6
  refine (append_calls x.f1 A3 c3 x.f3 HP1.out.below HP1.out.disk (by unfold maxLen; omega) (fun W hW => Kd.C_below HX.out.r3 (below_then HP1.out.below HP1.out.below.size hW)) HX.out.b3 (by omega) hF).mono ?_
  rintro e w2 ⟨rfl, nx⟩
  have y4 := (nx.kept.2 w.heap.size (blk_lt X4.out) (fun h => by have := hS6.out _ h; omega)).trans X4.out
  have y5 := (nx.kept.2 g5 (blk_lt X5.out) (fun h => by have := hS6.out _ h; have := HG5.out; omega)).trans X5.out
  have y6 := (nx.kept.2 g6 (blk_lt X6.out) (fun h => by have := hS6.out _ h; have := HG6.out; omega)).trans X6.out
  obtain ⟨S1, hp2, hS1⟩ : ∃ S1 : Nat → Prop, Pre w0 w2 S1 d _ ∧ ∀ k, S1 k ↔ ((S k ∨ w1.heap.size ≤ k) ∧ k < w2.heap.size) := ⟨_, HP1.out.next nx, fun _ => Iff.rfl⟩
  have HP2 := Aside0.mk hp2
  have HK2 : Aside0 (Kept w w2 S) := ⟨HK1.out.then_ nx.kept (fun k hk => .inl hk)⟩
  have HG2 : Aside0 (∀ k, S1 k → S k ∨ w.heap.size ≤ k) := ⟨fun k hk => ((hS1 k).1 hk).1.imp id (fun h => Nat.le_trans HB1.out.size h)⟩
  have HSV := Aside0.mk (HV.out.kept (S' := fun k => S1 k ∨ k = g6) HK2.out (fun k hk => hk.elim (HG2.out k) (fun e => .inr (e ▸ HG6.out))))
  have HNG : Aside0 (¬ S1 g6) := ⟨fun h => by
    have := blk_lt X6.out
    rcases ((hS1 _).1 h).1 with h | h
    · have := hS6.out _ h; have := HG6.out; omega
    · omega⟩
  have hlt2 : Aside0 (∀ k, (S1 k ∨ k = g6) → k < w2.heap.size) := ⟨fun k hk => hk.elim (fun h => ((hS1 k).1 h).2) (fun e => e ▸ blk_lt y6)⟩
  have hc4 := blk_cell y4 0
  have hc50 := blk_cell y5 0
  have hc51 := blk_cell y5 1
  have hc52 := blk_cell y5 2
  have hc53 := blk_cell y5 3
  have hc54 := blk_cell y5 4
  have Y6 := Aside0.mk y6
  clear y4 y5 y6 nx hp2 hS1
  go_wp2_with fail
  obtain ⟨A', c', e', hcl, hcr, hout⟩ := HSV.out
  cases e'
  refine (append_ref T A c x.f1 A3 c3 x.f3 w2 (fun k => S1 k ∨ k = g6) hcr hcl hout hlt2.out HT.out (by omega) (Kd.C_below HX.out.r3 HP2.out.below) (by omega)).mono ?_
  rintro e w3 ⟨v, rfl, hsv, hb3⟩
  have hsv2 := hsv
  obtain ⟨A5, c5, e5, _⟩ := hsv2
  have HV3 : Aside0 (SV w3 (fun k => S1 k ∨ k = g6) (.slice A5 (refAppend T x.f1 x.f3).1.length c5) (refAppend T x.f1 x.f3).1) := ⟨e5 ▸ hsv⟩
  rw [e5]
  have z6 := (hb3.block g6 (blk_lt Y6.out)).trans Y6.out
  have hf6 : ∀ o, (w3.alloc o).frozen? ⟨g6, 0, none⟩ = false := fun o => blk_frozen ((Below.heap_alloc w3 o g6 (blk_lt z6)).trans z6) 0
  have hc6 : ∀ o, (w3.alloc o).cell? ⟨g6, 0, none⟩ = some (.slice none 0 0) := fun o => blk_cell ((Below.heap_alloc w3 o g6 (blk_lt z6)).trans z6) 0
  have hg6w : g6 ≠ w3.heap.size := fun e => by have := blk_lt z6; omega
  have Z6 := Aside0.mk z6
  have HB3 := Aside0.mk hb3
  clear hsv hb3 z6 e5 hcl hcr hout
  have hfin : Aside0 (∀ o, Post w0 w ((w3.alloc o).setCell ⟨g6, 0, none⟩ (.slice A5 (refAppend T x.f1 x.f3).1.length c5)) S S1 d (dStep F x) (refStep T x) (.slice A5 (refAppend T x.f1 x.f3).1.length c5)) := ⟨fun o => by
    rw [dstep_K0 (by rw [HKD.out]; decide), rstep_K0 (by rw [HKD.out]; decide)]
    exact do_end2 (HP2.out.then_ HB3.out) HV3.out (HK2.out.below HB3.out) HG2.out HNG.out HG6.out (Nat.le_trans HP.out.below.size HG6.out) o⟩
  have heq : Aside0 (F = T → Sorted F → (dAppend F x.f1 x.f3).2 = (refAppend T x.f1 x.f3).2) := ⟨fun e hs => by subst e; rw [append_eq hs]⟩
  generalize (dAppend F x.f1 x.f3).2 = e1 at *
  generalize hR : (refAppend T x.f1 x.f3) = R at *
  have hRR := Aside0.mk hR
  clear hR
  go_wp2
  refine bodyPost_ret (results_ct rfl _ _ g6 39 #[.slice A5 R.1.length c5] (0, 0) _ rfl (by refine blk_put (cs := #[.slice none 0 0]) ?_ 0 _ rfl; exact (Below.heap_alloc w3 _ g6 (blk_lt Z6.out)).trans Z6.out) Try.underlying39 rfl (by kernel_rfl)) rfl ?_
  refine ⟨_, _, S1, rfl, hfin.out _, fun e hs => ?_⟩
  have := heq.out e hs
  simpa using this

set_option maxRecDepth 100000 in
set_option maxHeartbeats 400000 in
theorem do_append2 {w0 w : World} {S : Nat → Prop} {d : Nat} {F T : List S61} (x : S45) (A : Option Addr) (c : Nat) (A3 : Option Addr) (c3 : Nat) (A4 : Option Addr) (c4 : Nat) (hp : Pre w0 w S d F) (hv : SV w S (.slice A T.length c) T) (hF : F.length < 1073741824) (hT : Fit T) (hx : ActOk w0 x A3 c3 A4 c4) (hk : actN x = 2) :
    Calls Try.prog 17 #[ptr d, .agg #[.slice A T.length c], .agg #[.int .u8 x.f0, .string x.f1, .string x.f2, .slice A3 x.f3.length c3, .slice A4 x.f4.length c4]] w (DoPost w0 w S d F T x) := by
  have _ := hF
  have hu39 := Try.underlying39
  have hu45 := Try.underlying45
  obtain ⟨hl3, hl1, hl2, hl4⟩ := light_of hx.light
  obtain ⟨n, hn⟩ := Int.eq_ofNat_of_zero_le hx.b0.1
  have hn2 : n < 256 := by have := hx.b0.2; omega
  have hmod : (n : Int) % 8 = 2 := by
    unfold actN at hk
    rw [hn, Int.toNat_natCast] at hk
    omega
  have HP := Aside0.mk hp
  have HV := Aside0.mk hv
  have HX := Aside0.mk hx
  have HT := Aside0.mk hT
  have hS6 : Aside0 (∀ k, S k → k < w.heap.size) := ⟨hp.lt⟩
  have HKD := Aside0.mk hk
  clear hp hv hx hT hk
  unfold ptr
  rw [hn]
  go_enter Try.func17, Try.ntmps17
  go_wp2_with fail
  obtain ⟨x4, x5, x6, hb1⟩ := boxes3 w (.cells #[.slice A T.length c] 39) (.cells #[.int .u8 n, .string x.f1, .string x.f2, .slice A3 x.f3.length c3, .slice A4 x.f4.length c4] 45) (.cells #[.slice none 0 0] 39)
  have hg5 : w.heap.size ≤ w.heap.size + 1 := by omega
  have hg6 : w.heap.size ≤ w.heap.size + 1 + 1 := by omega
  have hd46 : w.heap.size ≠ w.heap.size + 1 + 1 := by omega
  have hd56 : w.heap.size + 1 ≠ w.heap.size + 1 + 1 := by omega
  generalize w.heap.size + 1 + 1 = g6 at *
  generalize w.heap.size + 1 = g5 at *
  generalize ((w.alloc (.cells #[.slice A T.length c] 39)).alloc (.cells #[.int .u8 n, .string x.f1, .string x.f2, .slice A3 x.f3.length c3, .slice A4 x.f4.length c4] 45)).alloc (.cells #[.slice none 0 0] 39) = w1 at *
  have HP1 := Aside0.mk (HP.out.then_ hb1)
  have HK1 := Aside0.mk (Kept.of_below hb1 S)
  have X4 := Aside0.mk x4
  have X5 := Aside0.mk x5
  have X6 := Aside0.mk x6
  have HG5 := Aside0.mk hg5
  have HG6 := Aside0.mk hg6
  have HB1 := Aside0.mk hb1
  clear x4 x5 x6 hb1 hg5 hg6
  refine (append_calls x.f1 A3 c3 x.f3 HP1.out.below HP1.out.disk (by unfold maxLen; omega) (fun W hW => Kd.C_below HX.out.r3 (below_then HP1.out.below HP1.out.below.size hW)) HX.out.b3 (by omega) hF).mono ?_
  rintro e w2 ⟨rfl, nx⟩
  have y4 := (nx.kept.2 w.heap.size (blk_lt X4.out) (fun h => by have := hS6.out _ h; omega)).trans X4.out
  have y5 := (nx.kept.2 g5 (blk_lt X5.out) (fun h => by have := hS6.out _ h; have := HG5.out; omega)).trans X5.out
  have y6 := (nx.kept.2 g6 (blk_lt X6.out) (fun h => by have := hS6.out _ h; have := HG6.out; omega)).trans X6.out
  obtain ⟨S1, hp2, hS1⟩ : ∃ S1 : Nat → Prop, Pre w0 w2 S1 d _ ∧ ∀ k, S1 k ↔ ((S k ∨ w1.heap.size ≤ k) ∧ k < w2.heap.size) := ⟨_, HP1.out.next nx, fun _ => Iff.rfl⟩
  have HP2 := Aside0.mk hp2
  have HK2 : Aside0 (Kept w w2 S) := ⟨HK1.out.then_ nx.kept (fun k hk => .inl hk)⟩
  have HG2 : Aside0 (∀ k, S1 k → S k ∨ w.heap.size ≤ k) := ⟨fun k hk => ((hS1 k).1 hk).1.imp id (fun h => Nat.le_trans HB1.out.size h)⟩
  have HSV := Aside0.mk (HV.out.kept (S' := fun k => S1 k ∨ k = g6) HK2.out (fun k hk => hk.elim (HG2.out k) (fun e => .inr (e ▸ HG6.out))))
  have HNG : Aside0 (¬ S1 g6) := ⟨fun h => by
    have := blk_lt X6.out
    rcases ((hS1 _).1 h).1 with h | h
    · have := hS6.out _ h; have := HG6.out; omega
    · omega⟩
  have hlt2 : Aside0 (∀ k, (S1 k ∨ k = g6) → k < w2.heap.size) := ⟨fun k hk => hk.elim (fun h => ((hS1 k).1 h).2) (fun e => e ▸ blk_lt y6)⟩
  have hc4 := blk_cell y4 0
  have hc50 := blk_cell y5 0
  have hc51 := blk_cell y5 1
  have hc52 := blk_cell y5 2
  have hc53 := blk_cell y5 3
  have hc54 := blk_cell y5 4
  have Y6 := Aside0.mk y6
  clear y4 y5 y6 nx hp2 hS1
  go_wp2_with fail
  obtain ⟨A', c', e', hcl, hcr, hout⟩ := HSV.out
  cases e'
  refine (append_ref T A c x.f1 A3 c3 x.f3 w2 (fun k => S1 k ∨ k = g6) hcr hcl hout hlt2.out HT.out (by omega) (Kd.C_below HX.out.r3 HP2.out.below) (by omega)).mono ?_
  rintro e w3 ⟨v, rfl, hsv, hb3⟩
  have hsv2 := hsv
  obtain ⟨A5, c5, e5, _⟩ := hsv2
  have HV3 : Aside0 (SV w3 (fun k => S1 k ∨ k = g6) (.slice A5 (refAppend T x.f1 x.f3).1.length c5) (refAppend T x.f1 x.f3).1) := ⟨e5 ▸ hsv⟩
  rw [e5]
  have z6 := (hb3.block g6 (blk_lt Y6.out)).trans Y6.out
  have hf6 : ∀ o, (w3.alloc o).frozen? ⟨g6, 0, none⟩ = false := fun o => blk_frozen ((Below.heap_alloc w3 o g6 (blk_lt z6)).trans z6) 0
  have hc6 : ∀ o, (w3.alloc o).cell? ⟨g6, 0, none⟩ = some (.slice none 0 0) := fun o => blk_cell ((Below.heap_alloc w3 o g6 (blk_lt z6)).trans z6) 0
  have hg6w : g6 ≠ w3.heap.size := fun e => by have := blk_lt z6; omega
  have Z6 := Aside0.mk z6
  have HB3 := Aside0.mk hb3
  clear hsv hb3 z6 e5 hcl hcr hout
  have hfin : Aside0 (∀ o, Post w0 w ((w3.alloc o).setCell ⟨g6, 0, none⟩ (.slice A5 (refAppend T x.f1 x.f3).1.length c5)) S S1 d (dStep F x) (refStep T x) (.slice A5 (refAppend T x.f1 x.f3).1.length c5)) := ⟨fun o => by
    rw [dstep_K0 (by rw [HKD.out]; decide), rstep_K0 (by rw [HKD.out]; decide)]
    exact do_end2 (HP2.out.then_ HB3.out) HV3.out (HK2.out.below HB3.out) HG2.out HNG.out HG6.out (Nat.le_trans HP.out.below.size HG6.out) o⟩
  have heq : Aside0 (F = T → Sorted F → (dAppend F x.f1 x.f3).2 = (refAppend T x.f1 x.f3).2) := ⟨fun e hs => by subst e; rw [append_eq hs]⟩
  generalize (dAppend F x.f1 x.f3).2 = e1 at *
  generalize hR : (refAppend T x.f1 x.f3) = R at *
  have hRR := Aside0.mk hR
  clear hR
  go_wp2
  refine bodyPost_ret (results_ct rfl _ _ g6 39 #[.slice A5 R.1.length c5] (0, 0) _ rfl (by refine blk_put (cs := #[.slice none 0 0]) ?_ 0 _ rfl; exact (Below.heap_alloc w3 _ g6 (blk_lt Z6.out)).trans Z6.out) Try.underlying39 rfl (by kernel_rfl)) rfl ?_
  refine ⟨_, _, S1, rfl, hfin.out _, fun e hs => ?_⟩
  have := heq.out e hs
  simpa using this

set_option maxRecDepth 100000 in
set_option maxHeartbeats 400000 in
theorem do_sync {w0 w : World} {S : Nat → Prop} {d : Nat} {F T : List S61} (x : S45) (A : Option Addr) (c : Nat) (A3 : Option Addr) (c3 : Nat) (A4 : Option Addr) (c4 : Nat) (hp : Pre w0 w S d F) (hv : SV w S (.slice A T.length c) T) (hF : F.length < 1073741824) (hT : Fit T) (hx : ActOk w0 x A3 c3 A4 c4) (hk : actN x = 3) :
    Calls Try.prog 17 #[ptr d, .agg #[.slice A T.length c], .agg #[.int .u8 x.f0, .string x.f1, .string x.f2, .slice A3 x.f3.length c3, .slice A4 x.f4.length c4]] w (DoPost w0 w S d F T x) := by
  have _ := hF
  have hu39 := Try.underlying39
  have hu45 := Try.underlying45
  obtain ⟨hl3, hl1, hl2, hl4⟩ := light_of hx.light
  obtain ⟨n, hn⟩ := Int.eq_ofNat_of_zero_le hx.b0.1
  have hn2 : n < 256 := by have := hx.b0.2; omega
  have hmod : (n : Int) % 8 = 3 := by
    unfold actN at hk
    rw [hn, Int.toNat_natCast] at hk
    omega
  have HP := Aside0.mk hp
  have HV := Aside0.mk hv
  have HX := Aside0.mk hx
  have HT := Aside0.mk hT
  have hS6 : Aside0 (∀ k, S k → k < w.heap.size) := ⟨hp.lt⟩
  have HKD := Aside0.mk hk
  clear hp hv hx hT hk
  unfold ptr
  rw [hn]
  go_enter Try.func17, Try.ntmps17
  go_wp2_with fail
  obtain ⟨x4, x5, x6, hb1⟩ := boxes3 w (.cells #[.slice A T.length c] 39) (.cells #[.int .u8 n, .string x.f1, .string x.f2, .slice A3 x.f3.length c3, .slice A4 x.f4.length c4] 45) (.cells #[.slice none 0 0] 39)
  have hg5 : w.heap.size ≤ w.heap.size + 1 := by omega
  have hg6 : w.heap.size ≤ w.heap.size + 1 + 1 := by omega
  have hd46 : w.heap.size ≠ w.heap.size + 1 + 1 := by omega
  have hd56 : w.heap.size + 1 ≠ w.heap.size + 1 + 1 := by omega
  generalize w.heap.size + 1 + 1 = g6 at *
  generalize w.heap.size + 1 = g5 at *
  generalize ((w.alloc (.cells #[.slice A T.length c] 39)).alloc (.cells #[.int .u8 n, .string x.f1, .string x.f2, .slice A3 x.f3.length c3, .slice A4 x.f4.length c4] 45)).alloc (.cells #[.slice none 0 0] 39) = w1 at *
  have HP1 := Aside0.mk (HP.out.then_ hb1)
  have HK1 := Aside0.mk (Kept.of_below hb1 S)
  have X4 := Aside0.mk x4
  have X5 := Aside0.mk x5
  have X6 := Aside0.mk x6
  have HG5 := Aside0.mk hg5
  have HG6 := Aside0.mk hg6
  have HB1 := Aside0.mk hb1
  clear x4 x5 x6 hb1 hg5 hg6
  refine (sync_calls x.f1 HP1.out.below HP1.out.disk (by unfold maxLen; omega)).mono ?_
  rintro e w2 ⟨rfl, nx⟩
  have y4 := (nx.kept.2 w.heap.size (blk_lt X4.out) (fun h => by have := hS6.out _ h; omega)).trans X4.out
  have y5 := (nx.kept.2 g5 (blk_lt X5.out) (fun h => by have := hS6.out _ h; have := HG5.out; omega)).trans X5.out
  have y6 := (nx.kept.2 g6 (blk_lt X6.out) (fun h => by have := hS6.out _ h; have := HG6.out; omega)).trans X6.out
  obtain ⟨S1, hp2, hS1⟩ : ∃ S1 : Nat → Prop, Pre w0 w2 S1 d _ ∧ ∀ k, S1 k ↔ ((S k ∨ w1.heap.size ≤ k) ∧ k < w2.heap.size) := ⟨_, HP1.out.next nx, fun _ => Iff.rfl⟩
  have HP2 := Aside0.mk hp2
  have HK2 : Aside0 (Kept w w2 S) := ⟨HK1.out.then_ nx.kept (fun k hk => .inl hk)⟩
  have HG2 : Aside0 (∀ k, S1 k → S k ∨ w.heap.size ≤ k) := ⟨fun k hk => ((hS1 k).1 hk).1.imp id (fun h => Nat.le_trans HB1.out.size h)⟩
  have HSV := Aside0.mk (HV.out.kept (S' := fun k => S1 k ∨ k = g6) HK2.out (fun k hk => hk.elim (HG2.out k) (fun e => .inr (e ▸ HG6.out))))
  have HNG : Aside0 (¬ S1 g6) := ⟨fun h => by
    have := blk_lt X6.out
    rcases ((hS1 _).1 h).1 with h | h
    · have := hS6.out _ h; have := HG6.out; omega
    · omega⟩
  have hlt2 : Aside0 (∀ k, (S1 k ∨ k = g6) → k < w2.heap.size) := ⟨fun k hk => hk.elim (fun h => ((hS1 k).1 h).2) (fun e => e ▸ blk_lt y6)⟩
  have hc4 := blk_cell y4 0
  have hc50 := blk_cell y5 0
  have hc51 := blk_cell y5 1
  have hc52 := blk_cell y5 2
  have hc53 := blk_cell y5 3
  have hc54 := blk_cell y5 4
  have Y6 := Aside0.mk y6
  clear y4 y5 y6 nx hp2 hS1
  go_wp2_with fail
  obtain ⟨A', c', e', hcl, hcr, hout⟩ := HSV.out
  cases e'
  refine (sync_ref T A c x.f1 w2 (fun k => S1 k ∨ k = g6) hcr hcl hout hlt2.out HT.out).mono ?_
  rintro e w3 ⟨v, rfl, hsv, hb3⟩
  have hsv2 := hsv
  obtain ⟨A5, c5, e5, _⟩ := hsv2
  have HV3 : Aside0 (SV w3 (fun k => S1 k ∨ k = g6) (.slice A5 (refSync T x.f1).1.length c5) (refSync T x.f1).1) := ⟨e5 ▸ hsv⟩
  rw [e5]
  have z6 := (hb3.block g6 (blk_lt Y6.out)).trans Y6.out
  have hf6 : ∀ o, (w3.alloc o).frozen? ⟨g6, 0, none⟩ = false := fun o => blk_frozen ((Below.heap_alloc w3 o g6 (blk_lt z6)).trans z6) 0
  have hc6 : ∀ o, (w3.alloc o).cell? ⟨g6, 0, none⟩ = some (.slice none 0 0) := fun o => blk_cell ((Below.heap_alloc w3 o g6 (blk_lt z6)).trans z6) 0
  have hg6w : g6 ≠ w3.heap.size := fun e => by have := blk_lt z6; omega
  have Z6 := Aside0.mk z6
  have HB3 := Aside0.mk hb3
  clear hsv hb3 z6 e5 hcl hcr hout
  have hfin : Aside0 (∀ o, Post w0 w ((w3.alloc o).setCell ⟨g6, 0, none⟩ (.slice A5 (refSync T x.f1).1.length c5)) S S1 d (dStep F x) (refStep T x) (.slice A5 (refSync T x.f1).1.length c5)) := ⟨fun o => by
    rw [dstep_K3 HKD.out, rstep_K3 HKD.out]
    exact do_end2 (HP2.out.then_ HB3.out) HV3.out (HK2.out.below HB3.out) HG2.out HNG.out HG6.out (Nat.le_trans HP.out.below.size HG6.out) o⟩
  have heq : Aside0 (F = T → Sorted F → (dSync F x.f1).2 = (refSync T x.f1).2) := ⟨fun e hs => by subst e; rw [sync_eq hs]⟩
  generalize (dSync F x.f1).2 = e1 at *
  generalize hR : (refSync T x.f1) = R at *
  have hRR := Aside0.mk hR
  clear hR
  go_wp2
  refine bodyPost_ret (results_ct rfl _ _ g6 39 #[.slice A5 R.1.length c5] (0, 0) _ rfl (by refine blk_put (cs := #[.slice none 0 0]) ?_ 0 _ rfl; exact (Below.heap_alloc w3 _ g6 (blk_lt Z6.out)).trans Z6.out) Try.underlying39 rfl (by kernel_rfl)) rfl ?_
  refine ⟨_, _, S1, rfl, hfin.out _, fun e hs => ?_⟩
  have := heq.out e hs
  simpa using this

set_option maxRecDepth 100000 in
set_option maxHeartbeats 400000 in
theorem do_rename {w0 w : World} {S : Nat → Prop} {d : Nat} {F T : List S61} (x : S45) (A : Option Addr) (c : Nat) (A3 : Option Addr) (c3 : Nat) (A4 : Option Addr) (c4 : Nat) (hp : Pre w0 w S d F) (hv : SV w S (.slice A T.length c) T) (hF : F.length < 1073741824) (hT : Fit T) (hx : ActOk w0 x A3 c3 A4 c4) (hk : actN x = 4) :
    Calls Try.prog 17 #[ptr d, .agg #[.slice A T.length c], .agg #[.int .u8 x.f0, .string x.f1, .string x.f2, .slice A3 x.f3.length c3, .slice A4 x.f4.length c4]] w (DoPost w0 w S d F T x) := by
  have _ := hF
  have hu39 := Try.underlying39
  have hu45 := Try.underlying45
  obtain ⟨hl3, hl1, hl2, hl4⟩ := light_of hx.light
  obtain ⟨n, hn⟩ := Int.eq_ofNat_of_zero_le hx.b0.1
  have hn2 : n < 256 := by have := hx.b0.2; omega
  have hmod : (n : Int) % 8 = 4 := by
    unfold actN at hk
    rw [hn, Int.toNat_natCast] at hk
    omega
  have HP := Aside0.mk hp
  have HV := Aside0.mk hv
  have HX := Aside0.mk hx
  have HT := Aside0.mk hT
  have hS6 : Aside0 (∀ k, S k → k < w.heap.size) := ⟨hp.lt⟩
  have HKD := Aside0.mk hk
  clear hp hv hx hT hk
  unfold ptr
  rw [hn]
  go_enter Try.func17, Try.ntmps17
  go_wp2_with fail
  obtain ⟨x4, x5, x6, hb1⟩ := boxes3 w (.cells #[.slice A T.length c] 39) (.cells #[.int .u8 n, .string x.f1, .string x.f2, .slice A3 x.f3.length c3, .slice A4 x.f4.length c4] 45) (.cells #[.slice none 0 0] 39)
  have hg5 : w.heap.size ≤ w.heap.size + 1 := by omega
  have hg6 : w.heap.size ≤ w.heap.size + 1 + 1 := by omega
  have hd46 : w.heap.size ≠ w.heap.size + 1 + 1 := by omega
  have hd56 : w.heap.size + 1 ≠ w.heap.size + 1 + 1 := by omega
  generalize w.heap.size + 1 + 1 = g6 at *
  generalize w.heap.size + 1 = g5 at *
  generalize ((w.alloc (.cells #[.slice A T.length c] 39)).alloc (.cells #[.int .u8 n, .string x.f1, .string x.f2, .slice A3 x.f3.length c3, .slice A4 x.f4.length c4] 45)).alloc (.cells #[.slice none 0 0] 39) = w1 at *
  have HP1 := Aside0.mk (HP.out.then_ hb1)
  have HK1 := Aside0.mk (Kept.of_below hb1 S)
  have X4 := Aside0.mk x4
  have X5 := Aside0.mk x5
  have X6 := Aside0.mk x6
  have HG5 := Aside0.mk hg5
  have HG6 := Aside0.mk hg6
  have HB1 := Aside0.mk hb1
  clear x4 x5 x6 hb1 hg5 hg6
  refine (rename_calls x.f1 x.f2 HP1.out.below HP1.out.disk (by unfold maxLen; omega) (by unfold maxLen; omega) hF).mono ?_
  rintro e w2 ⟨rfl, nx⟩
  have y4 := (nx.kept.2 w.heap.size (blk_lt X4.out) (fun h => by have := hS6.out _ h; omega)).trans X4.out
  have y5 := (nx.kept.2 g5 (blk_lt X5.out) (fun h => by have := hS6.out _ h; have := HG5.out; omega)).trans X5.out
  have y6 := (nx.kept.2 g6 (blk_lt X6.out) (fun h => by have := hS6.out _ h; have := HG6.out; omega)).trans X6.out
  obtain ⟨S1, hp2, hS1⟩ : ∃ S1 : Nat → Prop, Pre w0 w2 S1 d _ ∧ ∀ k, S1 k ↔ ((S k ∨ w1.heap.size ≤ k) ∧ k < w2.heap.size) := ⟨_, HP1.out.next nx, fun _ => Iff.rfl⟩
  have HP2 := Aside0.mk hp2
  have HK2 : Aside0 (Kept w w2 S) := ⟨HK1.out.then_ nx.kept (fun k hk => .inl hk)⟩
  have HG2 : Aside0 (∀ k, S1 k → S k ∨ w.heap.size ≤ k) := ⟨fun k hk => ((hS1 k).1 hk).1.imp id (fun h => Nat.le_trans HB1.out.size h)⟩
  have HSV := Aside0.mk (HV.out.kept (S' := fun k => S1 k ∨ k = g6) HK2.out (fun k hk => hk.elim (HG2.out k) (fun e => .inr (e ▸ HG6.out))))
  have HNG : Aside0 (¬ S1 g6) := ⟨fun h => by
    have := blk_lt X6.out
    rcases ((hS1 _).1 h).1 with h | h
    · have := hS6.out _ h; have := HG6.out; omega
    · omega⟩
  have hlt2 : Aside0 (∀ k, (S1 k ∨ k = g6) → k < w2.heap.size) := ⟨fun k hk => hk.elim (fun h => ((hS1 k).1 h).2) (fun e => e ▸ blk_lt y6)⟩
  have hc4 := blk_cell y4 0
  have hc50 := blk_cell y5 0
  have hc51 := blk_cell y5 1
  have hc52 := blk_cell y5 2
  have hc53 := blk_cell y5 3
  have hc54 := blk_cell y5 4
  have Y6 := Aside0.mk y6
  clear y4 y5 y6 nx hp2 hS1
  go_wp2_with fail
  obtain ⟨A', c', e', hcl, hcr, hout⟩ := HSV.out
  cases e'
  refine (rename_ref T A c x.f1 x.f2 w2 (fun k => S1 k ∨ k = g6) hcr hcl hout hlt2.out HT.out (by omega)).mono ?_
  rintro e w3 ⟨v, rfl, hsv, hb3⟩
  have hsv2 := hsv
  obtain ⟨A5, c5, e5, _⟩ := hsv2
  have HV3 : Aside0 (SV w3 (fun k => S1 k ∨ k = g6) (.slice A5 (refRename T x.f1 x.f2).1.length c5) (refRename T x.f1 x.f2).1) := ⟨e5 ▸ hsv⟩
  rw [e5]
  have z6 := (hb3.block g6 (blk_lt Y6.out)).trans Y6.out
  have hf6 : ∀ o, (w3.alloc o).frozen? ⟨g6, 0, none⟩ = false := fun o => blk_frozen ((Below.heap_alloc w3 o g6 (blk_lt z6)).trans z6) 0
  have hc6 : ∀ o, (w3.alloc o).cell? ⟨g6, 0, none⟩ = some (.slice none 0 0) := fun o => blk_cell ((Below.heap_alloc w3 o g6 (blk_lt z6)).trans z6) 0
  have hg6w : g6 ≠ w3.heap.size := fun e => by have := blk_lt z6; omega
  have Z6 := Aside0.mk z6
  have HB3 := Aside0.mk hb3
  clear hsv hb3 z6 e5 hcl hcr hout
  have hfin : Aside0 (∀ o, Post w0 w ((w3.alloc o).setCell ⟨g6, 0, none⟩ (.slice A5 (refRename T x.f1 x.f2).1.length c5)) S S1 d (dStep F x) (refStep T x) (.slice A5 (refRename T x.f1 x.f2).1.length c5)) := ⟨fun o => by
    rw [dstep_K4 HKD.out, rstep_K4 HKD.out]
    exact do_end2 (HP2.out.then_ HB3.out) HV3.out (HK2.out.below HB3.out) HG2.out HNG.out HG6.out (Nat.le_trans HP.out.below.size HG6.out) o⟩
  have heq : Aside0 (F = T → Sorted F → (dRename F x.f1 x.f2).2 = (refRename T x.f1 x.f2).2) := ⟨fun e hs => by subst e; rw [rename_eq hs]⟩
  generalize (dRename F x.f1 x.f2).2 = e1 at *
  generalize hR : (refRename T x.f1 x.f2) = R at *
  have hRR := Aside0.mk hR
  clear hR
  go_wp2
  refine bodyPost_ret (results_ct rfl _ _ g6 39 #[.slice A5 R.1.length c5] (0, 0) _ rfl (by refine blk_put (cs := #[.slice none 0 0]) ?_ 0 _ rfl; exact (Below.heap_alloc w3 _ g6 (blk_lt Z6.out)).trans Z6.out) Try.underlying39 rfl (by kernel_rfl)) rfl ?_
  refine ⟨_, _, S1, rfl, hfin.out _, fun e hs => ?_⟩
  have := heq.out e hs
  simpa using this

set_option maxRecDepth 100000 in
set_option maxHeartbeats 400000 in
theorem do_remove {w0 w : World} {S : Nat → Prop} {d : Nat} {F T : List S61} (x : S45) (A : Option Addr) (c : Nat) (A3 : Option Addr) (c3 : Nat) (A4 : Option Addr) (c4 : Nat) (hp : Pre w0 w S d F) (hv : SV w S (.slice A T.length c) T) (hF : F.length < 1073741824) (hT : Fit T) (hx : ActOk w0 x A3 c3 A4 c4) (hk : actN x = 5) :
    Calls Try.prog 17 #[ptr d, .agg #[.slice A T.length c], .agg #[.int .u8 x.f0, .string x.f1, .string x.f2, .slice A3 x.f3.length c3, .slice A4 x.f4.length c4]] w (DoPost w0 w S d F T x) := by
  have _ := hF
  have hu39 := Try.underlying39
  have hu45 := Try.underlying45
  obtain ⟨hl3, hl1, hl2, hl4⟩ := light_of hx.light
  obtain ⟨n, hn⟩ := Int.eq_ofNat_of_zero_le hx.b0.1
  have hn2 : n < 256 := by have := hx.b0.2; omega
  have hmod : (n : Int) % 8 = 5 := by
    unfold actN at hk
    rw [hn, Int.toNat_natCast] at hk
    omega
  have HP := Aside0.mk hp
  have HV := Aside0.mk hv
  have HX := Aside0.mk hx
  have HT := Aside0.mk hT
  have hS6 : Aside0 (∀ k, S k → k < w.heap.size) := ⟨hp.lt⟩
  have HKD := Aside0.mk hk
  clear hp hv hx hT hk
  unfold ptr
  rw [hn]
  go_enter Try.func17, Try.ntmps17
  go_wp2_with fail
  obtain ⟨x4, x5, x6, hb1⟩ := boxes3 w (.cells #[.slice A T.length c] 39) (.cells #[.int .u8 n, .string x.f1, .string x.f2, .slice A3 x.f3.length c3, .slice A4 x.f4.length c4] 45) (.cells #[.slice none 0 0] 39)
  have hg5 : w.heap.size ≤ w.heap.size + 1 := by omega
  have hg6 : w.heap.size ≤ w.heap.size + 1 + 1 := by omega
  have hd46 : w.heap.size ≠ w.heap.size + 1 + 1 := by omega
  have hd56 : w.heap.size + 1 ≠ w.heap.size + 1 + 1 := by omega
  generalize w.heap.size + 1 + 1 = g6 at *
  generalize w.heap.size + 1 = g5 at *
  generalize ((w.alloc (.cells #[.slice A T.length c] 39)).alloc (.cells #[.int .u8 n, .string x.f1, .string x.f2, .slice A3 x.f3.length c3, .slice A4 x.f4.length c4] 45)).alloc (.cells #[.slice none 0 0] 39) = w1 at *
  have HP1 := Aside0.mk (HP.out.then_ hb1)
  have HK1 := Aside0.mk (Kept.of_below hb1 S)
  have X4 := Aside0.mk x4
  have X5 := Aside0.mk x5
  have X6 := Aside0.mk x6
  have HG5 := Aside0.mk hg5
  have HG6 := Aside0.mk hg6
  have HB1 := Aside0.mk hb1
  clear x4 x5 x6 hb1 hg5 hg6
  refine (remove_calls x.f1 HP1.out.below HP1.out.disk (by unfold maxLen; omega)).mono ?_
  rintro e w2 ⟨rfl, nx⟩
  have y4 := (nx.kept.2 w.heap.size (blk_lt X4.out) (fun h => by have := hS6.out _ h; omega)).trans X4.out
  have y5 := (nx.kept.2 g5 (blk_lt X5.out) (fun h => by have := hS6.out _ h; have := HG5.out; omega)).trans X5.out
  have y6 := (nx.kept.2 g6 (blk_lt X6.out) (fun h => by have := hS6.out _ h; have := HG6.out; omega)).trans X6.out
  obtain ⟨S1, hp2, hS1⟩ : ∃ S1 : Nat → Prop, Pre w0 w2 S1 d _ ∧ ∀ k, S1 k ↔ ((S k ∨ w1.heap.size ≤ k) ∧ k < w2.heap.size) := ⟨_, HP1.out.next nx, fun _ => Iff.rfl⟩
  have HP2 := Aside0.mk hp2
  have HK2 : Aside0 (Kept w w2 S) := ⟨HK1.out.then_ nx.kept (fun k hk => .inl hk)⟩
  have HG2 : Aside0 (∀ k, S1 k → S k ∨ w.heap.size ≤ k) := ⟨fun k hk => ((hS1 k).1 hk).1.imp id (fun h => Nat.le_trans HB1.out.size h)⟩
  have HSV := Aside0.mk (HV.out.kept (S' := fun k => S1 k ∨ k = g6) HK2.out (fun k hk => hk.elim (HG2.out k) (fun e => .inr (e ▸ HG6.out))))
  have HNG : Aside0 (¬ S1 g6) := ⟨fun h => by
    have := blk_lt X6.out
    rcases ((hS1 _).1 h).1 with h | h
    · have := hS6.out _ h; have := HG6.out; omega
    · omega⟩
  have hlt2 : Aside0 (∀ k, (S1 k ∨ k = g6) → k < w2.heap.size) := ⟨fun k hk => hk.elim (fun h => ((hS1 k).1 h).2) (fun e => e ▸ blk_lt y6)⟩
  have hc4 := blk_cell y4 0
  have hc50 := blk_cell y5 0
  have hc51 := blk_cell y5 1
  have hc52 := blk_cell y5 2
  have hc53 := blk_cell y5 3
  have hc54 := blk_cell y5 4
  have Y6 := Aside0.mk y6
  clear y4 y5 y6 nx hp2 hS1
  go_wp2_with fail
  obtain ⟨A', c', e', hcl, hcr, hout⟩ := HSV.out
  cases e'
  refine (remove_ref T A c x.f1 w2 (fun k => S1 k ∨ k = g6) hcr hcl hout hlt2.out HT.out.len).mono ?_
  rintro e w3 ⟨v, rfl, hsv, hb3⟩
  have hsv2 := hsv
  obtain ⟨A5, c5, e5, _⟩ := hsv2
  have HV3 : Aside0 (SV w3 (fun k => S1 k ∨ k = g6) (.slice A5 (refRemove T x.f1).1.length c5) (refRemove T x.f1).1) := ⟨e5 ▸ hsv⟩
  rw [e5]
  have z6 := (hb3.block g6 (blk_lt Y6.out)).trans Y6.out
  have hf6 : ∀ o, (w3.alloc o).frozen? ⟨g6, 0, none⟩ = false := fun o => blk_frozen ((Below.heap_alloc w3 o g6 (blk_lt z6)).trans z6) 0
  have hc6 : ∀ o, (w3.alloc o).cell? ⟨g6, 0, none⟩ = some (.slice none 0 0) := fun o => blk_cell ((Below.heap_alloc w3 o g6 (blk_lt z6)).trans z6) 0
  have hg6w : g6 ≠ w3.heap.size := fun e => by have := blk_lt z6; omega
  have Z6 := Aside0.mk z6
  have HB3 := Aside0.mk hb3
  clear hsv hb3 z6 e5 hcl hcr hout
  have hfin : Aside0 (∀ o, Post w0 w ((w3.alloc o).setCell ⟨g6, 0, none⟩ (.slice A5 (refRemove T x.f1).1.length c5)) S S1 d (dStep F x) (refStep T x) (.slice A5 (refRemove T x.f1).1.length c5)) := ⟨fun o => by
    rw [dstep_K5 HKD.out, rstep_K5 HKD.out]
    exact do_end2 (HP2.out.then_ HB3.out) HV3.out (HK2.out.below HB3.out) HG2.out HNG.out HG6.out (Nat.le_trans HP.out.below.size HG6.out) o⟩
  have heq : Aside0 (F = T → Sorted F → (dRemove F x.f1).2 = (refRemove T x.f1).2) := ⟨fun e hs => by subst e; rw [remove_eq]⟩
  generalize (dRemove F x.f1).2 = e1 at *
  generalize hR : (refRemove T x.f1) = R at *
  have hRR := Aside0.mk hR
  clear hR
  go_wp2
  refine bodyPost_ret (results_ct rfl _ _ g6 39 #[.slice A5 R.1.length c5] (0, 0) _ rfl (by refine blk_put (cs := #[.slice none 0 0]) ?_ 0 _ rfl; exact (Below.heap_alloc w3 _ g6 (blk_lt Z6.out)).trans Z6.out) Try.underlying39 rfl (by kernel_rfl)) rfl ?_
  refine ⟨_, _, S1, rfl, hfin.out _, fun e hs => ?_⟩
  have := heq.out e hs
  simpa using this

set_option maxRecDepth 100000 in
set_option maxHeartbeats 400000 in
theorem do_crash {w0 w : World} {S : Nat → Prop} {d : Nat} {F T : List S61} (x : S45) (A : Option Addr) (c : Nat) (A3 : Option Addr) (c3 : Nat) (A4 : Option Addr) (c4 : Nat) (hp : Pre w0 w S d F) (hv : SV w S (.slice A T.length c) T) (hF : F.length < 1073741824) (hT : Fit T) (hx : ActOk w0 x A3 c3 A4 c4) (hk : actN x = 7) :
    Calls Try.prog 17 #[ptr d, .agg #[.slice A T.length c], .agg #[.int .u8 x.f0, .string x.f1, .string x.f2, .slice A3 x.f3.length c3, .slice A4 x.f4.length c4]] w (DoPost w0 w S d F T x) := by
  have _ := hF
  have hu39 := Try.underlying39
  have hu45 := Try.underlying45
  obtain ⟨hl3, hl1, hl2, hl4⟩ := light_of hx.light
  obtain ⟨n, hn⟩ := Int.eq_ofNat_of_zero_le hx.b0.1
  have hn2 : n < 256 := by have := hx.b0.2; omega
  have hmod : (n : Int) % 8 = 7 := by
    unfold actN at hk
    rw [hn, Int.toNat_natCast] at hk
    omega
  have HP := Aside0.mk hp
  have HV := Aside0.mk hv
  have HX := Aside0.mk hx
  have HT := Aside0.mk hT
  have hS6 : Aside0 (∀ k, S k → k < w.heap.size) := ⟨hp.lt⟩
  have HKD := Aside0.mk hk
  clear hp hv hx hT hk
  unfold ptr
  rw [hn]
  go_enter Try.func17, Try.ntmps17
  go_wp2_with fail
  obtain ⟨x4, x5, x6, hb1⟩ := boxes3 w (.cells #[.slice A T.length c] 39) (.cells #[.int .u8 n, .string x.f1, .string x.f2, .slice A3 x.f3.length c3, .slice A4 x.f4.length c4] 45) (.cells #[.slice none 0 0] 39)
  have hg5 : w.heap.size ≤ w.heap.size + 1 := by omega
  have hg6 : w.heap.size ≤ w.heap.size + 1 + 1 := by omega
  have hd46 : w.heap.size ≠ w.heap.size + 1 + 1 := by omega
  have hd56 : w.heap.size + 1 ≠ w.heap.size + 1 + 1 := by omega
  generalize w.heap.size + 1 + 1 = g6 at *
  generalize w.heap.size + 1 = g5 at *
  generalize ((w.alloc (.cells #[.slice A T.length c] 39)).alloc (.cells #[.int .u8 n, .string x.f1, .string x.f2, .slice A3 x.f3.length c3, .slice A4 x.f4.length c4] 45)).alloc (.cells #[.slice none 0 0] 39) = w1 at *
  have HP1 := Aside0.mk (HP.out.then_ hb1)
  have HK1 := Aside0.mk (Kept.of_below hb1 S)
  have X4 := Aside0.mk x4
  have X5 := Aside0.mk x5
  have X6 := Aside0.mk x6
  have HG5 := Aside0.mk hg5
  have HG6 := Aside0.mk hg6
  have HB1 := Aside0.mk hb1
  clear x4 x5 x6 hb1 hg5 hg6
  refine (crash_calls A4 c4 x.f4 HP1.out.below HP1.out.disk hF (C_kept_int HX.out.r4 HP1.out.below HP1.out.ge) (by omega) HX.out.b4).mono ?_
  rintro e w2 ⟨rfl, nx⟩
  have y4 := (nx.kept.2 w.heap.size (blk_lt X4.out) (fun h => by have := hS6.out _ h; omega)).trans X4.out
  have y5 := (nx.kept.2 g5 (blk_lt X5.out) (fun h => by have := hS6.out _ h; have := HG5.out; omega)).trans X5.out
  have y6 := (nx.kept.2 g6 (blk_lt X6.out) (fun h => by have := hS6.out _ h; have := HG6.out; omega)).trans X6.out
  obtain ⟨S1, hp2, hS1⟩ : ∃ S1 : Nat → Prop, Pre w0 w2 S1 d _ ∧ ∀ k, S1 k ↔ ((S k ∨ w1.heap.size ≤ k) ∧ k < w2.heap.size) := ⟨_, HP1.out.next nx, fun _ => Iff.rfl⟩
  have HP2 := Aside0.mk hp2
  have HK2 : Aside0 (Kept w w2 S) := ⟨HK1.out.then_ nx.kept (fun k hk => .inl hk)⟩
  have HG2 : Aside0 (∀ k, S1 k → S k ∨ w.heap.size ≤ k) := ⟨fun k hk => ((hS1 k).1 hk).1.imp id (fun h => Nat.le_trans HB1.out.size h)⟩
  have HSV := Aside0.mk (HV.out.kept (S' := fun k => S1 k ∨ k = g6) HK2.out (fun k hk => hk.elim (HG2.out k) (fun e => .inr (e ▸ HG6.out))))
  have HNG : Aside0 (¬ S1 g6) := ⟨fun h => by
    have := blk_lt X6.out
    rcases ((hS1 _).1 h).1 with h | h
    · have := hS6.out _ h; have := HG6.out; omega
    · omega⟩
  have hlt2 : Aside0 (∀ k, (S1 k ∨ k = g6) → k < w2.heap.size) := ⟨fun k hk => hk.elim (fun h => ((hS1 k).1 h).2) (fun e => e ▸ blk_lt y6)⟩
  have hc4 := blk_cell y4 0
  have hc50 := blk_cell y5 0
  have hc51 := blk_cell y5 1
  have hc52 := blk_cell y5 2
  have hc53 := blk_cell y5 3
  have hc54 := blk_cell y5 4
  have Y6 := Aside0.mk y6
  clear y4 y5 y6 nx hp2 hS1
  go_wp2_with fail
  obtain ⟨A', c', e', hcl, hcr, hout⟩ := HSV.out
  cases e'
  refine (crash_ref T A c A4 c4 x.f4 w2 (fun k => S1 k ∨ k = g6) hcr hlt2.out HT.out (Kd.C_below HX.out.r4 HP2.out.below)).mono ?_
  rintro e w3 ⟨v, rfl, hsv, hb3⟩
  have hsv2 := hsv
  obtain ⟨A5, c5, e5, _⟩ := hsv2
  have HV3 : Aside0 (SV w3 (fun k => S1 k ∨ k = g6) (.slice A5 (refCrash T x.f4).length c5) (refCrash T x.f4)) := ⟨e5 ▸ hsv⟩
  rw [e5]
  have z6 := (hb3.block g6 (blk_lt Y6.out)).trans Y6.out
  have hf6 := blk_frozen z6 0
  have hc6 := blk_cell z6 0
  have Z6 := Aside0.mk z6
  have HB3 := Aside0.mk hb3
  clear hsv hb3 z6 e5 hcl hcr hout
  have hfin : Aside0 (Post w0 w (w3.setCell ⟨g6, 0, none⟩ (.slice A5 (refCrash T x.f4).length c5)) S S1 d (dStep F x) (refStep T x) (.slice A5 (refCrash T x.f4).length c5)) := ⟨by
    rw [dstep_K7 HKD.out, rstep_K7 HKD.out]
    exact do_end (HP2.out.then_ HB3.out) HV3.out (HK2.out.below HB3.out) HG2.out HNG.out HG6.out (Nat.le_trans HP.out.below.size HG6.out)⟩
  generalize hR : (refCrash T x.f4).length = R at *
  clear hR
  go_wp2
  refine bodyPost_ret (results_ct rfl _ _ g6 39 #[.slice A5 R c5] (0, 0) _ rfl (by refine blk_put (cs := #[.slice none 0 0]) ?_ 0 _ rfl; exact Z6.out) Try.underlying39 rfl (by kernel_rfl)) rfl ?_
  exact ⟨_, _, S1, rfl, hfin.out, fun _ _ => rfl⟩

set_option maxRecDepth 100000 in
set_option maxHeartbeats 400000 in
theorem do_read {w0 w : World} {S : Nat → Prop} {d : Nat} {F T : List S61} (x : S45) (A : Option Addr) (c : Nat) (A3 : Option Addr) (c3 : Nat) (A4 : Option Addr) (c4 : Nat) (hp : Pre w0 w S d F) (hv : SV w S (.slice A T.length c) T) (hF : F.length < 1073741824) (hT : Fit T) (hx : ActOk w0 x A3 c3 A4 c4) (hk : actN x = 6) :
    Calls Try.prog 17 #[ptr d, .agg #[.slice A T.length c], .agg #[.int .u8 x.f0, .string x.f1, .string x.f2, .slice A3 x.f3.length c3, .slice A4 x.f4.length c4]] w (DoPost w0 w S d F T x) := by
  have _ := hF
  have hu39 := Try.underlying39
  have hu45 := Try.underlying45
  obtain ⟨hl3, hl1, hl2, hl4⟩ := light_of hx.light
  obtain ⟨n, hn⟩ := Int.eq_ofNat_of_zero_le hx.b0.1
  have hn2 : n < 256 := by have := hx.b0.2; omega
  have hmod : (n : Int) % 8 = 6 := by
    unfold actN at hk
    rw [hn, Int.toNat_natCast] at hk
    omega
  have HP := Aside0.mk hp
  have HV := Aside0.mk hv
  have HX := Aside0.mk hx
  have HT := Aside0.mk hT
  have hS6 : Aside0 (∀ k, S k → k < w.heap.size) := ⟨hp.lt⟩
  have HKD := Aside0.mk hk
  clear hp hv hx hT hk
  unfold ptr
  rw [hn]
  go_enter Try.func17, Try.ntmps17
  go_wp2_with fail
  obtain ⟨x4, x5, x6, hb1⟩ := boxes3 w (.cells #[.slice A T.length c] 39) (.cells #[.int .u8 n, .string x.f1, .string x.f2, .slice A3 x.f3.length c3, .slice A4 x.f4.length c4] 45) (.cells #[.slice none 0 0] 39)
  have hg5 : w.heap.size ≤ w.heap.size + 1 := by omega
  have hg6 : w.heap.size ≤ w.heap.size + 1 + 1 := by omega
  have hd46 : w.heap.size ≠ w.heap.size + 1 + 1 := by omega
  have hd56 : w.heap.size + 1 ≠ w.heap.size + 1 + 1 := by omega
  generalize w.heap.size + 1 + 1 = g6 at *
  generalize w.heap.size + 1 = g5 at *
  generalize ((w.alloc (.cells #[.slice A T.length c] 39)).alloc (.cells #[.int .u8 n, .string x.f1, .string x.f2, .slice A3 x.f3.length c3, .slice A4 x.f4.length c4] 45)).alloc (.cells #[.slice none 0 0] 39) = w1 at *
  have HP1 := Aside0.mk (HP.out.then_ hb1)
  have HK1 := Aside0.mk (Kept.of_below hb1 S)
  have X4 := Aside0.mk x4
  have X5 := Aside0.mk x5
  have X6 := Aside0.mk x6
  have HG5 := Aside0.mk hg5
  have HG6 := Aside0.mk hg6
  have HB1 := Aside0.mk hb1
  clear x4 x5 x6 hb1 hg5 hg6
  refine (read_calls x.f1 HP1.out.disk (by unfold maxLen; omega)).mono ?_
  intro e w2 hrd
  obtain ⟨b1, A7, c7, n7, rfl, hb7, hcv7, hbb7⟩ := read_told hrd
  have HB7 := Aside0.mk hb7
  have y4 := (hb7.block w.heap.size (blk_lt X4.out)).trans X4.out
  have y5 := (hb7.block g5 (blk_lt X5.out)).trans X5.out
  have y6 := (hb7.block g6 (blk_lt X6.out)).trans X6.out
  have hc4 := blk_cell y4 0
  have hc50 := blk_cell y5 0
  have hc51 := blk_cell y5 1
  have hc52 := blk_cell y5 2
  have hc53 := blk_cell y5 3
  have hc54 := blk_cell y5 4
  have Y4 := Aside0.mk y4
  have Y6 := Aside0.mk y6
  have HCV7 := Aside0.mk hcv7
  have HR7 := Aside0.mk hbb7
  have hSV := (HV.out.below (HB1.out)).below hb7
  clear y4 y5 y6 hb7 hcv7 hrd hbb7
  obtain ⟨A', c', e', hcl, hcr, hout⟩ := hSV
  cases e'
  go_wp2_with fail
  refine (read_ref T A c x.f1 w2 hcr hcl HT.out).mono ?_
  rintro e w3 ⟨A8, c8, rfl, hr8, hb8⟩
  have hb78 := below_step HB7.out hb8
  have hcv7 := HCV7.out w3 hb8
  have hcv8 := Kd.C_string (P := Try.prog) (c := c8) Try.underlying22 Try.underlying5 Try.underlying9 hr8
  rw [bytesOf_length, strOfNums_bytesOf] at hcv8
  have z4 := (hb8.block w.heap.size (blk_lt Y4.out)).trans Y4.out
  have z6 := (hb8.block g6 (blk_lt Y6.out)).trans Y6.out
  have hc4' := blk_cell z4 0
  have hf6 := blk_frozen z6 0
  have hc6 := blk_cell z6 0
  have Z6 := Aside0.mk z6
  have HB3 := Aside0.mk hb78
  clear hr8 hb8 z4 z6 hb78 hc4
  have hfin : Aside0 (Post w0 w (w3.setCell ⟨g6, 0, none⟩ (.slice A T.length c)) S S d (dStep F x) (refStep T x) (.slice A T.length c)) := ⟨by
    rw [dstep_K6 HKD.out, rstep_K6 HKD.out]
    have hbw : Below w.heap.size w w3 := below_step HB1.out HB3.out
    refine do_end (HP1.out.then_ HB3.out) ?_ (Kept.of_below hbw S) (fun k hk => .inl hk) (fun h => by have := hS6.out _ h; have := HG6.out; omega) HG6.out (Nat.le_trans HP.out.below.size HG6.out)
    exact HV.out.kept (Kept.of_below hbw S) (fun k hk => hk.imp id (fun e => by subst e; exact HG6.out))⟩
  have heq : Aside0 (F = T → b1 = (refRead T x.f1).1 ∧ n7 = (refRead T x.f1).2) := ⟨fun e => by
    subst e
    have := HR7.out
    rw [← this]
    exact ⟨rfl, rfl⟩⟩
  generalize hm : (refRead T x.f1).1.size = m8 at *
  generalize (refRead T x.f1).1 = b2 at *
  generalize (refRead T x.f1).2 = n8 at *
  generalize hm7 : b1.size = m7 at *
  go_wp2
  all_goals
    refine bodyPost_ret (results_ct rfl _ _ g6 39 #[.slice A T.length c] (0, 0) _ rfl (by refine blk_put (cs := #[.slice none 0 0]) ?_ 0 _ rfl; exact Z6.out) Try.underlying39 rfl (by kernel_rfl)) rfl ?_
    refine ⟨_, _, S, rfl, hfin.out, fun e hs => ?_⟩
    obtain ⟨h1, h2⟩ := heq.out e
    simp_all
end Go.Proofs.Ytahifafnfjcfpaa.D
