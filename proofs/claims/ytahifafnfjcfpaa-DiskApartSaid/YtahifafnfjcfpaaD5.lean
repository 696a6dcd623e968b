/- The disk's method Names. Conditions: as the theorem says. -/
import Derived.Test.YtahifafnfjcfpaaD4
import Derived.Test.YtahifafnfjcfpaaS
import Derived.Sort.KeysCollected
import Derived.Sort.OwnSorted
namespace Go.Proofs.Ytahifafnfjcfpaa.D
open Go.RowKit Go.Maps Go.Sort Go.Proofs.YtahifafnfjcfpaaW.PrintWords Go.Proofs.YtahifafnfjcfpaaW.PrintLast Go.Proofs.YtahifafnfjcfpaaW.PrintMore
open Go.Proofs.Ytahifafnfjcfpaa.R (S61 k61)

def strB (l : List UInt8) : ByteArray := ⟨l.toArray⟩
/-- All names, in ascending order. -/
def namesOf (F : List S61) : List ByteArray := ((F.map fun f => key f.f0).mergeSort leB).map strB
theorem strKeys_Dm (L : List E) : strKeys (Dm L) = (L.map E.f).map fun f => key f.f0 := by
  unfold Dm strKeys
  simp only [List.map_map]
  rfl
theorem info9 : (Try.prog.info? 9).map (fun i => (i.zero, i.size, i.bytes)) = some (some (.string ⟨#[]⟩), 1, 16) := by kernel_rfl
theorem R_names {w : World} {base : Nat} {v : Value} {ss : List (List UInt8)} (h : w.ownsRow base 9 1 v ss.length (ss.map encStr)) : Kd.R Kd.string 9 w base (fun _ => True) v (ss.map strB) := by
  refine Kd.R_of_own (h1 := fun _ => rfl) ?_ (fun _ _ => trivial)
  rw [List.length_map]
  have : encs Value.string (ss.map strB) = ss.map encStr := by
    unfold encs
    rw [List.map_map]
    rfl
  rw [this]
  exact h

def NamesPost (w : World) (F : List S61) (e : Ending) (w' : World) : Prop := ∃ v, e = .returned v ∧ Kd.R Kd.string 9 w' w.heap.size (fun _ => True) v (namesOf F) ∧ Below w.heap.size w w'

set_option maxRecDepth 100000 in
set_option maxHeartbeats 1000000 in
theorem names_calls {base : Nat} {w : World} {ok : Nat → Prop} {d : Nat} {F : List S61} (hD : DAt w base ok d F) (hF : F.length < 1073741824) :
    Calls Try.prog 19 #[ptr d] w (NamesPost w F) := by
  obtain ⟨m, n, L, h, hLF⟩ := hD
  obtain ⟨i0, hi, hz0, hz1, hz2⟩ := info_parts info9
  have hc : w.cell? ⟨d, 0, none⟩ = some (.map (some m)) := blk_cell h.hd 0
  have hown := map_tight h.map
  have hbl := hown.lt
  have hlen : Aside0 (L.length < 1073741824) := ⟨by rw [← hLF, List.length_map] at hF; exact hF⟩
  have HLF := Aside0.mk hLF
  clear h hF hLF
  unfold ptr
  go_enter Try.func19, Try.ntmps19
  go_wp2_with (first | (at_range; refine wpList_range_own _ rfl _ 51 rfl 9 55 strKeyed Try.underlying51 _ m L.length _ rfl hown ?_; intro w0 hrg0 hg0 hs0))
  go_frame
  go_loopw [3] (fun v wr => ∃ (left : Lit → Bool) (cnt : Nat) (ss : List (List UInt8)), wr.ranges Try.prog 9 rawR m w.heap.size L.length (Dm L) left cnt ∧ ss.length + cnt ≤ L.length ∧
      wr.ownsRow w.heap.size 9 1 v ss.length (ss.map encStr) ∧ Collected (Dm L) left ss ∧ Below w.heap.size w wr)
    (fun _ wr => wr.rangeLeft m w.heap.size)
  case atStart =>
    exact ⟨_, _, [], hrg0, by rw [Dm_size]; simp, World.ownsRow_nil _ _ _ _, Collected.start _, (Below.refl _ _).grown hg0 (Nat.le_refl _) (fun j hj => by cases hj)⟩
  case round =>
    obtain ⟨left, cnt, ss, hrg, hcs, hrow, hC, hnx⟩ := hrel
    go_wp2_with (first
      | (at_next; refine wpList_next_ranges _ rfl _ rfl 9 strKeyed rawR encStr id (fun key kl hk => by obtain ⟨x, hx, _⟩ := Maps.keyOf_str Try.underlying9 hk; exact ⟨x, hx⟩) (fun v y hv => ⟨v, rfl⟩) m w.heap.size L.length _ _ _ rfl hrg ?_ ?_))
    · intro hc0 hl0
      have hperm : Aside0 (ss.Perm (strKeys (Dm L))) := ⟨hC.perm hown strKeyed Try.underlying9 hl0⟩
      have hfin : Aside0 (namesOf F = (ss.mergeSort leB).map strB) := ⟨by
        unfold namesOf
        rw [← HLF.out, ← strKeys_Dm, mergeSort_of_perm hperm.out]⟩
      rcases hrow.2 with ⟨hnil, h0⟩ | ⟨g, cap, cur, hv, hbase, hb, h1, h2, h3, h4⟩
      · rw [hnil]
        have hss : ss = [] := List.eq_nil_of_length_eq_zero h0
        clear hC hrow hc0 hl0 hrg hcs hnil h0
        have HNX := Aside0.mk hnx
        have HSS := Aside0.mk hss
        clear hnx hss
        go_wp2_with (go_at_call 30; go_must (refine (Try.slices_Sort_string_none none 0 _).mono ?_); rintro e w' ⟨rfl, rfl⟩)
        go_ret
        refine ⟨_, rfl, ?_, HNX.out⟩
        rw [hfin.out, HSS.out, List.mergeSort_nil]
        exact Kd.R_nil _ _ _ _ _
      · have hH : Holds encStr wr g 0 ss.toArray := holds_of_block hb (by simpa using h4)
        have hgl : g < wr.heap.size := (Array.getElem?_eq_some_iff.1 hb).1
        have hc1 := Aside0.mk (Try.slices_Sort_string g 0 cap ss wr hH hgl (by have := hlen.out; omega))
        have hend : Aside0 (∀ n os, Kd.R Kd.string 9 (grow (putRow encStr (Sort.ahead wr n) g 0 (ss.mergeSort leB).toArray) os) w.heap.size (fun _ => True) (.slice (some ⟨g, 0, none⟩) ss.length cap) (namesOf F) ∧ Below w.heap.size w (grow (putRow encStr (Sort.ahead wr n) g 0 (ss.mergeSort leB).toArray) os)) := ⟨fun n os => by
          refine ⟨?_, hnx.grown (grownBy_sorted _) hnx.size (fun j hj => by cases hj; exact hbase)⟩
          rw [hfin.out]
          refine R_names (ss := ss.mergeSort leB) ?_
          have := ownsRow_sorted (os := os) (n := n) (ts := ss.mergeSort leB) (by simp) hbase hb h1 h2 h3
          simpa using this⟩
        rw [hv]
        clear hC hrow hc0 hl0 hrg hcs hv hb h1 h2 h3 h4 hH hgl hnx
        go_wp2_with (go_at_call 30; go_must (refine hc1.out.mono ?_); rintro e w' ⟨rfl, nn, os, rfl⟩)
        go_ret
        exact ⟨_, rfl, hend.out _ _⟩
    · intro x c kl yd yp w2 cnt2 hkey hlk hv hat hrg2 hlt hg2 hs2 hen
      obtain ⟨x', ex, rfl, _⟩ := Maps.keyOf_str Try.underlying9 hkey
      obtain rfl : x = x' := encStr_inj ex
      have hrow2 := hrow.kept hg2 (Or.inr (row_ne_iter hrow hrg).symm)
      clear hs2
      have hll := hlen.out
      go_wp2_with (first
        | (at_builtin; refine wpList_append_own _ rfl _ _ 49 rfl w.heap.size 9 i0 (.string ⟨#[]⟩) 1 16 Try.underlying49 hi hz0 hz1 hz2 rfl (by decide) _ _ _ rfl (hrow2.alloc _) ⟨w2.heap.size, 0, none⟩ 1 1 [encStr x] rfl rfl (cell_one_new _ _ _) (by simp [Value.oneCell', encStr]) (by unfold maxLen at *; omega) (by omega) (by have := hnx.size; have := hg2.size; simp; omega) ?_; intro v' w3 hown' hg3 hnil3; go_frame))
      have hrg3 := (hrg2.alloc _).kept hg3 (row_ne_low hrow2 hbl) (row_ne_iter hrow2 hrg2)
      go_roundw
      case rel =>
        refine ⟨_, cnt2, ss ++ [x], hrg3, by simp; omega, by simpa using hown', hC.step hlk hat, ?_⟩
        exact ((hnx.grown hg2 hnx.size (fun j hj => by cases hj; exact Nat.le_refl _)).alloc (by have := hnx.size; have := hg2.size; omega) _).grown hg3 (by have := hnx.size; have := hg2.size; simp; omega) (fun j hj => (hrow2.lt j hj).1)
      case measure => rw [hrg3.left_eq, hrg.left_eq]; exact hlt
end Go.Proofs.Ytahifafnfjcfpaa.D
