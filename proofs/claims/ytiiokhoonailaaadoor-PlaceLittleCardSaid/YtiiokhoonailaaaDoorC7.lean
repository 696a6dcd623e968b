/- Insert of one number into a list of the call's own. Conditions: as the theorem says. -/
import Derived.Test.YtiiokhoonailaaaDoorC4
import Derived.Test.YtiiokhoonailaaaDoorS2
import Derived.Shelf.Spec.SlicesInsert
import Derived.Shelf.Spec.SlicesInsertGrow
namespace Go.Proofs.YtiiokhoonailaaaDoor.D
open Go.RowKit Go.Sort Go.Proofs.YtiiokhoonailaaaDoorW.PrintWords Go.Proofs.YtiiokhoonailaaaDoorW.PrintLast Go.Proofs.YtiiokhoonailaaaDoorW.PrintMore
open Go.Proofs.YtiiokhoonailaaaDoor.R

/-- What a row of stores leaves in its block. -/
theorem setCells_list (g : Nat) : ∀ (vs : List Value) (o : Nat) (w : World) (cur : Array Value) (t : TypeId), w.heap[g]? = some (.cells cur t (0, 0)) → o + vs.length ≤ cur.size →
    ∃ cur', (w.setCells g o vs).heap[g]? = some (.cells cur' t (0, 0)) ∧ cur'.toList = cur.toList.take o ++ vs ++ cur.toList.drop (o + vs.length)
  | [], o, w, cur, t, h, _ => ⟨cur, h, by simp⟩
  | v :: vs, o, w, cur, t, h, hl => by
    simp only [List.length_cons] at hl
    obtain ⟨cur', h1, h2⟩ := setCells_list g vs (o + 1) (w.setCell ⟨g, o, none⟩ v) (cur.setIfInBounds o v) t (blk_set h o v) (by simp; omega)
    refine ⟨cur', h1, ?_⟩
    rw [h2, Array.toList_setIfInBounds]
    have hlt : o < cur.toList.length := by simp; omega
    have e1 : (cur.toList.set o v).take (o + 1) = cur.toList.take o ++ [v] := by
      rw [List.take_succ_eq_append_getElem (by simpa using hlt), List.take_set_of_le (Nat.le_refl _)]
      simp
    have e2 : (cur.toList.set o v).drop (o + 1 + vs.length) = cur.toList.drop (o + 1 + vs.length) := by
      rw [List.drop_set_of_lt (by omega)]
    rw [e1, e2, List.length_cons, show o + (vs.length + 1) = o + 1 + vs.length by omega]
    simp
theorem setCells_grown (b : Nat) : ∀ (vs : List Value) (o : Nat) (w : World), w.grownBy (w.setCells b o vs) (some b)
  | [], _, w => ⟨rfl, rfl, rfl, Nat.le_refl _, fun _ _ _ => rfl⟩
  | v :: vs, o, w => by
    refine World.grownBy.trans (b := w.setCell ⟨b, o, none⟩ v) ?_ (setCells_grown b vs (o + 1) _)
    exact ⟨rfl, rfl, rfl, by simp [World.setCell], fun k _ hk => Below.heap_setCell _ _ _ _ (fun e => hk (by rw [e]))⟩
theorem grown_drew (w : World) (row : Option Nat) : w.grownBy w.drew row := ⟨rfl, rfl, rfl, Nat.le_refl _, fun _ _ _ => rfl⟩
theorem grown_alloc (w : World) (o : Obj) (row : Option Nat) : w.grownBy (w.alloc o) row := grown_of_below (below_alloc (Below.refl _ _) o) row

def insAt (xs : List Int) (i : Nat) (x : Int) : List Int := xs.take i ++ x :: xs.drop i
theorem insAt_length {xs : List Int} {i : Nat} (h : i ≤ xs.length) (x : Int) : (insAt xs i x).length = xs.length + 1 := by unfold insAt; simp; omega
theorem encs_insAt (xs : List Int) (i : Nat) (x : Int) : encs (Value.int .i64) (insAt xs i x) = (encs (Value.int .i64) xs).take i ++ Value.int .i64 x :: (encs (Value.int .i64) xs).drop i := by
  unfold encs insAt
  rw [List.map_append, List.map_cons, List.map_take, List.map_drop]
theorem encs_one (xs : List Int) : ∀ v ∈ encs (Value.int .i64) xs, v.oneCell' = true := by
  intro v hv
  unfold encs at hv
  obtain ⟨x, _, rfl⟩ := List.mem_map.1 hv
  rfl

/-- What Insert leaves. -/
structure Ins (w0 w w' : World) (base : Nat) (v : Value) (xs : List Int) : Prop where
  row : Kd.R KI 3 w' base (fun _ => True) v xs
  below : Below base w0 w'
def InsPost (w0 w : World) (base : Nat) (xs : List Int) (e : Ending) (w' : World) : Prop := ∃ v, e = .returned v ∧ Ins w0 w w' base v xs

theorem row_mk {w : World} {base g cap n : Nat} {cur : Array Value} {ys : List Int} (hb : w.heap[g]? = some (.cells cur 3 (0, 0))) (hbase : base ≤ g) (hn : ys.length = n) (hc : n ≤ cap) (hm : cap ≤ maxLen) (hs : cur.size = cap) (ht : cur.toList.take n = encs (Value.int .i64) ys) : Kd.R KI 3 w base (fun _ => True) (.slice (some ⟨g, 0, none⟩) n cap) ys := by
  subst hn
  exact Kd.R_of_own (h1 := fun _ => rfl) ⟨by rw [encs_length, Nat.mul_one], .inr ⟨g, cap, cur, rfl, hbase, hb, hc, hm, by rw [hs, Nat.mul_one], by rw [Nat.mul_one]; exact ht⟩⟩ (fun _ _ => trivial)
/-- A new row at the end: the elements, then the new one. -/
theorem fresh_row {w0 w1 : World} {base : Nat} (hB : Below base w0 w1) (hbase : base ≤ w1.heap.size) (cs : List Value) (ys : List Int) (n cap : Nat) (he : cs = encs (Value.int .i64) ys) (hn : ys.length = n) (hc : n ≤ cap) (hm : cap ≤ maxLen) :
    Ins w0 w1 (w1.drew.alloc (.cells (cs.toArray ++ Builtin.zeroCells (Value.int .i64 0).cells (cap - n)) 3)) base (.slice (some ⟨w1.heap.size, 0, none⟩) n cap) ys := by
  have hcl : cs.length = n := by rw [he, encs_length, hn]
  refine ⟨row_mk (heap_alloc_new w1.drew _) hbase hn hc hm ?_ ?_, (hB.drew).alloc hbase _⟩
  · simp only [Array.size_append, List.size_toArray, size_zeroCells, Value.cells]
    simp
    omega
  · rw [Array.toList_append, List.take_append_of_le_length (by simp; omega), ← he]
    simp [← hcl]
theorem insert_calls {w0 w : World} {base : Nat} {A : Option Addr} {cap : Nat} {xs : List Int} (hR : Kd.R KI 3 w base (fun _ => True) (.slice A xs.length cap) xs) (hB : Below base w0 w) (hbase : base ≤ w.heap.size) (i : Nat) (hi : i ≤ xs.length) (hl : xs.length < 1073741824) (x : Int) :
    Calls Tryd.prog 32 #[.slice A xs.length cap, .int .i64 (i : Int), .slice (some ⟨w.heap.size, 0, none⟩) 1 1] (w.alloc (.cells #[.int .i64 x] 3)) (InsPost w0 (w.alloc (.cells #[.int .i64 x] 3)) base (insAt xs i x)) := by
  have hown := Kd.own_of_R hR
  have hnew := heap_alloc_new w (.cells #[.int .i64 x] 3)
  have hbn := below_alloc (Below.refl _ w) (.cells #[.int .i64 x] 3)
  have hBn : Below base w0 (w.alloc (.cells #[.int .i64 x] 3)) := hB.alloc hbase _
  have hsz := World.size_alloc w (.cells #[.int .i64 x] 3)
  have hvs : ∀ j v, [Value.int .i64 x][j]? = some v → (w.alloc (.cells #[.int .i64 x] 3)).cell? ⟨w.heap.size, 0 + j, none⟩ = some v := by
    intro j v hj
    cases j with
    | zero => simp at hj; subst hj; exact blk_cell hnew 0
    | succ j => simp at hj
  have h1v : ∀ v ∈ [Value.int .i64 x], v.oneCell' = true := by
    intro v hv
    have : v = .int .i64 x := by simpa using hv
    subst this; rfl
  have hel := encs_length (enc := Value.int .i64) xs
  generalize hw1 : w.alloc (.cells #[.int .i64 x] 3) = w1 at *
  have hlen : xs.length + 1 ≤ maxLen := by unfold maxLen; omega
  rcases hown.2 with ⟨hv, h0⟩ | ⟨g, cap', cur, hv, hbg, hb, h1, h2, h3, h4⟩
  · have hx0 : xs = [] := List.eq_nil_of_length_eq_zero h0
    subst hx0
    cases hv
    obtain rfl : i = 0 := by simpa using hi
    refine (Any2.slices_Insert_int_end_grow Tryd.laysInsert none 0 0 w.heap.size 0 1 1 [] [.int .i64 x] w1 (by omega) (Nat.le_refl _) (by omega) (by omega) rfl rfl (fun _ => rfl) (fun a h => by cases h) hvs h1v).mono ?_
    rintro e w' ⟨rfl, rfl⟩
    exact ⟨_, rfl, fresh_row hBn (by rw [hsz]; omega) _ [x] 1 _ rfl rfl (grownCap_ge _ _ _ _) (grownCap_le_maxLen _ _ _ _ (by unfold maxLen; omega))⟩
  · cases hv
    rw [Nat.mul_one] at h3 h4
    have hgl := blk_lt hb
    have hb1 : w1.heap[g]? = some (.cells cur 3 (0, 0)) := (hbn.block g hgl).trans hb
    have hne : w.heap.size ≠ g := by omega
    have hcs : ∀ j v, (encs (Value.int .i64) xs)[j]? = some v → w1.cell? ⟨g, 0 + j, none⟩ = some v := by
      intro j v hj
      rw [← h4] at hj
      rw [blk_cell hb1, Nat.zero_add, ← Array.getElem?_toList]
      rw [List.getElem?_take] at hj
      split at hj
      · exact hj
      · cases hj
    have hsp : ∀ j, j < cap → (w1.cell? ⟨g, 0 + j, none⟩).isSome = true := by
      intro j hj
      rw [blk_cell hb1, Nat.zero_add, Array.getElem?_eq_getElem (by omega)]
      rfl
    have hfz : ∀ j, w1.frozen? ⟨g, 0 + j, none⟩ = false := fun j => blk_frozen hb1 _
    by_cases hend : i = xs.length
    · subst hend
      have hxe : insAt xs xs.length x = xs ++ [x] := by unfold insAt; simp
      rw [hxe]
      have hee : encs (Value.int .i64) xs ++ [Value.int .i64 x] = encs (Value.int .i64) (xs ++ [x]) := by simp [encs]
      by_cases hroom : xs.length + 1 ≤ cap
      · refine (Any2.slices_Insert_int_end_room Tryd.laysInsert g 0 xs.length cap w.heap.size 0 1 1 [.int .i64 x] w1 (by omega) hroom (by unfold maxLen at h2; omega) rfl (fun j hj => ?_) (fun j _ => ?_) hvs h1v).mono ?_
        · rw [show 0 + xs.length + j = 0 + (xs.length + j) by omega]
          exact hsp _ (by omega)
        · rw [show 0 + xs.length + j = 0 + (xs.length + j) by omega]
          exact hfz _
        rintro e w' ⟨rfl, rfl⟩
        obtain ⟨cur', k1, k2⟩ := setCells_list g [Value.int .i64 x] (0 + xs.length) w1 cur 3 hb1 (by simp; omega)
        rw [Nat.zero_add, h4] at k2
        have hsz' : cur'.size = cap := by
          rw [← Array.length_toList, k2]
          simp [hel]; omega
        refine ⟨_, rfl, row_mk k1 hbg (by simp) hroom h2 hsz' ?_, hBn.grown (setCells_grown g _ _ w1) (by rw [hsz]; omega) (fun k hk => by cases hk; exact hbg)⟩
        rw [k2, hee, List.take_append_of_le_length (by rw [encs_length]; simp), List.take_of_length_le (by rw [encs_length]; simp)]
      · refine (Any2.slices_Insert_int_end_grow Tryd.laysInsert (some ⟨g, 0, none⟩) xs.length cap w.heap.size 0 1 1 (encs (Value.int .i64) xs) [.int .i64 x] w1 (by omega) h1 (by omega) (by omega) hel rfl (fun h => by cases h) (fun a ha j v hj => ?_) hvs h1v).mono ?_
        · cases ha
          rw [add_plain]
          have := hcs j v hj
          rwa [Nat.zero_add] at this
        rintro e w' ⟨rfl, rfl⟩
        exact ⟨_, rfl, fresh_row hBn (by rw [hsz]; omega) _ (xs ++ [x]) (xs.length + 1) _ hee (by simp) (grownCap_ge _ _ _ _) (grownCap_le_maxLen _ _ _ _ hlen)⟩
    · have hlt : i < xs.length := by omega
      have hxl := insAt_length hi x
      have hxe := encs_insAt xs i x
      by_cases hroom : xs.length + 1 ≤ cap
      · have hsa : w1.shape? w.heap.size = some (3, 1) := by unfold World.shape?; rw [hnew]; rfl
        have hsb : w1.shape? g = some (3, cur.size) := by unfold World.shape?; rw [hb1]
        refine (Any2.slices_Insert_int_shift Tryd.laysInsert g 0 xs.length cap i w.heap.size 0 1 1 (encs (Value.int .i64) xs) [.int .i64 x] w1 hlt (by omega) hroom (by unfold maxLen at h2; omega) hne hel rfl hcs (fun j hj => hsp j (by omega)) (fun j _ => hfz j) hvs (encs_one xs) h1v 3 3 1 cur.size hsa hsb (by omega) (blk_frozen hnew 0) (blk_frozen hnew 1)).mono ?_
        rintro e w' ⟨rfl, rfl⟩
        have hb2 : w1.drew.heap[g]? = some (.cells cur 3 (0, 0)) := hb1
        obtain ⟨cur1, k1, k2⟩ := setCells_list g ((encs (Value.int .i64) xs).drop i) (0 + (i + 1)) w1.drew cur 3 hb2 (by rw [List.length_drop, hel]; omega)
        have hs1 : cur1.size = cap := by
          rw [← Array.length_toList, k2]
          simp [hel]; omega
        obtain ⟨cur2, k3, k4⟩ := setCells_list g [Value.int .i64 x] (0 + i) _ cur1 3 k1 (by simp; omega)
        rw [Nat.zero_add] at k2 k4
        have hti : cur.toList.take i = (encs (Value.int .i64) xs).take i := by
          rw [← h4, List.take_take, Nat.min_eq_left (by omega)]
        have e1 : cur1.toList.take i = (encs (Value.int .i64) xs).take i := by
          rw [k2, List.append_assoc, List.take_append_of_le_length (by simp; omega), List.take_take, Nat.min_eq_left (by omega), hti]
        have e2 : cur1.toList.drop (i + 1) = (encs (Value.int .i64) xs).drop i ++ cur.toList.drop (i + 1 + ((encs (Value.int .i64) xs).drop i).length) := by
          rw [k2, List.append_assoc, List.drop_append_of_le_length (by simp; omega), List.drop_of_length_le (by simp; omega), List.nil_append]
        rw [e1, List.length_singleton, e2] at k4
        have hs2 : cur2.size = cap := by
          rw [← Array.length_toList, k4]
          simp [hel]; omega
        have hg2 := (grown_drew w1 (some g)).trans (setCells_grown g ((encs (Value.int .i64) xs).drop i) (0 + (i + 1)) w1.drew)
        have hg3 := hg2.trans (setCells_grown g [Value.int .i64 x] (0 + i) _)
        refine ⟨_, rfl, row_mk k3 hbg hxl hroom h2 hs2 ?_, hBn.grown hg3 (by rw [hsz]; omega) (fun k hk => by cases hk; exact hbg)⟩
        rw [k4, hxe]
        have hll : ((encs (Value.int .i64) xs).take i ++ [Value.int .i64 x] ++ (encs (Value.int .i64) xs).drop i).length = xs.length + 1 := by simp [hel]; omega
        rw [← List.append_assoc, List.take_append_of_le_length (by rw [hll]; exact Nat.le_refl _), List.take_of_length_le (by rw [hll]; exact Nat.le_refl _)]
        simp
      · refine (Any2.slices_Insert_int_grow Tryd.laysInsert g 0 xs.length cap i w.heap.size 0 1 1 (encs (Value.int .i64) xs) [.int .i64 x] w1 hlt (by omega) h1 (by omega) (by omega) hel rfl hcs hvs (encs_one xs) h1v).mono ?_
        rintro e w' ⟨rfl, rfl⟩
        have hG1 : xs.length + 1 ≤ grownCap w1 (xs.length + 1) cap 3 := grownCap_ge _ _ _ _
        have hG2 := grownCap_le_maxLen w1 (xs.length + 1) cap 3 hlen
        have hbw : base ≤ w1.heap.size := by rw [hsz]; omega
        change InsPost w0 w1 base (insAt xs i x) (.returned (.slice (some ⟨w1.heap.size, 0, none⟩) (xs.length + 1) (grownCap w1 (xs.length + 1) cap 3))) ((((w1.alloc (.cells (((encs (Value.int .i64) xs).take i).toArray ++ Builtin.zeroCells (Value.int .i64 0).cells (xs.length + 1 - i) ++ Builtin.zeroCells (Value.int .i64 0).cells (grownCap w1 (xs.length + 1) cap 3 - (xs.length + 1))) 3)).drew.setCells w1.heap.size i [.int .i64 x]).drew).setCells w1.heap.size (i + 1) ((encs (Value.int .i64) xs).drop i))
        generalize grownCap w1 (xs.length + 1) cap 3 = G at *
        obtain ⟨cur0, hc0⟩ : ∃ c, c = ((encs (Value.int .i64) xs).take i).toArray ++ Builtin.zeroCells (Value.int .i64 0).cells (xs.length + 1 - i) ++ Builtin.zeroCells (Value.int .i64 0).cells (G - (xs.length + 1)) := ⟨_, rfl⟩
        have hs0 : cur0.size = G := by
          rw [hc0]
          simp only [Array.size_append, List.size_toArray, size_zeroCells, Value.cells, List.length_take, hel]
          simp
          omega
        have ht0 : cur0.toList.take i = (encs (Value.int .i64) xs).take i := by
          rw [hc0, Array.toList_append, Array.toList_append, List.append_assoc, List.take_append_of_le_length (by simp [hel]; omega), List.toList_toArray, List.take_take, Nat.min_self]
        rw [← hc0]
        have hb0 : (w1.alloc (.cells cur0 3)).drew.heap[w1.heap.size]? = some (.cells cur0 3 (0, 0)) := heap_alloc_new w1 _
        obtain ⟨cur1, k1, k2⟩ := setCells_list w1.heap.size [Value.int .i64 x] i _ cur0 3 hb0 (by simp; omega)
        have hs1 : cur1.size = G := by
          rw [← Array.length_toList, k2]
          simp; omega
        have k1' : ((w1.alloc (.cells cur0 3)).drew.setCells w1.heap.size i [Value.int .i64 x]).drew.heap[w1.heap.size]? = some (.cells cur1 3 (0, 0)) := k1
        obtain ⟨cur2, k3, k4⟩ := setCells_list w1.heap.size ((encs (Value.int .i64) xs).drop i) (i + 1) _ cur1 3 k1' (by rw [List.length_drop, hel]; omega)
        have e1 : cur1.toList.take (i + 1) = (encs (Value.int .i64) xs).take i ++ [Value.int .i64 x] := by
          have hll : (cur0.toList.take i ++ [Value.int .i64 x]).length = i + 1 := by simp; omega
          rw [k2, List.take_append_of_le_length (by rw [hll]; exact Nat.le_refl _), List.take_of_length_le (by rw [hll]; exact Nat.le_refl _), ht0]
        rw [e1] at k4
        have hs2 : cur2.size = G := by
          rw [← Array.length_toList, k4]
          simp [hel]; omega
        have hgr := ((grown_alloc w1 (.cells cur0 3) (some w1.heap.size)).trans (grown_drew _ _)).trans (setCells_grown w1.heap.size [Value.int .i64 x] i (w1.alloc (.cells cur0 3)).drew)
        have hgr2 := (hgr.trans (grown_drew _ _)).trans (setCells_grown w1.heap.size ((encs (Value.int .i64) xs).drop i) (i + 1) _)
        refine ⟨_, rfl, row_mk k3 hbw hxl hG1 hG2 hs2 ?_, hBn.grown hgr2 hbw (fun k hk => by cases hk; exact hbw)⟩
        rw [k4, hxe]
        have hll : ((encs (Value.int .i64) xs).take i ++ [Value.int .i64 x] ++ (encs (Value.int .i64) xs).drop i).length = xs.length + 1 := by simp [hel]; omega
        rw [List.take_append_of_le_length (by rw [hll]; exact Nat.le_refl _), List.take_of_length_le (by rw [hll]; exact Nat.le_refl _)]
        simp
end Go.Proofs.YtiiokhoonailaaaDoor.D
