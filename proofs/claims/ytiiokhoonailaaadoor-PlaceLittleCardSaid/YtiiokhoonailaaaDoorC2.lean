/- The stable sort of at most 7 nodes by Rank's comparison. Conditions: as each theorem says. -/
import Derived.Test.YtiiokhoonailaaaDoorC1
import Derived.Test.YtiiokhoonailaaaDoorQ0
import Derived.LoopTactic
namespace Go.Proofs.YtiiokhoonailaaaDoor.D
open Go.RowKit Go.Sort Go.Proofs.YtiiokhoonailaaaDoorW.PrintWords Go.Proofs.YtiiokhoonailaaaDoorW.PrintLast Go.Proofs.YtiiokhoonailaaaDoorW.PrintMore
open Go.Proofs.YtiiokhoonailaaaDoor.R

instance : Inhabited (Fin 7) := ⟨0⟩
def intsOf (L : List (Fin 7)) : List Int := L.map fun i => ((i.val : Nat) : Int)
theorem encs_ints (L : List (Fin 7)) : encs (Value.int .i64) (intsOf L) = L.map encF := by
  unfold encs intsOf
  rw [List.map_map]
  rfl
theorem ints_length (L : List (Fin 7)) : (intsOf L).length = L.length := List.length_map _
theorem block_holds {w : World} {g : Nat} {cur : Array Value} {e : TypeId} {L : List (Fin 7)} (hb : w.heap[g]? = some (.cells cur e (0, 0))) (ht : cur.toList.take L.length = L.map encF) : Holds encF w g 0 L.toArray := by
  intro j hj
  have hj' : j < L.length := by simpa using hj
  refine ⟨?_, by simp [World.frozen?, hb]⟩
  have h1 : (cur.toList.take L.length)[j]? = (L.map encF)[j]? := by rw [ht]
  rw [List.getElem?_take_of_lt hj'] at h1
  rw [Nat.zero_add, blk_cell hb, ← Array.getElem?_toList, h1]
  simp [hj']
theorem sorted_other {w : World} {g n k : Nat} {os : Array Obj} (d : Array (Fin 7)) (hk : k < w.heap.size) (hne : k ≠ g) : (grow (putRow encF (Sort.ahead w n) g 0 d) os).heap[k]? = w.heap[k]? := by
  rw [heap_grow_old _ _ (by simpa using hk)]
  simp [putRow, mapBlock, Sort.ahead, Array.getElem?_modify, Ne.symm hne]
theorem sorted_here {w : World} {g n : Nat} {os : Array Obj} {cur : Array Value} {e : TypeId} {fr : Nat × Nat} (d : Array (Fin 7)) (hb : w.heap[g]? = some (.cells cur e fr)) :
    (grow (putRow encF (Sort.ahead w n) g 0 d) os).heap[g]? = some (.cells (putCells encF 0 d cur) e fr) := by
  rw [heap_grow_old _ _ (by simpa using blk_lt hb)]
  simp [putRow, mapBlock, Sort.ahead, Array.getElem?_modify, hb, onCells]
theorem put_take (cur : Array Value) (L : List (Fin 7)) (h : L.length ≤ cur.size) : (putCells encF 0 L.toArray cur).toList.take L.length = L.map encF := by
  apply List.ext_getElem?
  intro j
  by_cases hj : j < L.length
  · rw [List.getElem?_take_of_lt hj, Array.getElem?_toList]
    simp [putCells, hj, show j < cur.size by omega]
  · rw [List.getElem?_take_eq_none (by omega), List.getElem?_eq_none (by simp; omega)]

/-- What the sort leaves: the same slice, its elements in order; nothing else of the elder world has turned. -/
structure Sorted1 (w w' : World) (base : Nat) (v : Value) (L : List (Fin 7)) : Prop where
  row : Kd.R KI 3 w' base (fun _ => True) v (intsOf L)
  grown : w.grownBy w' v.ownBlock
def SortPost (w : World) (base : Nat) (v : Value) (L : List (Fin 7)) (e : Ending) (w' : World) : Prop := e = .returned (.tuple #[]) ∧ Sorted1 w w' base v L

set_option maxRecDepth 100000 in
theorem none_calls (f : Value) (w : World) : Calls Tryd.prog 39 #[.slice none 0 0, .int .i64 0, .int .i64 0, f] w fun e w' => e = .returned (.tuple #[]) ∧ w = w' := by
  go_enter Tryd.func39, Tryd.ntmps39
  go_wp2
  go_loop [8] (fun i => i = .int .i64 1) (fun _ => 0)
  case atStart => rfl
  case round =>
    subst hrel
    go_wp2
    go_end0
    exact ⟨rfl, rfl⟩

theorem sort_calls (s : ByteArray) (hs : s.size ≤ 1073741000) {w : World} {base gb : Nat} {A : Option Addr} {cap : Nat} {L : List (Fin 7)} (hL : L.length < 1073741824) (hR : Kd.R KI 3 w base (fun _ => True) (.slice A L.length cap) (intsOf L)) (hbox : w.heap[gb]? = some (.cells #[.string s] 9 (0, 0))) :
    Calls Tryd.prog 39 #[.slice A L.length cap, .int .i64 0, .int .i64 (L.length : Int), .func (.func 29) #[] #[.pointer (some ⟨gb, 0, none⟩)]] w (SortPost w base (.slice A L.length cap) (rankG (fun i : Fin 7 => scN s i.val) L)) := by
  have hown := Kd.own_of_R hR
  rw [encs_ints, ints_length] at hown
  rcases hown.2 with ⟨hv, h0⟩ | ⟨g, cap', cur, hv, hbase, hb, h1, h2, h3, h4⟩
  · have hL0 : L = [] := List.eq_nil_of_length_eq_zero h0
    subst hL0
    cases hv
    refine (none_calls _ w).mono ?_
    rintro e w' ⟨rfl, rfl⟩
    exact ⟨rfl, hR, World.grownBy.refl w _⟩
  · cases hv
    have hne : gb ≠ g := by
      rintro rfl
      rw [hbox] at hb
      cases hb
    have hH : Holds encF w g 0 L.toArray := block_holds hb (by simpa using h4)
    have hlt := blk_lt hb
    have eg : ∀ args w, (callFunc 29 args).run Tryd.prog w = .ok (.enter 29 args) w := enters_of Tryd.func29 (by kernel_rfl) rfl
    have hcmp : CmpLays1 Tryd.prog 29 #[.pointer (some ⟨gb, 0, none⟩)] encF (cfF s) g 0 L.toArray.size w := by
      intro m os dk _ x y
      have hc : (sortWorld encF w g 0 m dk os).cell? ⟨gb, 0, none⟩ = some (.string s) := blk_cell ((sorted_other dk (blk_lt hbox) hne).trans hbox) 0
      refine (cmp_calls s hs x.val y.val x.isLt y.isLt _ gb hc).mono ?_
      rintro e w' ⟨rfl, hg⟩
      obtain ⟨q, os', hw⟩ := hg.grow
      exact ⟨rfl, q, os', hw⟩
    have hi := Any.insertionSortCmpFunc_s Tryd.laysIns encF (cfF s) 29 #[.pointer (some ⟨gb, 0, none⟩)] g 0 cap 0 L.toArray.size L.toArray L.toArray w w eg hcmp ⟨fun _ => rfl, hH, hlt⟩ rfl (SW.start hH) (Nat.zero_le _) (Nat.le_refl _) (by simp; omega)
    have hsz : L.toArray.size = L.length := by simp
    have hlt2 : ∀ x y : Fin 7, ltOf (cfF s) x y = decide (scN s y.val < scN s x.val) := by
      intro x y
      unfold ltOf cfF
      rw [decide_eq_decide]
      omega
    rw [hsz, insertion_eq (fun i : Fin 7 => scN s i.val) (ltOf (cfF s)) hlt2 L] at hi
    refine hi.mono ?_
    rintro e w' ⟨rfl, n, os, rfl⟩
    have hrl := rank_length (fun i : Fin 7 => scN s i.val) L
    generalize rankG (fun i : Fin 7 => scN s i.val) L = M at *
    refine ⟨rfl, ?_, rfl, rfl, rfl, by simp [sortWorld], fun k hk hkn => sorted_other _ hk (fun e => hkn (by rw [e]; rfl))⟩
    refine Kd.R_of_own (h1 := fun _ => rfl) ?_ (fun _ _ => trivial)
    rw [encs_ints, ints_length]
    refine ⟨by simp, .inr ⟨g, cap, _, by rw [hrl], hbase, sorted_here _ hb, by omega, h2, by simp [putCells, h3], ?_⟩⟩
    rw [Nat.mul_one]
    exact put_take cur M (by omega)

set_option maxRecDepth 100000 in
set_option maxHeartbeats 400000 in
theorem stable_calls (s : ByteArray) (hs : s.size ≤ 1073741000) {w : World} {base gb : Nat} {A : Option Addr} {cap : Nat} {L : List (Fin 7)} (hL : L.length ≤ 7) (hR : Kd.R KI 3 w base (fun _ => True) (.slice A L.length cap) (intsOf L)) (hbox : w.heap[gb]? = some (.cells #[.string s] 9 (0, 0))) :
    Calls Tryd.prog 28 #[.slice A L.length cap, .func (.func 29) #[] #[.pointer (some ⟨gb, 0, none⟩)]] w (SortPost w base (.slice A L.length cap) (rankG (fun i : Fin 7 => scN s i.val) L)) := by
  have h39 := Aside0.mk (sort_calls s hs (by omega) hR hbox)
  have d1 : decide ((20 : Int) ≤ (L.length : Int)) = false := by simp; omega
  have d2 : decide ((20 : Int) < (L.length : Int)) = false := by simp; omega
  clear hR hbox hs
  generalize rankG (fun i : Fin 7 => scN s i.val) L = M at *
  have h34 : Aside0 (Calls Tryd.prog 34 #[.slice A L.length cap, .int .i64 (L.length : Int), .func (.func 29) #[] #[.pointer (some ⟨gb, 0, none⟩)]] w (SortPost w base (.slice A L.length cap) M)) := by
    refine ⟨?_⟩
    go_enter Tryd.func34, Tryd.ntmps34
    go_wp2
    go_loop [7, 8] (fun a b => a = .int .i64 0 ∧ b = .int .i64 20) (fun _ _ => 0)
    case atStart => exact ⟨rfl, rfl⟩
    case round =>
      obtain ⟨rfl, rfl⟩ := hrel
      go_wp2_with fail
      refine h39.out.mono ?_
      rintro e w1 ⟨rfl, hp⟩
      have HP := Aside0.mk hp
      clear hp
      go_wp2
      go_loop [6] (fun b => b = .int .i64 20) (fun _ => 0)
      case atStart => rfl
      case round =>
        subst hrel
        go_wp2
        go_end0
        exact ⟨rfl, HP.out⟩
  go_enter Tryd.func28, Tryd.ntmps28
  go_wp2_with fail
  refine h34.out.mono ?_
  rintro e w1 ⟨rfl, hp⟩
  have HP := Aside0.mk hp
  clear hp
  go_wp2
  go_end0
  exact ⟨rfl, HP.out⟩
end Go.Proofs.YtiiokhoonailaaaDoor.D
