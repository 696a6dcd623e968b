/- The plain laws behind PlaceLittle: Reverse; a ranking does not hang on the order of the list; a node more, a node less; the loads add up. Conditions: as each theorem says. -/
import Derived.Test.YtiiokhoonailaaaDoorC6
namespace Go.Proofs.YtiiokhoonailaaaDoor.D
open Go.RowKit Go.Sort Go.Proofs.YtiiokhoonailaaaDoorW.PrintWords Go.Proofs.YtiiokhoonailaaaDoorW.PrintLast Go.Proofs.YtiiokhoonailaaaDoorW.PrintMore
open Go.Proofs.YtiiokhoonailaaaDoor.R

/-! ### Reverse -/
theorem rd_nat (l : List Int) (i : Nat) : rd l (i : Int) = l.getD i 0 := by simp [rd]
theorem getD_set2 (x : List Int) (a b : Int) (i j k : Nat) (hi : i < x.length) (hj : j < x.length) : ((x.set i a).set j b).getD k 0 = if k = j then b else if k = i then a else x.getD k 0 := by
  simp only [List.getD_eq_getElem?_getD, List.getElem?_set, List.length_set]
  by_cases h1 : j = k
  · subst h1; simp [hj]
  · by_cases h2 : i = k
    · subst h2; simp [h1, Ne.symm h1, hi]
    · simp [h1, h2, Ne.symm h1, Ne.symm h2]
theorem getD_rev (l : List Int) (k : Nat) (h : k < l.length) : l.reverse.getD k 0 = l.getD (l.length - 1 - k) 0 := by
  simp only [List.getD_eq_getElem?_getD]
  rw [List.getElem?_reverse h]
theorem eq_of_getD {x y : List Int} (hl : x.length = y.length) (h : ∀ k, k < y.length → x.getD k 0 = y.getD k 0) : x = y := by
  refine List.ext_getElem hl fun k h1 h2 => ?_
  have := h k h2
  simpa [List.getD_eq_getElem?_getD, h1, h2] using this
theorem rev_l0 (l : List Int) (hl : l.length < 1073741824) : ∀ (n i : Nat) (x : List Int), l.length - i ≤ n → 2 * i ≤ l.length + 1 → x.length = l.length →
    (∀ k, k < l.length → x.getD k 0 = if k < i ∨ l.length - 1 - i < k then l.getD (l.length - 1 - k) 0 else l.getD k 0) → slices_Reverse_int_int.l0 (n + 1) x i ((l.length : Int) - 1 - i) = some l.reverse
  | n, i, x, hn, hi, hx, hg => by
    unfold slices_Reverse_int_int.l0
    by_cases h : (i : Int) < (l.length : Int) - 1 - i
    · obtain ⟨q, rfl⟩ : ∃ q, n = q + 1 := ⟨n - 1, by omega⟩
      have ej : (l.length : Int) - 1 - i = ((l.length - 1 - i : Nat) : Int) := by omega
      rw [if_pos h, if_pos (by omega), if_pos (by omega), if_pos (by omega), if_pos (by omega), wrap1 (by omega), IntWalk.wrap64_in _ (by omega)]
      have ih := rev_l0 l hl q (i + 1) ((x.set i (x.getD (l.length - 1 - i) 0)).set (l.length - 1 - i) (x.getD i 0)) (by omega) (by omega) (by simp [hx]) (fun k hk => by
        rw [getD_set2 _ _ _ _ _ _ (by omega) (by omega)]
        by_cases h1 : k = l.length - 1 - i
        · rw [if_pos h1, if_pos (by omega), hg i (by omega), if_neg (by omega)]
          congr 1; omega
        · rw [if_neg h1]
          by_cases h2 : k = i
          · rw [if_pos h2, if_pos (by omega), hg _ (by omega), if_neg (by omega)]
            congr 1; omega
          · rw [if_neg h2, hg k hk]
            by_cases h3 : k < i ∨ l.length - 1 - i < k
            · rw [if_pos h3, if_pos (by omega)]
            · rw [if_neg h3, if_neg (by omega)])
      rw [ej, rd_nat, rd_nat, Int.toNat_natCast, Int.toNat_natCast]
      have e2 : ((l.length - 1 - i : Nat) : Int) - 1 = (l.length : Int) - 1 - ((i + 1 : Nat) : Int) := by omega
      rw [e2]
      exact ih
    · rw [if_neg h]
      refine congrArg some (eq_of_getD (by simp [hx]) fun k hk => ?_)
      rw [List.length_reverse] at hk
      rw [getD_rev l k hk, hg k hk]
      by_cases h3 : k < i ∨ l.length - 1 - i < k
      · rw [if_pos h3]
      · rw [if_neg h3]
        congr 1; omega
theorem rev_f (l : List Int) (hl : l.length < 1073741824) : slices_Reverse_int_int.f (l.length + 1) l = some l.reverse := by
  unfold slices_Reverse_int_int.f
  rw [IntWalk.wrap64_in _ (by omega)]
  have := rev_l0 l hl l.length 0 l (by omega) (by omega) rfl (fun k hk => by rw [if_neg (by omega)])
  simpa using this

/-! ### rankings -/
theorem intsOf_inj {L M : List (Fin 7)} (h : intsOf L = intsOf M) : L = M := by
  unfold intsOf at h
  exact (List.map_inj_right (fun a b e => Fin.ext (by omega))).1 h
theorem mem_ints {L : List (Fin 7)} {i : Fin 7} : ((i.val : Nat) : Int) ∈ intsOf L ↔ i ∈ L := by
  unfold intsOf
  rw [List.mem_map]
  exact ⟨fun ⟨a, h, e⟩ => by
    have : a = i := Fin.ext (by omega)
    exact this ▸ h, fun h => ⟨i, h, rfl⟩⟩
/-- The ranking of all seven. -/
def allR (s : ByteArray) : List (Fin 7) := rankG (fun i : Fin 7 => scN s i.val) (List.finRange 7)
theorem rank_all (s : ByteArray) (l : List Int) : rankF s l = (allR s).filter fun i => decide (((i.val : Nat) : Int) ∈ l) := rank_filter _ _ _
theorem all_nodup (s : ByteArray) : (allR s).Nodup := (rank_perm _ _).nodup_iff.2 (List.nodup_finRange 7)
theorem rank_nodup (s : ByteArray) (l : List Int) : (rankF s l).Nodup := by rw [rank_all]; exact (all_nodup s).filter _
theorem mem_rank (s : ByteArray) (l : List Int) (i : Fin 7) : i ∈ rankF s l ↔ ((i.val : Nat) : Int) ∈ l := by
  rw [rank_all, List.mem_filter, decide_eq_true_eq]
  exact ⟨fun h => h.2, fun h => ⟨(rank_perm _ _).mem_iff.2 (List.mem_finRange i), h⟩⟩
theorem rank_congr (s : ByteArray) {l m : List Int} (h : ∀ x, x ∈ l ↔ x ∈ m) : rankF s l = rankF s m := by
  rw [rank_all, rank_all]
  congr 1
  funext i
  exact decide_eq_decide.2 (h _)
theorem rank_rev (s : ByteArray) (l : List Int) : rankF s l.reverse = rankF s l := rank_congr s fun _ => List.mem_reverse
theorem moves_rev (names : List ByteArray) (l : List Int) (n : Int) : movesF names l l.reverse n = [] := by
  unfold movesF
  rw [List.filter_eq_nil_iff]
  intro s _
  unfold moved placeF
  rw [rank_rev]
  simp

/-! ### a node more, a node less -/
theorem take_pre {α : Type} (p : α → Bool) : ∀ (S : List α) (N : Nat), (S.filter p).take ((S.take N).filter p).length = (S.take N).filter p
  | [], N => by simp
  | x :: S, 0 => by simp
  | x :: S, N + 1 => by
    rw [List.take_succ_cons]
    by_cases e : p x = true
    · rw [List.filter_cons_of_pos e, List.filter_cons_of_pos e, List.length_cons, List.take_succ_cons, take_pre p S N]
    · rw [List.filter_cons_of_neg e, List.filter_cons_of_neg e, take_pre p S N]
theorem take_all {α : Type} (p : α → Bool) : ∀ (S : List α) (N : Nat), (∀ x ∈ S.take N, p x = true) → (S.filter p).take N = S.take N
  | [], N, _ => by simp
  | x :: S, 0, _ => by simp
  | x :: S, N + 1, h => by
    rw [List.take_succ_cons] at h ⊢
    rw [List.filter_cons_of_pos (h x (by simp)), List.take_succ_cons, take_all p S N (fun y hy => h y (by simp [hy]))]
theorem filter_one {α : Type} [DecidableEq α] {l : List α} (hn : l.Nodup) {x : α} (hx : x ∈ l) : (l.filter fun y => decide (y ≠ x)).length + 1 = l.length := by
  have h := hn.erase_eq_filter x
  have h2 := List.length_erase_of_mem hx
  have : 0 < l.length := List.length_pos_of_mem hx
  have e : (l.filter fun y => decide (y ≠ x)) = l.erase x := by rw [h]; congr 1; funext y; by_cases hy : y = x <;> simp [hy]
  rw [e, h2]; omega
/-- The node as one of the seven: none, or the one. -/
theorem without_ints (L : List (Fin 7)) (x : Int) : (intsOf L).filter (fun y => decide (y ≠ x)) = intsOf (L.filter fun i => decide (((i.val : Nat) : Int) ≠ x)) := by
  unfold intsOf
  rw [List.filter_map]
  rfl
theorem rank_less (s : ByteArray) (nodes : List Int) (x : Int) : rankF s (nodes.filter fun y => decide (y ≠ x)) = (rankF s (nodes ++ [x])).filter fun i => decide (((i.val : Nat) : Int) ≠ x) := by
  rw [rank_all, rank_all, List.filter_filter]
  congr 1
  funext i
  rw [← Bool.decide_and]
  refine decide_eq_decide.2 ?_
  simp only [List.mem_filter, List.mem_append, List.mem_singleton, decide_eq_true_eq]
  constructor
  · rintro ⟨h1, h2⟩; exact ⟨h2, .inl h1⟩
  · rintro ⟨h1, h2 | h2⟩
    · exact ⟨h2, h1⟩
    · exact absurd h2 h1
/-- x is in no placement: nothing has turned. -/
theorem little_out (s : ByteArray) (nodes : List Int) (x n : Int) (h : x ∉ intsOf (placeF s (nodes ++ [x]) n)) : placeF s (nodes.filter fun y => decide (y ≠ x)) n = placeF s (nodes ++ [x]) n := by
  unfold placeF at *
  rw [rank_less]
  refine take_all _ _ _ fun i hi => ?_
  rw [decide_eq_true_eq]
  rintro rfl
  exact h (mem_ints.2 hi)
/-- x is in the placement: the rest is the first part of what stood before. -/
theorem little_in (s : ByteArray) (nodes : List Int) (x n : Int) (h : x ∈ intsOf (placeF s (nodes ++ [x]) n)) :
    ((placeF s (nodes ++ [x]) n).filter fun i => decide (((i.val : Nat) : Int) ≠ x)).length + 1 = (placeF s (nodes ++ [x]) n).length ∧
    (placeF s (nodes.filter fun y => decide (y ≠ x)) n).take ((placeF s (nodes ++ [x]) n).filter fun i => decide (((i.val : Nat) : Int) ≠ x)).length = (placeF s (nodes ++ [x]) n).filter fun i => decide (((i.val : Nat) : Int) ≠ x) := by
  have hnd : (placeF s (nodes ++ [x]) n).Nodup := (rank_nodup _ _).sublist (List.take_sublist _ _)
  constructor
  · obtain ⟨i, hi, rfl⟩ : ∃ i ∈ placeF s (nodes ++ [x]) n, ((i.val : Nat) : Int) = x := List.mem_map.1 h
    have := filter_one hnd hi
    rw [← this]
    congr 3
    funext j
    refine decide_eq_decide.2 (not_congr ?_)
    exact ⟨fun e => Fin.ext (by omega), fun e => by rw [e]⟩
  · unfold placeF
    rw [rank_less, List.take_take]
    have hle : (((rankF s (nodes ++ [x])).take n.toNat).filter fun i => decide (((i.val : Nat) : Int) ≠ x)).length ≤ n.toNat := Nat.le_trans (List.length_filter_le _ _) (by rw [List.length_take]; omega)
    rw [Nat.min_eq_left hle]
    exact take_pre _ _ _

/-! ### the loads add up -/
def diffStep (D : List Int) (k : Int) : List Int := if 0 ≤ k ∧ k < 7 ∧ k ∉ D then D ++ [k] else D
def diffF (l : List Int) : List Int := l.foldl diffStep []
theorem diff_more (l : List Int) {k : Nat} (h : k < l.length) : diffF (l.take (k + 1)) = diffStep (diffF (l.take k)) l[k] := by
  unfold diffF
  rw [List.take_succ_eq_append_getElem h, List.foldl_append]
  rfl
theorem diff_fold : ∀ (l D : List Int), D.Nodup → (l.foldl diffStep D).Nodup ∧ ∀ x, x ∈ l.foldl diffStep D ↔ x ∈ D ∨ (x ∈ l ∧ 0 ≤ x ∧ x < 7)
  | [], D, h => ⟨h, fun x => by simp⟩
  | k :: l, D, h => by
    rw [List.foldl_cons]
    have hs : (diffStep D k).Nodup ∧ ∀ x, x ∈ diffStep D k ↔ x ∈ D ∨ (x = k ∧ 0 ≤ x ∧ x < 7) := by
      unfold diffStep
      by_cases e : 0 ≤ k ∧ k < 7 ∧ k ∉ D
      · rw [if_pos e]
        refine ⟨List.nodup_append.2 ⟨h, by simp, fun a ha b hb => ?_⟩, fun x => ?_⟩
        · have : b = k := by simpa using hb
          subst this
          rintro rfl
          exact e.2.2 ha
        · rw [List.mem_append, List.mem_singleton]
          exact ⟨fun hx => hx.imp id fun hx => ⟨hx, by omega, by omega⟩, fun hx => hx.imp id fun hx => hx.1⟩
      · rw [if_neg e]
        refine ⟨h, fun x => ⟨.inl, fun hx => hx.elim id ?_⟩⟩
        rintro ⟨rfl, h0, h1⟩
        exact Classical.byContradiction fun hc => e ⟨h0, h1, hc⟩
    obtain ⟨i1, i2⟩ := diff_fold l (diffStep D k) hs.1
    refine ⟨i1, fun x => ?_⟩
    rw [i2, hs.2, List.mem_cons]
    constructor
    · rintro ((h | ⟨h, h2⟩) | ⟨h, h2⟩)
      · exact .inl h
      · exact .inr ⟨.inl h, h2⟩
      · exact .inr ⟨.inr h, h2⟩
    · rintro (h | ⟨h | h, h2⟩)
      · exact .inl (.inl h)
      · exact .inl (.inr ⟨h, h2⟩)
      · exact .inr ⟨h, h2⟩
theorem diff_nodup (l : List Int) : (diffF l).Nodup := (diff_fold l [] List.nodup_nil).1
theorem mem_diff (l : List Int) (x : Int) : x ∈ diffF l ↔ x ∈ l ∧ 0 ≤ x ∧ x < 7 := by
  rw [show diffF l = l.foldl diffStep [] from rfl, (diff_fold l [] List.nodup_nil).2]
  simp
theorem ints_nodup {L : List (Fin 7)} (h : L.Nodup) : (intsOf L).Nodup := by
  unfold intsOf
  exact List.Pairwise.map _ (fun a b hab e => hab (Fin.ext (by omega))) h
theorem diff_perm (s : ByteArray) (l : List Int) : (intsOf (rankF s l)).Perm (diffF l) := by
  refine (List.perm_ext_iff_of_nodup (ints_nodup (rank_nodup s l)) (diff_nodup l)).2 fun x => ?_
  rw [mem_diff]
  constructor
  · intro h
    obtain ⟨i, hi, rfl⟩ := List.mem_map.1 h
    have := i.isLt
    exact ⟨(mem_rank s l i).1 hi, by omega, by omega⟩
  · rintro ⟨h, h0, h1⟩
    have e : ((((⟨x.toNat, by omega⟩ : Fin 7).val : Nat)) : Int) = x := by show ((x.toNat : Nat) : Int) = x; omega
    rw [← e]
    exact mem_ints.2 ((mem_rank s l _).2 (by rw [e]; exact h))
theorem diff_le (l : List Int) : (diffF l).length ≤ 7 := by
  rw [← (diff_perm ByteArray.empty l).length_eq, ints_length]
  exact rankF_le _ _
theorem place_len (s : ByteArray) (l : List Int) (n : Int) : (intsOf (placeF s l n)).length = min n.toNat (diffF l).length := by
  rw [← (diff_perm s l).length_eq, ints_length, ints_length]
  unfold placeF
  rw [List.length_take]
theorem sum_ind (p : List Int) : ∀ D : List Int, (D.map fun x => (if x ∈ p then 1 else 0 : Nat)).sum = (D.filter fun x => decide (x ∈ p)).length
  | [] => rfl
  | x :: D => by
    rw [List.map_cons, List.sum_cons, sum_ind p D]
    by_cases e : x ∈ p
    · rw [if_pos e, List.filter_cons_of_pos (by simpa using e), List.length_cons]; omega
    · rw [if_neg e, List.filter_cons_of_neg (by simpa using e)]; omega
theorem part_len (s : ByteArray) (l : List Int) (n : Int) : ((diffF l).filter fun x => decide (x ∈ intsOf (placeF s l n))).length = min n.toNat (diffF l).length := by
  rw [← place_len s l n]
  refine List.Perm.length_eq ((List.perm_ext_iff_of_nodup ((diff_nodup l).filter _) (ints_nodup ((rank_nodup s l).sublist (List.take_sublist _ _)))).2 fun x => ?_)
  rw [List.mem_filter, decide_eq_true_eq]
  refine ⟨fun h => h.2, fun h => ⟨(diff_perm s l).mem_iff.1 ?_, h⟩⟩
  obtain ⟨i, hi, rfl⟩ := List.mem_map.1 h
  exact mem_ints.2 (List.mem_of_mem_take hi)
theorem sum_add (f g : Int → Nat) : ∀ D : List Int, (D.map fun x => f x + g x).sum = (D.map f).sum + (D.map g).sum
  | [] => rfl
  | x :: D => by simp only [List.map_cons, List.sum_cons, sum_add f g D]; omega
theorem loads_sum (l : List Int) (n : Int) : ∀ names : List ByteArray, ((diffF l).map fun x => loadOf (planF names l n) x).sum = names.length * min n.toNat (diffF l).length
  | [] => by
    rw [List.length_nil, Nat.zero_mul]
    have : ∀ D : List Int, (D.map fun x => loadOf (planF [] l n) x).sum = 0 := fun D => by
      induction D with
      | nil => rfl
      | cons x D ih => rw [List.map_cons, List.sum_cons, ih]; rfl
    exact this _
  | s :: r => by
    have ih := loads_sum l n r
    have e : (fun x => loadOf (planF (s :: r) l n) x) = fun x => (if x ∈ intsOf (placeF s l n) then 1 else 0) + loadOf (planF r l n) x := by
      funext x
      show (List.filter (fun p : S26 => decide (x ∈ p.f1)) (pent l n s :: planF r l n)).length = _
      by_cases h : x ∈ intsOf (placeF s l n)
      · rw [if_pos h, List.filter_cons_of_pos (by exact decide_eq_true h), List.length_cons]
        show loadOf (planF r l n) x + 1 = _
        omega
      · rw [if_neg h, List.filter_cons_of_neg (by exact fun hd => h (of_decide_eq_true hd))]
        show loadOf (planF r l n) x = _
        omega
    rw [e, sum_add, ih, sum_ind, part_len, List.length_cons, Nat.add_mul]
    omega
/-- The sum that the law reckons, of the first k loads. -/
def sumK (T : List S26) (D : List Int) (k : Nat) : Nat := ((D.take k).map fun x => loadOf T x).sum
theorem sumK_more (T : List S26) (D : List Int) {k : Nat} (h : k < D.length) : sumK T D (k + 1) = sumK T D k + loadOf T D[k] := by
  unfold sumK
  rw [List.take_succ_eq_append_getElem h, List.map_append, List.sum_append]
  simp
theorem sumK_le (T : List S26) : ∀ (D : List Int) (k : Nat), sumK T D k ≤ k * T.length
  | _, 0 => by unfold sumK; simp
  | D, k + 1 => by
    have ih := sumK_le T D k
    by_cases h : k < D.length
    · rw [sumK_more T D h, Nat.add_mul]
      have := loadOf_le T D[k]
      omega
    · have e : sumK T D (k + 1) = sumK T D k := by
        unfold sumK
        rw [List.take_of_length_le (by omega), List.take_of_length_le (by omega)]
      rw [e, Nat.add_mul]
      omega
end Go.Proofs.YtiiokhoonailaaaDoor.D
