/- Plain laws of ranking: insertion from the back and from the front, on lists in descending order of scores; a ranking of some is the ranking of all, cut to those. Conditions: as each theorem says. -/
import Derived.Sort.Defs
namespace Go.Proofs.YtiiokhoonailaaaDoor.D
open Go.Sort

section
variable {α : Type} (sc : α → Nat)
/-- In descending order of scores. -/
def Desc (l : List α) : Prop := l.Pairwise fun a b => sc b ≤ sc a
/-- Behind all whose score is not less. -/
def insF (x : α) (l : List α) : List α := l.takeWhile (fun y => decide (sc x ≤ sc y)) ++ x :: l.dropWhile (fun y => decide (sc x ≤ sc y))
def rankG (l : List α) : List α := l.foldl (fun acc x => insF sc x acc) []

theorem take_filter (x : α) : ∀ {l : List α}, Desc sc l → l.takeWhile (fun y => decide (sc x ≤ sc y)) = l.filter (fun y => decide (sc x ≤ sc y)) ∧ l.dropWhile (fun y => decide (sc x ≤ sc y)) = l.filter (fun y => !decide (sc x ≤ sc y))
  | [], _ => ⟨rfl, rfl⟩
  | y :: r, h => by
    obtain ⟨h1, h2⟩ := List.pairwise_cons.1 h
    obtain ⟨i1, i2⟩ := take_filter x h2
    by_cases e : sc x ≤ sc y
    · rw [List.takeWhile_cons_of_pos (by simpa using e), List.dropWhile_cons_of_pos (by simpa using e), List.filter_cons_of_pos (by simpa using e), List.filter_cons_of_neg (by simpa using e), i1, i2]
      exact ⟨rfl, rfl⟩
    · rw [List.takeWhile_cons_of_neg (by simpa using e), List.dropWhile_cons_of_neg (by simpa using e), List.filter_cons_of_neg (by simpa using e), List.filter_cons_of_pos (by simpa using e)]
      have hr : ∀ z ∈ r, ¬ sc x ≤ sc z := fun z hz => by have := h1 z hz; omega
      refine ⟨?_, ?_⟩
      · symm
        rw [List.filter_eq_nil_iff]
        intro z hz
        simpa using hr z hz
      · congr 1
        symm
        rw [List.filter_eq_self]
        intro z hz
        simpa using hr z hz
theorem insF_eq (x : α) {l : List α} (h : Desc sc l) : insF sc x l = l.filter (fun y => decide (sc x ≤ sc y)) ++ x :: l.filter (fun y => !decide (sc x ≤ sc y)) := by
  obtain ⟨h1, h2⟩ := take_filter sc x h
  unfold insF
  rw [h1, h2]
theorem Desc.filter {l : List α} (h : Desc sc l) (p : α → Bool) : Desc sc (l.filter p) := List.Pairwise.filter _ h
theorem Desc.ins (x : α) {l : List α} (h : Desc sc l) : Desc sc (insF sc x l) := by
  rw [insF_eq sc x h]
  unfold Desc
  rw [List.pairwise_append]
  refine ⟨h.filter sc _, List.pairwise_cons.2 ⟨fun z hz => ?_, h.filter sc _⟩, fun a ha b hb => ?_⟩
  · have := (List.mem_filter.1 hz).2
    simp at this
    omega
  · have h1 := (List.mem_filter.1 ha).2
    simp at h1
    rcases List.mem_cons.1 hb with rfl | hb
    · exact h1
    · have h2 := (List.mem_filter.1 hb).2
      simp at h2
      omega
theorem insF_filter (x : α) {l : List α} (h : Desc sc l) (p : α → Bool) : (insF sc x l).filter p = if p x = true then insF sc x (l.filter p) else l.filter p := by
  rw [insF_eq sc x h, List.filter_append]
  have hc : ∀ q : α → Bool, (l.filter q).filter p = (l.filter p).filter q := fun q => by
    rw [List.filter_filter, List.filter_filter]
    congr 1
    funext z
    exact Bool.and_comm _ _
  by_cases e : p x = true
  · rw [if_pos e, List.filter_cons_of_pos e, insF_eq sc x (h.filter sc p), hc, hc]
  · rw [if_neg e, List.filter_cons_of_neg e, hc, hc]
    obtain ⟨h1, h2⟩ := take_filter sc x (h.filter sc p)
    rw [← h1, ← h2, List.takeWhile_append_dropWhile]

theorem rank_fold : ∀ (l acc : List α), Desc sc acc → Desc sc (l.foldl (fun acc x => insF sc x acc) acc)
  | [], _, h => h
  | x :: r, _, h => rank_fold r _ (h.ins sc x)
theorem rank_desc (l : List α) : Desc sc (rankG sc l) := rank_fold sc l [] List.Pairwise.nil
theorem fold_filter (p : α → Bool) : ∀ (l acc : List α), Desc sc acc → (l.foldl (fun acc x => insF sc x acc) acc).filter p = (l.filter p).foldl (fun acc x => insF sc x acc) (acc.filter p)
  | [], _, _ => rfl
  | x :: r, acc, h => by
    rw [List.foldl_cons, fold_filter p r _ (h.ins sc x), insF_filter sc x h]
    by_cases e : p x = true
    · rw [if_pos e, List.filter_cons_of_pos e, List.foldl_cons]
    · rw [if_neg e, List.filter_cons_of_neg e]
/-- The ranking of some is the ranking of all, cut to those. -/
theorem rank_filter (l : List α) (p : α → Bool) : rankG sc (l.filter p) = (rankG sc l).filter p := by
  unfold rankG
  rw [fold_filter sc p l [] List.Pairwise.nil]
  rfl
theorem rank_snoc (l : List α) (x : α) : rankG sc (l ++ [x]) = insF sc x (rankG sc l) := by
  unfold rankG
  rw [List.foldl_append]
  rfl
theorem insF_perm (x : α) (l : List α) : (insF sc x l).Perm (x :: l) := by
  unfold insF
  refine List.perm_middle.trans ?_
  rw [List.takeWhile_append_dropWhile]
theorem fold_perm : ∀ (l acc : List α), (l.foldl (fun acc x => insF sc x acc) acc).Perm (l ++ acc)
  | [], _ => List.Perm.refl _
  | x :: r, acc => (fold_perm r _).trans (((insF_perm sc x acc).append_left r).trans (List.perm_middle))
theorem rank_perm (l : List α) : (rankG sc l).Perm l := by
  have := fold_perm sc l []
  rwa [List.append_nil] at this
theorem rank_length (l : List α) : (rankG sc l).length = l.length := (rank_perm sc l).length_eq

/-! ### insertion from the back -/
/-- What the insertion sort does with x, the elements ahead of it being A (the last one first). -/
def insB (lt : α → α → Bool) (x : α) : List α → List α → List α
  | [], B => x :: B
  | y :: r, B => if lt x y = true then insB lt x r (y :: B) else (y :: r).reverse ++ x :: B
theorem insB_eq (lt : α → α → Bool) (hlt : ∀ x y, lt x y = decide (sc y < sc x)) (x : α) : ∀ (A B : List α), Desc sc A.reverse → insB lt x A B = insF sc x A.reverse ++ B
  | [], B, _ => rfl
  | y :: r, B, h => by
    unfold insB
    rw [List.reverse_cons] at h ⊢
    obtain ⟨h1, h2, h3⟩ := List.pairwise_append.1 h
    by_cases e : sc y < sc x
    · have ih := insB_eq lt hlt x r (y :: B) h1
      rw [if_pos (by rw [hlt]; exact decide_eq_true e), ih]
      unfold insF
      have e1 : (r.reverse ++ [y]).takeWhile (fun z => decide (sc x ≤ sc z)) = r.reverse.takeWhile (fun z => decide (sc x ≤ sc z)) := by
        rw [(take_filter sc x h).1, (take_filter sc x h1).1, List.filter_append, List.filter_cons_of_neg (by simp; omega)]
        simp
      have e2 : (r.reverse ++ [y]).dropWhile (fun z => decide (sc x ≤ sc z)) = r.reverse.dropWhile (fun z => decide (sc x ≤ sc z)) ++ [y] := by
        rw [(take_filter sc x h).2, (take_filter sc x h1).2, List.filter_append, List.filter_cons_of_pos (by simp; omega)]
        simp
      rw [e1, e2]
      simp
    · rw [if_neg (by rw [hlt, decide_eq_true_eq]; exact e)]
      unfold insF
      have hall : ∀ z ∈ r.reverse ++ [y], sc x ≤ sc z := fun z hz => by
        rcases List.mem_append.1 hz with hz | hz
        · have := h3 z hz y (by simp); omega
        · have : z = y := by simpa using hz
          subst this; omega
      have e1 : (r.reverse ++ [y]).takeWhile (fun z => decide (sc x ≤ sc z)) = r.reverse ++ [y] := by
        rw [(take_filter sc x h).1, List.filter_eq_self]
        intro z hz; simpa using hall z hz
      have e2 : (r.reverse ++ [y]).dropWhile (fun z => decide (sc x ≤ sc z)) = [] := by
        rw [(take_filter sc x h).2, List.filter_eq_nil_iff]
        intro z hz; simpa using hall z hz
      rw [e1, e2]
      simp
end

section
variable {α : Type} [Inhabited α]
theorem arr_get (A B : List α) (x : α) : (A ++ x :: B).toArray[A.length]! = x := by
  rw [getElem!_pos _ _ (by simp)]
  simp
theorem inner_eq (lt : α → α → Bool) (x : α) : ∀ (A B : List α), insInner lt 0 A.length (A.reverse ++ x :: B).toArray = (insB lt x A B).toArray
  | [], B => rfl
  | y :: r, B => by
    have h1 : ((y :: r).reverse ++ x :: B).toArray[r.length + 1]! = x := by
      have := arr_get (y :: r).reverse B x
      rwa [List.length_reverse] at this
    have h0 : ((y :: r).reverse ++ x :: B).toArray[r.length]! = y := by
      have := arr_get r.reverse (x :: B) y
      rw [List.length_reverse] at this
      rw [List.reverse_cons, List.append_assoc]
      exact this
    show insInner lt 0 (r.length + 1) _ = _
    unfold insInner insB
    rw [h1, h0]
    by_cases e : lt x y = true
    · rw [if_pos (by simp [e]), if_pos e]
      have hs : swp ((y :: r).reverse ++ x :: B).toArray (r.length + 1) r.length = (r.reverse ++ x :: (y :: B)).toArray := by
        unfold swp
        rw [h1, h0]
        apply Array.ext'
        simp only [Array.toList_setIfInBounds, List.reverse_cons, List.append_assoc, List.singleton_append]
        have hl : r.reverse.length = r.length := List.length_reverse
        rw [List.set_append_right _ _ (by omega), hl, show r.length + 1 - r.length = 1 by omega]
        rw [List.set_append_right _ _ (by omega), hl, Nat.sub_self]
        rfl
      rw [hs]
      exact inner_eq lt x r (y :: B)
    · rw [if_neg (by simp [e]), if_neg e]
theorem outer_eq (sc : α → Nat) (lt : α → α → Bool) (hlt : ∀ x y, lt x y = decide (sc y < sc x)) (n : Nat) : ∀ (R P : List α), P.length + R.length = n → Desc sc P → insOuter lt 0 n P.length (P ++ R).toArray = (R.foldl (fun acc x => insF sc x acc) P).toArray
  | [], P, hn, _ => by
    unfold insOuter
    simp at hn
    rw [if_neg (by omega)]
    simp
  | x :: R, P, hn, h => by
    unfold insOuter
    simp at hn
    rw [if_pos (by omega)]
    have hi := inner_eq lt x P.reverse R
    rw [List.length_reverse, List.reverse_reverse] at hi
    rw [hi, insB_eq sc lt hlt x P.reverse R (by rw [List.reverse_reverse]; exact h), List.reverse_reverse]
    have hl : (insF sc x P).length = P.length + 1 := (insF_perm sc x P).length_eq
    have := outer_eq sc lt hlt n R (insF sc x P) (by omega) (h.ins sc x)
    rw [hl] at this
    exact this
theorem insertion_eq (sc : α → Nat) (lt : α → α → Bool) (hlt : ∀ x y, lt x y = decide (sc y < sc x)) (l : List α) : insertionSort lt l.toArray 0 l.length = (rankG sc l).toArray := by
  unfold insertionSort
  cases l with
  | nil => unfold insOuter; simp [rankG]
  | cons x r =>
    have := outer_eq sc lt hlt (r.length + 1) r [x] (by simp; omega) (by simp [Desc])
    simpa [rankG, insF] using this
end
end Go.Proofs.YtiiokhoonailaaaDoor.D
