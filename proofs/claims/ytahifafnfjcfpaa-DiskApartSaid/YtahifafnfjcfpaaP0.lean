/- What the printed functions of the reference compute, in plain words: New, Names, Name, At, Without; short. Conditions: lengths below 2^30. -/
import Derived.Test.YtahifafnfjcfpaaR1
import Derived.Test.YtahifafnfjcfpaaR4
import Derived.Test.YtahifafnfjcfpaaD8
namespace Go.Proofs.Ytahifafnfjcfpaa.D
open Go.RowKit Go.Proofs.YtahifafnfjcfpaaW.PrintWords
open Go.Proofs.Ytahifafnfjcfpaa.R

theorem wrap1 {i : Nat} (h : i < 1073741824) : wrap64 ((i : Int) + 1) = ((i + 1 : Nat) : Int) := by
  rw [IntWalk.wrap64_in _ (by omega)]; omega
theorem rd61 {T : List S61} {i : Nat} (h : i < T.length) : rd_T61 T (i : Int) = T[i] := by simp [rd_T61, h]
theorem rd45 {T : List S45} {i : Nat} (h : i < T.length) : rd_T45 T (i : Int) = T[i] := by simp [rd_T45, h]
theorem toList_inj {a b : ByteArray} : a.toList = b.toList ↔ key a = key b := by
  rw [ByteArray.toList_eq, ByteArray.toList_eq]; rfl

theorem names_l0 (T : List S61) (hT : T.length < 1073741824) : ∀ (n i : Nat) (acc : List ByteArray), T.length - i ≤ n → i ≤ T.length → acc.length ≤ i → brokerref36_Names.l0 (n + 1) acc i T = some (acc ++ (T.drop i).map S61.f0)
  | n, i, acc, hn, hi, ha => by
    unfold brokerref36_Names.l0
    by_cases h : i < T.length
    · obtain ⟨m, rfl⟩ : ∃ m, n = m + 1 := ⟨n - 1, by omega⟩
      rw [if_pos (by omega), if_pos (by omega), if_pos (by omega), rd61 h, wrap1 (by omega), names_l0 T hT m (i + 1) _ (by omega) (by omega) (by simp; omega)]
      rw [List.drop_eq_getElem_cons h, List.map_cons, List.append_assoc]
      rfl
    · rw [if_neg (by omega), List.drop_eq_nil_of_le (by omega)]
      simp
theorem names_f (T : List S61) (hT : T.length < 1073741824) : brokerref36_Names.f (T.length + 1) T = some (T.map S61.f0) := by
  unfold brokerref36_Names.f
  have := names_l0 T hT T.length 0 [] (by omega) (by omega) (by simp)
  simpa using this

/-- The place of a file, -1 if there is none. -/
def atI (T : List S61) (s : ByteArray) : Int := match T.findIdx? (fun g => key g.f0 == key s) with | some i => (i : Int) | none => -1
theorem at_l0 (T : List S61) (s : ByteArray) (hT : T.length < 1073741824) : ∀ (n i : Nat), T.length - i ≤ n → i ≤ T.length →
    brokerref36_At.l0 (n + 1) s i T = some (match (T.drop i).findIdx? (fun g => key g.f0 == key s) with | some j => ((i + j : Nat) : Int) | none => -1)
  | n, i, hn, hi => by
    unfold brokerref36_At.l0
    by_cases h : i < T.length
    · obtain ⟨m, rfl⟩ : ∃ m, n = m + 1 := ⟨n - 1, by omega⟩
      rw [if_pos (by omega), if_pos (by omega), rd61 h, List.drop_eq_getElem_cons h, List.findIdx?_cons]
      by_cases hk : key T[i].f0 = key s
      · rw [if_pos (toList_inj.2 hk), if_pos (by simpa using hk)]
        rfl
      · rw [if_neg (fun e => hk (toList_inj.1 e)), if_neg (by simpa using hk), wrap1 (by omega), at_l0 T s hT m (i + 1) (by omega) (by omega)]
        cases (T.drop (i + 1)).findIdx? fun g => key g.f0 == key s with
        | none => rfl
        | some j => simp only [Option.map_some]; congr 2; omega
    · rw [if_neg (by omega), List.drop_eq_nil_of_le (by omega)]
      rfl
theorem at_f (T : List S61) (s : ByteArray) (hT : T.length < 1073741824) : brokerref36_At.f (T.length + 1) T s = some (atI T s) := by
  unfold brokerref36_At.f
  have := at_l0 T s hT T.length 0 (by omega) (by omega)
  rw [show ((0 : Nat) : Int) = 0 from rfl] at this
  rw [this, List.drop_zero]
  unfold atI
  cases T.findIdx? (fun g => key g.f0 == key s) <;> simp

theorem without_l0 (T : List S61) (s : ByteArray) (hT : T.length < 1073741824) : ∀ (n i : Nat) (acc : List S61), T.length - i ≤ n → i ≤ T.length → acc.length ≤ i →
    brokerref36_Without.l0 (n + 1) s acc i T = some (acc ++ del (key s) (T.drop i))
  | n, i, acc, hn, hi, ha => by
    unfold brokerref36_Without.l0
    by_cases h : i < T.length
    · obtain ⟨m, rfl⟩ : ∃ m, n = m + 1 := ⟨n - 1, by omega⟩
      rw [if_pos (by omega), if_pos (by omega), rd61 h, List.drop_eq_getElem_cons h]
      by_cases hk : key T[i].f0 = key s
      · rw [if_pos (toList_inj.2 hk), wrap1 (by omega), without_l0 T s hT m (i + 1) acc (by omega) (by omega) (by omega)]
        unfold del
        rw [List.filter_cons_of_neg (by simp [hk])]
      · rw [if_neg (fun e => hk (toList_inj.1 e)), if_pos (by omega), wrap1 (by omega), without_l0 T s hT m (i + 1) _ (by omega) (by omega) (by simp; omega)]
        unfold del
        rw [List.filter_cons_of_pos (by simp [hk])]
        simp
    · rw [if_neg (by omega), List.drop_eq_nil_of_le (by omega)]
      simp [del]
theorem without_f (T : List S61) (s : ByteArray) (hT : T.length < 1073741824) : brokerref36_Without.f (T.length + 1) T s = some (del (key s) T) := by
  unfold brokerref36_Without.f
  have := without_l0 T s hT T.length 0 [] (by omega) (by omega) (by simp)
  simpa using this

/-! ### names -/
theorem bt_nat {s : ByteArray} {i : Nat} (h : i < s.size) : bt s (i : Int) = ((s[i]'h).toNat : Int) := by
  have := bt_at s (i : Int) (by simpa using h)
  simpa using this.symm
theorem lower_f (n : Nat) : brokerref01_lower.f (n : Int) = some (decide (97 ≤ n ∧ n ≤ 122)) := by
  unfold brokerref01_lower.f
  split
  · congr 1; rw [decide_eq_decide]; omega
  · congr 1; symm; rw [decide_eq_false_iff_not]; omega
theorem digit_f (n : Nat) : brokerref01_digit.f (n : Int) = some (decide (48 ≤ n ∧ n ≤ 57)) := by
  unfold brokerref01_digit.f
  split
  · congr 1; rw [decide_eq_decide]; omega
  · congr 1; symm; rw [decide_eq_false_iff_not]; omega
theorem name_end (s : ByteArray) (n i : Nat) (hi : i ≤ s.size) (h : ¬ i < s.size) : brokerref01_Name.l0 (n + 1) s i = some (decide (∀ j (h : j < s.size), i ≤ j → okc j (s[j]'h).toNat)) := by
  unfold brokerref01_Name.l0
  rw [if_neg (by omega)]
  refine congrArg some ?_
  symm
  rw [decide_eq_true_eq]
  intro j hj hij
  omega
theorem name_l0 (s : ByteArray) (hs : s.size < 1073741824) (h0 : ∀ h : 0 < s.size, okc 0 (s[0]'h).toNat) (n : Nat) : ∀ (i : Nat), s.size - i ≤ n → i ≤ s.size →
    brokerref01_Name.l0 (n + 1) s i = some (decide (∀ j (h : j < s.size), i ≤ j → okc j (s[j]'h).toNat)) := by
  induction n with
  | zero => exact fun i hn hi => name_end s 0 i hi (by omega)
  | succ m ih0 =>
    intro i hn hi
    by_cases h : i < s.size
    · have ih := ih0 (i + 1) (by omega) (by omega)
      clear ih0
      have hgo : okc i (s[i]'h).toNat → brokerref01_Name.l0 (m + 1) s (wrap64 ((i : Int) + 1)) = some (decide (∀ j (h : j < s.size), i ≤ j → okc j (s[j]'h).toNat)) := fun hok => by
        rw [wrap1 (by omega), ih]
        refine congrArg some ?_
        rw [decide_eq_decide]
        constructor
        · intro hall j hj hij
          by_cases e : j = i
          · subst e; exact hok
          · exact hall j hj (by omega)
        · intro hall j hj hij
          exact hall j hj (by omega)
      have hbad : ¬ okc i (s[i]'h).toNat → some false = some (decide (∀ j (h : j < s.size), i ≤ j → okc j (s[j]'h).toNat)) := fun hno => by
        refine congrArg some ?_
        symm
        rw [decide_eq_false_iff_not]
        exact fun hall => hno (hall i h (Nat.le_refl _))
      generalize (some (decide (∀ j (h : j < s.size), i ≤ j → okc j (s[j]'h).toNat))) = R at hgo hbad ⊢
      have hne : ¬ (97 ≤ (s[i]'h).toNat ∧ (s[i]'h).toNat ≤ 122) → i ≠ 0 := by
        rintro c1 rfl
        have := h0 h
        unfold okc at this
        omega
      have hb := bt_nat h
      generalize (s[i]'h).toNat = q at hgo hbad hne hb
      clear ih h0
      unfold brokerref01_Name.l0
      rw [if_pos (by omega), if_pos (by omega), hb, lower_f, digit_f]
      simp only [Option.bind_some]
      by_cases c1 : 97 ≤ q ∧ q ≤ 122
      · rw [if_pos (by rw [decide_eq_true_eq]; exact c1)]
        exact hgo (.inl c1)
      · rw [if_neg (by rw [decide_eq_true_eq]; exact c1)]
        by_cases c2 : 48 ≤ q ∧ q ≤ 57
        · rw [if_pos (by rw [decide_eq_true_eq]; exact c2)]
          exact hgo (.inr ⟨hne c1, .inr c2⟩)
        · rw [if_neg (by rw [decide_eq_true_eq]; exact c2)]
          by_cases c3 : q = 45
          · rw [if_pos (by omega)]
            exact hgo (.inr ⟨hne c1, .inl c3⟩)
          · rw [if_neg (by omega)]
            exact hbad (by unfold okc; omega)
    · exact name_end s (m + 1) i hi h
theorem name_j0 (k : Nat) (s : ByteArray) (b : Bool) : brokerref01_Name.j0 (k + 1) s b = if b = true then some false else brokerref01_Name.l0 k s 0 := by
  unfold brokerref01_Name.j0
  rfl
theorem name_f (s : ByteArray) (hs : s.size < 1073741824) : brokerref01_Name.f (s.size + 2) s = some (nameB s) := by
  unfold brokerref01_Name.f
  by_cases h1 : s.size < 1
  · rw [if_pos (by omega), show nameB s = false from nb_false (fun h => by have := h.1; omega), name_j0, if_pos rfl]
  rw [if_neg (by omega)]
  by_cases h2 : 16 < s.size
  · rw [if_pos (by omega), show nameB s = false from nb_false (fun h => by have := h.2.1; omega), name_j0, if_pos rfl]
  rw [if_neg (by omega), if_pos (by omega), show (0 : Int) = ((0 : Nat) : Int) from rfl, bt_nat (by omega), lower_f]
  simp only [Option.bind_some]
  rw [name_j0]
  by_cases c : 97 ≤ (s[0]'(by omega)).toNat ∧ (s[0]'(by omega)).toNat ≤ 122
  · have h0 : ∀ h : 0 < s.size, okc 0 (s[0]'h).toNat := fun _ => .inl c
    rw [show decide (97 ≤ (s[0]'(by omega)).toNat ∧ (s[0]'(by omega)).toNat ≤ 122) = true from decide_eq_true c, if_neg (by decide)]
    have := name_l0 s hs h0 s.size 0 (by omega) (by omega)
    rw [show ((0 : Nat) : Int) = 0 from rfl] at this
    rw [this]
    refine congrArg some ?_
    unfold nameB
    rw [decide_eq_decide]
    constructor
    · intro h; exact ⟨by omega, by omega, fun i hi => h i hi (Nat.zero_le _)⟩
    · intro h j hj _; exact h.2.2 j hj
  · rw [show decide (97 ≤ (s[0]'(by omega)).toNat ∧ (s[0]'(by omega)).toNat ≤ 122) = false from decide_eq_false c, if_pos (by decide)]
    refine congrArg some ?_
    symm
    exact nb_false (fun h => by
      have := h.2.2 0 (by omega)
      unfold okc at this
      omega)

/-! ### short -/
def lightAct (x : S45) : Bool := decide (x.f3.length ≤ 400) && decide (x.f1.size ≤ 400) && decide (x.f2.size ≤ 400) && decide (x.f4.length ≤ 20)
def shortB (l : List S45) : Bool := decide (l.length ≤ 40) && l.all lightAct
theorem short_l0 (T : List S45) (hT : T.length < 1073741824) : ∀ (n i : Nat), T.length - i ≤ n → i ≤ T.length → brokerlaw36_short.l0 (n + 1) T i = some ((T.drop i).all lightAct)
  | n, i, hn, hi => by
    unfold brokerlaw36_short.l0
    by_cases h : i < T.length
    · obtain ⟨m, rfl⟩ : ∃ m, n = m + 1 := ⟨n - 1, by omega⟩
      rw [if_pos (by omega), if_pos (by omega), rd45 h, List.drop_eq_getElem_cons h, List.all_cons, wrap1 (by omega), short_l0 T hT m (i + 1) (by omega) (by omega)]
      unfold lightAct
      by_cases c1 : T[i].f3.length ≤ 400
      · by_cases c2 : T[i].f1.size ≤ 400
        · by_cases c3 : T[i].f2.size ≤ 400
          · by_cases c4 : T[i].f4.length ≤ 20
            · rw [if_neg (by omega), if_neg (by omega), if_neg (by omega), if_neg (by omega)]
              simp [c1, c2, c3, c4]
            · rw [if_neg (by omega), if_neg (by omega), if_neg (by omega), if_pos (by omega)]
              simp [c4]
          · rw [if_neg (by omega), if_neg (by omega), if_pos (by omega)]
            simp [c3]
        · rw [if_neg (by omega), if_pos (by omega)]
          simp [c2]
      · rw [if_pos (by omega)]
        simp [c1]
    · rw [if_neg (by omega), List.drop_eq_nil_of_le (by omega)]
      rfl
theorem short_f (T : List S45) : brokerlaw36_short.f (T.length + 1) T = some (shortB T) := by
  unfold brokerlaw36_short.f shortB
  by_cases h : T.length ≤ 40
  · rw [if_neg (by omega)]
    have := short_l0 T (by omega) T.length 0 (by omega) (by omega)
    rw [show ((0 : Nat) : Int) = 0 from rfl] at this
    rw [this]
    simp [h]
  · rw [if_pos (by omega)]
    simp [h]
end Go.Proofs.Ytahifafnfjcfpaa.D
