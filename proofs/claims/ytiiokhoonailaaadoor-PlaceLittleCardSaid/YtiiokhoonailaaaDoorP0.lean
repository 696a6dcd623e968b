/- What the printed functions compute, in plain words: Contains, Equal, both loads, few, without, Reverse, both sums. Conditions: as each theorem says. -/
import Derived.Test.YtiiokhoonailaaaDoorR
import Derived.Laws.BitsAllLaws
namespace Go.Proofs.YtiiokhoonailaaaDoor.D
open Go.RowKit Go.Proofs.YtiiokhoonailaaaDoorW.PrintWords
open Go.Proofs.YtiiokhoonailaaaDoor.R

theorem wrap1 {i : Nat} (h : i < 9223372036854775807) : wrap64 ((i : Int) + 1) = ((i + 1 : Nat) : Int) := by
  rw [IntWalk.wrap64_in _ (by omega)]; omega
theorem rdI {l : List Int} {i : Nat} (h : i < l.length) : rd l (i : Int) = l[i] := by simp [rd, h]
theorem rdT {l : List S26} {i : Nat} (h : i < l.length) : rd_T26 l (i : Int) = l[i] := by simp [rd_T26, h]
theorem rdL {l : List (List Int)} {i : Nat} (h : i < l.length) : rd_L2 l (i : Int) = l[i] := by simp [rd_L2, h]
theorem rdS {l : List ByteArray} {i : Nat} (h : i < l.length) : rdOf ByteArray.empty l (i : Int) = l[i] := by simp [rdOf, h]

theorem index_l0 (l : List Int) (x : Int) (hl : l.length ≤ 9223372036854775807) : ∀ (n i : Nat), l.length - i ≤ n → i ≤ l.length → ∃ r, slices_Index_int_int.l0 (n + 1) l x l.length i = some r ∧ (0 ≤ r ↔ x ∈ l.drop i)
  | n, i, hn, hi => by
    unfold slices_Index_int_int.l0
    by_cases h : i < l.length
    · rw [if_pos (by omega), if_pos (by omega), if_pos (by omega), rdI h, List.drop_eq_getElem_cons h]
      by_cases e : x = l[i]
      · rw [if_pos e]
        exact ⟨_, rfl, ⟨fun _ => by rw [e]; exact List.mem_cons_self, fun _ => by omega⟩⟩
      · obtain ⟨m, rfl⟩ : ∃ m, n = m + 1 := ⟨n - 1, by omega⟩
        rw [if_neg e, wrap1 (by omega)]
        obtain ⟨r, h1, h2⟩ := index_l0 l x hl m (i + 1) (by omega) (by omega)
        exact ⟨r, h1, by rw [h2, List.mem_cons]; exact ⟨.inr, fun h => h.resolve_left e⟩⟩
    · rw [if_neg (by omega), List.drop_eq_nil_of_le (by omega)]
      exact ⟨-1, rfl, by simp⟩
theorem contains_f (l : List Int) (x : Int) (hl : l.length ≤ 9223372036854775807) {k : Nat} (hk : l.length < k) : slices_Contains_int_int.f k l x = some (decide (x ∈ l)) := by
  obtain ⟨n, rfl⟩ : ∃ n, k = n + 1 := ⟨k - 1, by omega⟩
  obtain ⟨r, h1, h2⟩ := index_l0 l x hl n 0 (by omega) (by omega)
  unfold slices_Contains_int_int.f slices_Index_int_int.f
  rw [show (0 : Int) = ((0 : Nat) : Int) from rfl, h1, Option.bind_some]
  refine congrArg some (decide_eq_decide.2 ?_)
  simpa using h2

theorem equal_l0 (l m : List Int) (hl : l.length ≤ 9223372036854775807) (he : l.length = m.length) : ∀ (n i : Nat), l.length - i ≤ n → i ≤ l.length → slices_Equal_int_int.l0 (n + 1) l m l.length i = some (decide (l.drop i = m.drop i))
  | n, i, hn, hi => by
    unfold slices_Equal_int_int.l0
    by_cases h : i < l.length
    · have h' : i < m.length := by omega
      rw [if_pos (by omega), if_pos (by omega), if_pos (by omega), if_pos (by omega), rdI h, rdI h', List.drop_eq_getElem_cons h, List.drop_eq_getElem_cons h']
      by_cases e : l[i] = m[i]
      · obtain ⟨q, rfl⟩ : ∃ q, n = q + 1 := ⟨n - 1, by omega⟩
        rw [if_pos e, wrap1 (by omega), equal_l0 l m hl he q (i + 1) (by omega) (by omega)]
        refine congrArg some (decide_eq_decide.2 ?_)
        rw [List.cons_eq_cons]
        exact ⟨fun h => ⟨e, h⟩, fun h => h.2⟩
      · rw [if_neg e]
        refine congrArg some ?_
        symm
        rw [decide_eq_false_iff_not, List.cons_eq_cons]
        exact fun h => e h.1
    · rw [if_neg (by omega), List.drop_eq_nil_of_le (by omega), List.drop_eq_nil_of_le (by omega)]
      simp
theorem equal_f (l m : List Int) (hl : l.length ≤ 9223372036854775807) : slices_Equal_int_int.f (l.length + 1) l m = some (decide (l = m)) := by
  unfold slices_Equal_int_int.f
  by_cases h : l.length = m.length
  · rw [if_pos (by omega), show (0 : Int) = ((0 : Nat) : Int) from rfl, equal_l0 l m hl h l.length 0 (by omega) (by omega)]
    simp
  · rw [if_neg (by omega)]
    refine congrArg some ?_
    symm
    rw [decide_eq_false_iff_not]
    exact fun e => h (by rw [e])

theorem equals_l0 (l m : List ByteArray) (hl : l.length ≤ 9223372036854775807) (he : l.length = m.length) : ∀ (n i : Nat), l.length - i ≤ n → i ≤ l.length → l.drop i = m.drop i → slices_Equal_string_string.l0 (n + 1) l m l.length i = some true
  | n, i, hn, hi, e => by
    unfold slices_Equal_string_string.l0
    by_cases h : i < l.length
    · have h' : i < m.length := by omega
      rw [List.drop_eq_getElem_cons h, List.drop_eq_getElem_cons h'] at e
      injection e with e1 e2
      obtain ⟨q, rfl⟩ : ∃ q, n = q + 1 := ⟨n - 1, by omega⟩
      rw [if_pos (by omega), if_pos (by omega), if_pos (by omega), if_pos (by omega), rdS h, rdS h', e1]
      simp only [if_true]
      rw [wrap1 (by omega), equals_l0 l m hl he q (i + 1) (by omega) (by omega) e2]
    · rw [if_neg (by omega)]
theorem equals_f (l : List ByteArray) (hl : l.length ≤ 9223372036854775807) : slices_Equal_string_string.f (l.length + 1) l l = some true := by
  unfold slices_Equal_string_string.f
  rw [if_pos rfl, show (0 : Int) = ((0 : Nat) : Int) from rfl, equals_l0 l l hl rfl l.length 0 (by omega) (by omega) rfl]

/-! ### loads -/
def loadOf (T : List S26) (x : Int) : Nat := (T.filter fun p => decide (x ∈ p.f1)).length
def loads (T : List S26) (nodes : List Int) : List Int := nodes.map fun x => (loadOf T x : Int)
theorem loadOf_le (T : List S26) (x : Int) : loadOf T x ≤ T.length := List.length_filter_le _ _
theorem load_more (T : List S26) (x : Int) {j : Nat} (h : j < T.length) : loadOf (T.take (j + 1)) x = loadOf (T.take j) x + (if x ∈ T[j].f1 then 1 else 0) := by
  unfold loadOf
  rw [List.take_succ_eq_append_getElem h, List.filter_append, List.length_append]
  by_cases e : x ∈ T[j].f1
  · rw [if_pos e]; simp [e]
  · rw [if_neg e]; simp [e]
/-- How many rounds are enough. -/
def need (T : List S26) (nodes : List Int) (i : Nat) : Nat := (nodes.length - i) * (T.length + 3) + 64
theorem need_step (T : List S26) {nodes : List Int} {i : Nat} (h : i < nodes.length) : need T nodes i = need T nodes (i + 1) + T.length + 3 := by
  unfold need
  obtain ⟨q, hq⟩ : ∃ q, nodes.length - i = q + 1 := ⟨nodes.length - i - 1, by omega⟩
  rw [hq, show nodes.length - (i + 1) = q by omega, Nat.add_mul]
  omega

theorem rload_l1 (T : List S26) (nodes : List Int) (hT : T.length ≤ 40) (hp : ∀ p ∈ T, p.f1.length ≤ 60) (acc : List Int) (x : Int) (i : Nat) : ∀ (d j k : Nat), T.length - j = d → j ≤ T.length → need T nodes (i + 1) + d + 2 ≤ k →
    ∃ k', need T nodes (i + 1) + 1 ≤ k' ∧ brokerref42_Load.l1 k T acc x (loadOf (T.take j) x) nodes nodes.length i T T.length j = if acc.length < 17592186044416 then brokerref42_Load.l0 k' T (acc ++ [(loadOf T x : Int)]) nodes nodes.length (wrap64 ((i : Int) + 1)) else none
  | d, j, k, hd, hj, hk => by
    obtain ⟨k, rfl⟩ : ∃ m, k = m + 1 := ⟨k - 1, by omega⟩
    unfold brokerref42_Load.l1
    by_cases h : j < T.length
    · have hlp := hp T[j] (List.getElem_mem h)
      have hn : 64 ≤ need T nodes (i + 1) := by unfold need; omega
      rw [if_pos (by omega), if_pos (by omega), if_pos (by omega), rdT h, contains_f _ _ (by omega) (by omega), Option.bind_some]
      have hm := load_more T x h
      have hle := loadOf_le (T.take j) x
      have hlt : (T.take j).length ≤ 40 := by rw [List.length_take]; omega
      obtain ⟨d', rfl⟩ : ∃ m, d = m + 1 := ⟨d - 1, by omega⟩
      obtain ⟨k', hk', ih⟩ := rload_l1 T nodes hT hp acc x i d' (j + 1) k (by omega) (by omega) (by omega)
      refine ⟨k', hk', ?_⟩
      by_cases e : x ∈ T[j].f1
      · rw [if_pos e] at hm
        rw [if_pos (by simpa using e), wrap1 (by omega), wrap1 (by omega), ← hm]
        exact ih
      · rw [if_neg e] at hm
        rw [if_neg (by simpa using e), wrap1 (by omega)]
        rw [hm] at ih
        exact ih
    · rw [if_neg (by omega), List.take_of_length_le (by omega)]
      exact ⟨k, by omega, rfl⟩
theorem rload_l0 (T : List S26) (nodes : List Int) (hT : T.length ≤ 40) (hp : ∀ p ∈ T, p.f1.length ≤ 60) (hn : nodes.length ≤ 60) : ∀ (d i k : Nat), nodes.length - i = d → i ≤ nodes.length → need T nodes i + 1 ≤ k →
    brokerref42_Load.l0 k T (loads T (nodes.take i)) nodes nodes.length i = some (loads T nodes)
  | d, i, k, hd, hi, hk => by
    obtain ⟨k, rfl⟩ : ∃ m, k = m + 1 := ⟨k - 1, by omega⟩
    unfold brokerref42_Load.l0
    by_cases h : i < nodes.length
    · have hs := need_step T h
      rw [if_pos (by omega), if_pos (by omega), if_pos (by omega), rdI h]
      obtain ⟨k', hk', e⟩ := rload_l1 T nodes hT hp (loads T (nodes.take i)) nodes[i] i T.length 0 k (by omega) (by omega) (by omega)
      rw [show loadOf (T.take 0) nodes[i] = 0 by simp [loadOf]] at e
      rw [show ((0 : Nat) : Int) = 0 from rfl] at e
      rw [e, if_pos (by simp [loads]; omega), wrap1 (by omega)]
      have e2 : loads T (nodes.take i) ++ [(loadOf T nodes[i] : Int)] = loads T (nodes.take (i + 1)) := by
        unfold loads
        rw [List.take_succ_eq_append_getElem h, List.map_append]
        rfl
      rw [e2]
      obtain ⟨d', rfl⟩ : ∃ m, d = m + 1 := ⟨d - 1, by omega⟩
      exact rload_l0 T nodes hT hp hn d' (i + 1) k' (by omega) (by omega) hk'
    · rw [if_neg (by omega), List.take_of_length_le (by omega)]
theorem rload_f (T : List S26) (nodes : List Int) (hT : T.length ≤ 40) (hp : ∀ p ∈ T, p.f1.length ≤ 60) (hn : nodes.length ≤ 60) : brokerref42_Load.f (need T nodes 0 + 1) T nodes = some (loads T nodes) := by
  unfold brokerref42_Load.f
  exact rload_l0 T nodes hT hp hn nodes.length 0 _ (by omega) (by omega) (Nat.le_refl _)

/-- The list that Load fills: the first ones are done. -/
def filled (T : List S26) (nodes : List Int) (i : Nat) : List Int := loads T (nodes.take i) ++ List.replicate (nodes.length - i) 0
theorem filled_length (T : List S26) (nodes : List Int) {i : Nat} (h : i ≤ nodes.length) : (filled T nodes i).length = nodes.length := by
  simp [filled, loads]; omega
theorem filled_set (T : List S26) (nodes : List Int) {i : Nat} (h : i < nodes.length) : (filled T nodes i).set i (loadOf T nodes[i] : Int) = filled T nodes (i + 1) := by
  unfold filled
  have hl : (loads T (nodes.take i)).length = i := by simp [loads]; omega
  obtain ⟨q, hq⟩ : ∃ q, nodes.length - i = q + 1 := ⟨nodes.length - i - 1, by omega⟩
  rw [hq, show nodes.length - (i + 1) = q by omega, List.replicate_succ, List.set_append_right _ _ (by omega), hl, Nat.sub_self, List.set_cons_zero]
  unfold loads
  rw [List.take_succ_eq_append_getElem h, List.map_append, List.append_assoc]
  rfl
theorem set_get {l : List Int} {i : Nat} (v : Int) (h : i < l.length) : rd (l.set i v) (i : Int) = v := by simp [rd, h]

theorem pload_l1 (T : List S26) (nodes : List Int) (hT : T.length ≤ 40) (hp : ∀ p ∈ T, p.f1.length ≤ 60) (i : Nat) (hi : i < nodes.length) : ∀ (d j k : Nat), T.length - j = d → j ≤ T.length → need T nodes (i + 1) + d + 2 ≤ k →
    ∃ k', need T nodes (i + 1) + 1 ≤ k' ∧ place_Load.l1 k T ((filled T nodes i).set i (loadOf (T.take j) nodes[i] : Int)) i nodes[i] nodes nodes.length i T T.length j = place_Load.l0 k' T (filled T nodes (i + 1)) nodes nodes.length (wrap64 ((i : Int) + 1))
  | d, j, k, hd, hj, hk => by
    obtain ⟨k, rfl⟩ : ∃ m, k = m + 1 := ⟨k - 1, by omega⟩
    unfold place_Load.l1
    by_cases h : j < T.length
    · have hlp := hp T[j] (List.getElem_mem h)
      have hn : 64 ≤ need T nodes (i + 1) := by unfold need; omega
      rw [if_pos (by omega), if_pos (by omega), if_pos (by omega), rdT h, contains_f _ _ (by omega) (by omega), Option.bind_some]
      have hm := load_more T nodes[i] h
      have hle := loadOf_le (T.take j) nodes[i]
      have hlt : (T.take j).length ≤ 40 := by rw [List.length_take]; omega
      have hfl := filled_length T nodes (Nat.le_of_lt hi)
      obtain ⟨d', rfl⟩ : ∃ m, d = m + 1 := ⟨d - 1, by omega⟩
      obtain ⟨k', hk', ih⟩ := pload_l1 T nodes hT hp i hi d' (j + 1) k (by omega) (by omega) (by omega)
      refine ⟨k', hk', ?_⟩
      by_cases e : nodes[i] ∈ T[j].f1
      · rw [if_pos e] at hm
        rw [if_pos (by simpa using e), if_pos (by omega), if_pos (by rw [List.length_set, hfl]; omega), set_get _ (by omega), wrap1 (by omega), wrap1 (by omega), ← hm, Int.toNat_natCast, List.set_set]
        exact ih
      · rw [if_neg e] at hm
        rw [if_neg (by simpa using e), wrap1 (by omega)]
        rw [hm] at ih
        exact ih
    · rw [if_neg (by omega), List.take_of_length_le (by omega), filled_set T nodes hi]
      exact ⟨k, by omega, rfl⟩
theorem pload_l0 (T : List S26) (nodes : List Int) (hT : T.length ≤ 40) (hp : ∀ p ∈ T, p.f1.length ≤ 60) (hn : nodes.length ≤ 60) : ∀ (d i k : Nat), nodes.length - i = d → i ≤ nodes.length → need T nodes i + 1 ≤ k →
    place_Load.l0 k T (filled T nodes i) nodes nodes.length i = some (loads T nodes)
  | d, i, k, hd, hi, hk => by
    obtain ⟨k, rfl⟩ : ∃ m, k = m + 1 := ⟨k - 1, by omega⟩
    unfold place_Load.l0
    by_cases h : i < nodes.length
    · have hs := need_step T h
      rw [if_pos (by omega), if_pos (by omega), if_pos (by omega), rdI h]
      obtain ⟨k', hk', e⟩ := pload_l1 T nodes hT hp i h T.length 0 k (by omega) (by omega) (by omega)
      have e0 : (filled T nodes i).set i (loadOf (T.take 0) nodes[i] : Int) = filled T nodes i := by
        have hz : (filled T nodes i)[i]'(by rw [filled_length T nodes hi]; exact h) = 0 := by
          have hl : (loads T (nodes.take i)).length = i := by simp [loads]; omega
          unfold filled
          rw [List.getElem_append_right (by omega)]
          simp
        rw [show (loadOf (T.take 0) nodes[i] : Int) = 0 by simp [loadOf]]
        conv => lhs; rw [← hz]
        exact List.set_getElem_self _
      rw [e0] at e
      rw [show ((0 : Nat) : Int) = 0 from rfl] at e
      rw [e, wrap1 (by omega)]
      obtain ⟨d', rfl⟩ : ∃ m, d = m + 1 := ⟨d - 1, by omega⟩
      exact pload_l0 T nodes hT hp hn d' (i + 1) k' (by omega) (by omega) hk'
    · obtain rfl : i = nodes.length := by omega
      rw [if_neg (by omega)]
      unfold filled
      rw [List.take_length]
      simp
theorem pload_f (T : List S26) (nodes : List Int) (hT : T.length ≤ 40) (hp : ∀ p ∈ T, p.f1.length ≤ 60) (hn : nodes.length ≤ 60) : place_Load.f (need T nodes 0 + 1) T nodes = some (loads T nodes) := by
  unfold place_Load.f
  rw [if_pos (by omega), if_pos (by omega)]
  have := pload_l0 T nodes hT hp hn nodes.length 0 _ (by omega) (by omega) (Nat.le_refl _)
  unfold filled at this
  simpa [loads] using this

/-! ### few -/
def fewB (names : List ByteArray) (lists : List (List Int)) : Bool := (names.all fun s => decide (s.size ≤ 200)) && ((lists.all fun l => decide (l.length ≤ 60)) && decide (names.length ≤ 40))
theorem few_l1 (names : List ByteArray) (lists : List (List Int)) (hm : lists.length ≤ 9223372036854775807) : ∀ (n i : Nat), lists.length - i ≤ n → i ≤ lists.length →
    brokerlaw42_few.l1 (n + 1) names lists lists.length i = some (((lists.drop i).all fun l => decide (l.length ≤ 60)) && decide (names.length ≤ 40))
  | n, i, hn, hi => by
    unfold brokerlaw42_few.l1
    by_cases h : i < lists.length
    · rw [if_pos (by omega), if_pos (by omega), if_pos (by omega), rdL h, List.drop_eq_getElem_cons h, List.all_cons]
      by_cases e : lists[i].length ≤ 60
      · obtain ⟨q, rfl⟩ : ∃ q, n = q + 1 := ⟨n - 1, by omega⟩
        rw [if_neg (by omega), wrap1 (by omega), few_l1 names lists hm q (i + 1) (by omega) (by omega), decide_eq_true e, Bool.true_and]
      · rw [if_pos (by omega), decide_eq_false e, Bool.false_and, Bool.false_and]
    · rw [if_neg (by omega), List.drop_eq_nil_of_le (by omega), List.all_nil, Bool.true_and]
      exact congrArg some (decide_eq_decide.2 (by omega))
theorem few_l0 (names : List ByteArray) (lists : List (List Int)) (hl : names.length ≤ 9223372036854775807) (hm : lists.length ≤ 9223372036854775807) : ∀ (n i : Nat), names.length - i ≤ n → i ≤ names.length →
    brokerlaw42_few.l0 (n + lists.length + 2) names lists names names.length i = some (((names.drop i).all fun s => decide (s.size ≤ 200)) && ((lists.all fun l => decide (l.length ≤ 60)) && decide (names.length ≤ 40)))
  | n, i, hn, hi => by
    unfold brokerlaw42_few.l0
    by_cases h : i < names.length
    · rw [if_pos (by omega), if_pos (by omega), if_pos (by omega), rdS h, List.drop_eq_getElem_cons h, List.all_cons]
      by_cases e : names[i].size ≤ 200
      · obtain ⟨q, rfl⟩ : ∃ q, n = q + 1 := ⟨n - 1, by omega⟩
        rw [if_neg (by omega), wrap1 (by omega), show q + 1 + lists.length + 1 = q + lists.length + 2 by omega, few_l0 names lists hl hm q (i + 1) (by omega) (by omega), decide_eq_true e, Bool.true_and]
      · rw [if_pos (by omega), decide_eq_false e, Bool.false_and, Bool.false_and]
    · rw [if_neg (by omega), List.drop_eq_nil_of_le (by omega)]
      have := few_l1 names lists hm (n + lists.length) 0 (by omega) (by omega)
      rw [show ((0 : Nat) : Int) = 0 from rfl] at this
      rw [this]
      simp
theorem few_f (names : List ByteArray) (lists : List (List Int)) (hl : names.length ≤ 9223372036854775807) (hm : lists.length ≤ 9223372036854775807) : brokerlaw42_few.f (names.length + lists.length + 2) names lists = some (fewB names lists) := by
  unfold brokerlaw42_few.f fewB
  have := few_l0 names lists hl hm names.length 0 (by omega) (by omega)
  simpa using this

/-! ### without -/
theorem without_l0 (l : List Int) (x : Int) (hl : l.length < 1073741824) : ∀ (n i : Nat), l.length - i ≤ n → i ≤ l.length → brokerlaw42_without.l0 (n + 1) x ((l.take i).filter fun y => decide (y ≠ x)) l l.length i = some (l.filter fun y => decide (y ≠ x))
  | n, i, hn, hi => by
    unfold brokerlaw42_without.l0
    by_cases h : i < l.length
    · obtain ⟨q, rfl⟩ : ∃ q, n = q + 1 := ⟨n - 1, by omega⟩
      have ih := without_l0 l x hl q (i + 1) (by omega) (by omega)
      rw [List.take_succ_eq_append_getElem h, List.filter_append] at ih
      rw [if_pos (by omega), if_pos (by omega), if_pos (by omega), rdI h]
      by_cases e : l[i] = x
      · rw [if_pos e, wrap1 (by omega)]
        rw [List.filter_cons_of_neg (by simp [e]), List.filter_nil, List.append_nil] at ih
        exact ih
      · rw [if_neg e, if_pos, wrap1 (by omega)]
        · rw [List.filter_cons_of_pos (by simp [e]), List.filter_nil] at ih
          exact ih
        · have := List.length_filter_le (fun y => decide (y ≠ x)) (l.take i)
          rw [List.length_take] at this
          omega
    · rw [if_neg (by omega), List.take_of_length_le (by omega)]
theorem without_f (l : List Int) (x : Int) (hl : l.length < 1073741824) : brokerlaw42_without.f (l.length + 1) l x = some (l.filter fun y => decide (y ≠ x)) := by
  unfold brokerlaw42_without.f
  have := without_l0 l x hl l.length 0 (by omega) (by omega)
  simpa using this

/-! ### sums -/
def sumStep (h : Nat) (c : Int) : Nat := ((h ^^^ c.toNat) * 16777619) % 4294967296
def sumN (l : List Int) : Nat := l.foldl sumStep 2166136261
theorem sumStep_lt (h : Nat) (c : Int) : sumStep h c < 4294967296 := Nat.mod_lt _ (by decide)
theorem foldl_lt : ∀ (l : List Int) (h : Nat), h < 4294967296 → l.foldl sumStep h < 4294967296
  | [], _, h => h
  | _ :: l, _, _ => foldl_lt l _ (sumStep_lt _ _)
theorem sumN_lt (l : List Int) : sumN l < 4294967296 := foldl_lt l _ (by decide)
theorem xor_lt {a b : Nat} (ha : a < 4294967296) (hb : b < 256) : a ^^^ b < 4294967296 := Nat.xor_lt_two_pow (n := 32) ha (by omega)
theorem psum_l0 (l : List Int) (hb : ∀ x ∈ l, 0 ≤ x ∧ x < 256) (hl : l.length < 1073741824) : ∀ (n i h : Nat), l.length - i ≤ n → i ≤ l.length → h < 4294967296 → frame_Sum.l0 (n + 1) h l l.length i = some (((l.drop i).foldl sumStep h : Nat) : Int)
  | n, i, h, hn, hi, hh => by
    unfold frame_Sum.l0
    by_cases hlt : i < l.length
    · obtain ⟨q, rfl⟩ : ∃ q, n = q + 1 := ⟨n - 1, by omega⟩
      obtain ⟨b0, b1⟩ := hb l[i] (List.getElem_mem hlt)
      rw [if_pos (by omega), if_pos (by omega), if_pos (by omega), rdI hlt, wrap1 (by omega), show l[i] % 4294967296 = l[i] by omega, u32_xor _ _ (by omega) (by omega) b0 (by omega), Int.toNat_natCast]
      have e : ((h ^^^ l[i].toNat : Nat) : Int) * 16777619 % 4294967296 = ((sumStep h l[i] : Nat) : Int) := by unfold sumStep; omega
      rw [e, psum_l0 l hb hl q (i + 1) _ (by omega) (by omega) (sumStep_lt _ _), List.drop_eq_getElem_cons hlt, List.foldl_cons]
    · rw [if_neg (by omega), List.drop_eq_nil_of_le (by omega), IntWalk.wrap64_in _ (by omega)]
      rfl
theorem psum_f (l : List Int) (hb : ∀ x ∈ l, 0 ≤ x ∧ x < 256) (hl : l.length < 1073741824) : frame_Sum.f (l.length + 1) l = some ((sumN l : Nat) : Int) := by
  unfold frame_Sum.f sumN
  have := psum_l0 l hb hl l.length 0 2166136261 (by omega) (by omega) (by decide)
  simpa using this
theorem rsum_l0 (l : List Int) (hb : ∀ x ∈ l, 0 ≤ x ∧ x < 256) (hl : l.length < 1073741824) : ∀ (n i h : Nat), l.length - i ≤ n → i ≤ l.length → h < 4294967296 → brokerref04_Sum.l0 (n + 1) l h i = some (((l.drop i).foldl sumStep h : Nat) : Int)
  | n, i, h, hn, hi, hh => by
    unfold brokerref04_Sum.l0
    by_cases hlt : i < l.length
    · obtain ⟨q, rfl⟩ : ∃ q, n = q + 1 := ⟨n - 1, by omega⟩
      obtain ⟨b0, b1⟩ := hb l[i] (List.getElem_mem hlt)
      have hx := xor_lt hh (show l[i].toNat < 256 by omega)
      have w1 : IntKind.u64.wrap l[i] = l[i] := by simp [IntKind.wrap, IntKind.signed, IntKind.bits]; omega
      have w2 : IntKind.u64.wrap (((h ^^^ l[i].toNat : Nat) : Int) * 16777619) = ((h ^^^ l[i].toNat : Nat) : Int) * 16777619 := by simp [IntKind.wrap, IntKind.signed, IntKind.bits]; omega
      rw [if_pos (by omega), if_pos (by omega), rdI hlt, wrap1 (by omega), w1, u64_xor _ _ (by omega) (by omega) b0 (by omega), Int.toNat_natCast, w2, Int.tmod_eq_emod_of_nonneg (by omega)]
      have e : ((h ^^^ l[i].toNat : Nat) : Int) * 16777619 % 4294967296 = ((sumStep h l[i] : Nat) : Int) := by unfold sumStep; omega
      rw [e, rsum_l0 l hb hl q (i + 1) _ (by omega) (by omega) (sumStep_lt _ _), List.drop_eq_getElem_cons hlt, List.foldl_cons]
    · rw [if_neg (by omega), List.drop_eq_nil_of_le (by omega), IntWalk.wrap64_in _ (by omega)]
      rfl
theorem rsum_f (l : List Int) (hb : ∀ x ∈ l, 0 ≤ x ∧ x < 256) (hl : l.length < 1073741824) : brokerref04_Sum.f (l.length + 1) l = some ((sumN l : Nat) : Int) := by
  unfold brokerref04_Sum.f sumN
  have := rsum_l0 l hb hl l.length 0 2166136261 (by omega) (by omega) (by decide)
  simpa using this
end Go.Proofs.YtiiokhoonailaaaDoor.D
