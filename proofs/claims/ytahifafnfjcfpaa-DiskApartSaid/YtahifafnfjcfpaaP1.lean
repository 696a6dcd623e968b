/- On lists of files in ascending order of names the disk's operations and the reference's are one. Conditions: the order. -/
import Derived.Test.YtahifafnfjcfpaaE4
import Derived.Test.YtahifafnfjcfpaaDb
namespace Go.Proofs.Ytahifafnfjcfpaa.D
open Go.RowKit Go.Sort Go.Proofs.YtahifafnfjcfpaaW.PrintWords
open Go.Proofs.Ytahifafnfjcfpaa.R (S61 S45)

def Sorted (F : List S61) : Prop := F.Pairwise fun a b => ltF a b = true
theorem lt_irrefl (f : S61) : ltF f f = false := WideAt.bytes_irrefl _
theorem lt_trans {a b c : S61} (h : ltF a b = true) (k : ltF b c = true) : ltF a c = true := WideShapes.bytes_trans _ _ _ h k
theorem lt_ne {a b : S61} (h : ltF a b = true) : key a.f0 ≠ key b.f0 := fun e => by
  unfold ltF at h
  rw [e, WideAt.bytes_irrefl] at h
  cases h
theorem lt_total {a b : S61} (h : key a.f0 ≠ key b.f0) : ltF a b = true ∨ ltF b a = true := WideAt.bytes_total _ _ h
theorem lt_asymm {a b : S61} (h : ltF a b = true) : ltF b a = false := by
  cases k : ltF b a with
  | false => rfl
  | true =>
    have := lt_trans h k
    rw [lt_irrefl] at this
    cases this
theorem lt_key {a a' b b' : S61} (h : key a.f0 = key a'.f0) (k : key b.f0 = key b'.f0) : ltF a b = ltF a' b' := by unfold ltF; rw [h, k]

theorem Sorted.del {F : List S61} (h : Sorted F) (n : List UInt8) : Sorted (del n F) := List.Pairwise.filter _ h
theorem mem_del {n : List UInt8} {F : List S61} {g : S61} (h : g ∈ del n F) : g ∈ F ∧ key g.f0 ≠ n := by
  unfold D.del at h
  have := List.mem_filter.1 h
  exact ⟨this.1, by simpa using this.2⟩
theorem mem_ins {f g : S61} : ∀ {F : List S61}, g ∈ ins f F → g = f ∨ g ∈ F
  | [], h => by simpa [ins] using h
  | y :: r, h => by
    unfold ins at h
    split at h
    · simpa using h
    · rcases List.mem_cons.1 h with rfl | h
      · exact .inr (by simp)
      · rcases mem_ins h with h | h
        · exact .inl h
        · exact .inr (by simp [h])
theorem Sorted.ins {f : S61} : ∀ {F : List S61}, Sorted F → (∀ g ∈ F, key g.f0 ≠ key f.f0) → Sorted (ins f F)
  | [], _, _ => by simp [D.ins, Sorted]
  | y :: r, h, hne => by
    obtain ⟨h1, h2⟩ := List.pairwise_cons.1 h
    unfold D.ins
    split
    · rename_i hb
      refine List.pairwise_cons.2 ⟨fun q hq => ?_, h⟩
      rcases List.mem_cons.1 hq with rfl | hq
      · exact hb
      · exact lt_trans hb (h1 q hq)
    · rename_i hb
      have hyf : ltF y f = true := by
        rcases lt_total (hne y (by simp)) with h' | h'
        · exact h'
        · exact absurd h' hb
      refine List.pairwise_cons.2 ⟨fun q hq => ?_, Sorted.ins h2 (fun g hg => hne g (by simp [hg]))⟩
      rcases mem_ins hq with rfl | hq
      · exact hyf
      · exact h1 q hq
theorem Sorted.put {F : List S61} (h : Sorted F) (f : S61) : Sorted (put f F) := (h.del _).ins fun _ hg => (mem_del hg).2

theorem ins_eq {f : S61} : ∀ {U : List S61}, Sorted U → (∀ g ∈ U, key g.f0 ≠ key f.f0) → ins f U = U.filter (fun g => ltF g f) ++ [f] ++ U.filter (fun g => ltF f g)
  | [], _, _ => rfl
  | y :: r, h, hne => by
    obtain ⟨h1, h2⟩ := List.pairwise_cons.1 h
    unfold ins
    split
    · rename_i hb
      have hb' : ltF f y = true := hb
      have e1 : (y :: r).filter (fun g => ltF g f) = [] := by
        rw [List.filter_eq_nil_iff]
        intro g hg
        rcases List.mem_cons.1 hg with rfl | hg
        · rw [lt_asymm hb']; decide
        · rw [lt_asymm (lt_trans hb' (h1 g hg))]; decide
      have e2 : (y :: r).filter (fun g => ltF f g) = y :: r := by
        rw [List.filter_eq_self]
        intro g hg
        rcases List.mem_cons.1 hg with rfl | hg
        · exact hb'
        · exact lt_trans hb' (h1 g hg)
      rw [e1, e2]
      rfl
    · rename_i hb
      have hyf : ltF y f = true := by
        rcases lt_total (hne y (by simp)) with h' | h'
        · exact h'
        · exact absurd h' hb
      rw [ins_eq h2 (fun g hg => hne g (by simp [hg]))]
      rw [List.filter_cons_of_pos (p := fun g => ltF g f) hyf, List.filter_cons_of_neg (p := fun g => ltF f g) (by rw [lt_asymm hyf]; decide)]
      rfl
theorem with_put {F : List S61} (h : Sorted F) (f : S61) : refWith F f = put f F := (ins_eq (h.del _) fun _ hg => (mem_del hg).2).symm

theorem upd_none {f : S61} {F : List S61} (h : ∀ g ∈ F, key g.f0 ≠ key f.f0) : upd f F = F := by
  unfold upd
  conv => rhs; rw [← List.map_id F]
  refine List.map_congr_left fun g hg => ?_
  rw [if_neg (h g hg)]; rfl
theorem del_none {n : List UInt8} {F : List S61} (h : ∀ g ∈ F, key g.f0 ≠ n) : del n F = F := by
  unfold del
  rw [List.filter_eq_self]
  intro g hg
  simpa using h g hg
theorem upd_put {f : S61} : ∀ {F : List S61}, Sorted F → (∃ g ∈ F, key g.f0 = key f.f0) → upd f F = put f F
  | [], _, ⟨_, h, _⟩ => by cases h
  | y :: r, h, hex => by
    obtain ⟨h1, h2⟩ := List.pairwise_cons.1 h
    by_cases hy : key y.f0 = key f.f0
    · have hr : ∀ g ∈ r, key g.f0 ≠ key f.f0 := fun g hg e => lt_ne (h1 g hg) (hy.trans e.symm)
      have e1 : upd f (y :: r) = f :: r := by
        have := upd_none hr
        unfold upd at this ⊢
        rw [List.map_cons, this, if_pos hy]
      have e2 : del (key f.f0) (y :: r) = r := by
        have := del_none hr
        unfold del at this ⊢
        rw [List.filter_cons_of_neg (by simp [hy]), this]
      rw [e1]
      unfold put
      rw [e2]
      cases r with
      | nil => rfl
      | cons z s =>
        have : ltF f z = true := by
          have := h1 z (by simp)
          rwa [lt_key hy rfl] at this
        unfold ins
        rw [if_pos (show bytesBefore (key f.f0) (key z.f0) = true from this)]
    · obtain ⟨g, hg, hk⟩ := hex
      have hgr : g ∈ r := by
        rcases List.mem_cons.1 hg with rfl | hg
        · exact absurd hk hy
        · exact hg
      have hyf : ltF y f = true := by
        have := h1 g hgr
        rwa [lt_key rfl hk] at this
      have ih := upd_put h2 ⟨g, hgr, hk⟩
      have e1 : upd f (y :: r) = y :: upd f r := by
        unfold upd
        rw [List.map_cons, if_neg hy]
      have e2 : del (key f.f0) (y :: r) = y :: del (key f.f0) r := by
        unfold del
        rw [List.filter_cons_of_pos (by simp [hy])]
      rw [e1, ih]
      unfold put
      rw [e2]
      conv => rhs; unfold ins
      have hlt : bytesBefore (key f.f0) (key y.f0) = false := lt_asymm hyf
      rw [if_neg (by rw [hlt]; decide)]
theorem Sorted.upd {F : List S61} (h : Sorted F) (f : S61) : Sorted (upd f F) := by
  unfold D.upd Sorted
  rw [List.pairwise_map]
  refine h.imp fun {a b} hab => ?_
  have ha : key (if key a.f0 = key f.f0 then f else a).f0 = key a.f0 := by split <;> simp_all
  have hb : key (if key b.f0 = key f.f0 then f else b).f0 = key b.f0 := by split <;> simp_all
  rw [lt_key ha hb]
  exact hab

/-! ### what is found -/
theorem find_key {F : List S61} {n : List UInt8} {f : S61} (h : find F n = some f) : f ∈ F ∧ key f.f0 = n := by
  unfold find at h
  exact ⟨List.mem_of_find?_eq_some h, by simpa using List.find?_some h⟩

/-! ### the operations -/
theorem append_eq {F : List S61} (h : Sorted F) (s : ByteArray) (l : List Int) : refAppend F s l = dAppend F s l := by
  unfold refAppend dAppend fileOf
  cases hf : find F (key s) with
  | none => simp only [Option.getD_none, with_put h]
  | some f =>
    have : f.f0 = s := key_inj (find_key hf).2
    simp only [Option.getD_some, with_put h, this]
theorem sync_eq {F : List S61} (h : Sorted F) (s : ByteArray) : refSync F s = dSync F s := by
  unfold refSync dSync
  cases hf : find F (key s) with
  | none => rfl
  | some f =>
    simp only [with_put h]
    rw [upd_put (f := ⟨f.f0, f.f1, f.f1.size⟩) h ⟨f, (find_key hf).1, rfl⟩]
theorem rename_eq {F : List S61} (h : Sorted F) (s t : ByteArray) : refRename F s t = dRename F s t := by
  unfold refRename dRename
  cases hf : find F (key s) with
  | none => rfl
  | some f => simp only [with_put (h.del _)]
theorem remove_eq (F : List S61) (s : ByteArray) : refRemove F s = dRemove F s := rfl

theorem before_lt : ∀ {a b : List UInt8}, bytesBefore a b = true → a < b
  | [], [], h => by cases h
  | [], _ :: _, _ => by simp
  | _ :: _, [], h => by cases h
  | a :: x, b :: y, h => by
    unfold bytesBefore at h
    rw [Bool.or_eq_true, Bool.and_eq_true, decide_eq_true_eq, beq_iff_eq] at h
    rw [List.cons_lt_cons_iff]
    rcases h with h | ⟨h1, h2⟩
    · exact .inl h
    · exact .inr ⟨h1, before_lt h2⟩
theorem names_eq {F : List S61} (h : Sorted F) : namesOf F = F.map S61.f0 := by
  have hs : ((F.map fun f => key f.f0).mergeSort leB) = F.map fun f => key f.f0 := by
    refine List.mergeSort_of_pairwise ?_
    rw [List.pairwise_map]
    refine h.imp fun {a b} hab => ?_
    exact decide_eq_true (List.le_of_lt (before_lt hab))
  unfold namesOf
  rw [hs, List.map_map]
  refine List.map_congr_left fun f _ => ?_
  simp [strB, key]

/-- Crash, file after file. -/
theorem crash_from (keep : List Int) : ∀ (r p : List S61), Sorted (p ++ r) → crashLoop keep p.length (r.map S61.f0) (p ++ r) = p ++ r.mapIdx (fun i f => cutF f (crashN keep (p.length + i) f))
  | [], p, _ => by simp [crashLoop]
  | g :: r, p, h => by
    have hp : ∀ q ∈ p, key q.f0 ≠ key g.f0 := fun q hq => lt_ne ((List.pairwise_append.1 h).2.2 q hq g (by simp))
    have hr : ∀ q ∈ r, key q.f0 ≠ key g.f0 := fun q hq => fun e => lt_ne ((List.pairwise_cons.1 (List.pairwise_append.1 h).2.1).1 q hq) e.symm
    have hf : find (p ++ g :: r) (key g.f0) = some g := by
      unfold find
      rw [List.find?_append]
      have : p.find? (fun x => key x.f0 == key g.f0) = none := by
        rw [List.find?_eq_none]
        intro q hq
        simpa using hp q hq
      rw [this, List.find?_cons_of_pos (by simp)]
      rfl
    have hu : upd (cutF g (crashN keep p.length g)) (p ++ g :: r) = (p ++ [cutF g (crashN keep p.length g)]) ++ r := by
      have e1 := upd_none (f := cutF g (crashN keep p.length g)) hp
      have e2 := upd_none (f := cutF g (crashN keep p.length g)) hr
      unfold upd at e1 e2 ⊢
      rw [List.map_append, List.map_cons, e1, e2, if_pos (show key g.f0 = key (cutF g (crashN keep p.length g)).f0 from rfl)]
      simp
    have hs : Sorted ((p ++ [cutF g (crashN keep p.length g)]) ++ r) := by rw [← hu]; exact h.upd _
    rw [List.map_cons]
    unfold crashLoop
    rw [hf]
    simp only []
    rw [hu]
    have ih := crash_from keep r (p ++ [cutF g (crashN keep p.length g)]) hs
    rw [List.length_append, List.length_singleton] at ih
    rw [ih, List.mapIdx_cons]
    simp only [List.append_assoc, List.singleton_append, Nat.add_zero]
    congr 3
    funext i f
    rw [show p.length + 1 + i = p.length + (i + 1) by omega]
theorem crash_eq {F : List S61} (h : Sorted F) (keep : List Int) : refCrash F keep = dCrash F keep := by
  unfold dCrash refCrash
  rw [names_eq h]
  have := crash_from keep F [] h
  simpa using this.symm
theorem Sorted.crash {F : List S61} (h : Sorted F) (keep : List Int) : Sorted (refCrash F keep) := by
  unfold refCrash
  unfold Sorted at h ⊢
  rw [List.pairwise_iff_getElem] at h ⊢
  intro i j hi hj hij
  simp only [List.getElem_mapIdx]
  have := h i j (by simpa using hi) (by simpa using hj) hij
  exact this
end Go.Proofs.Ytahifafnfjcfpaa.D
