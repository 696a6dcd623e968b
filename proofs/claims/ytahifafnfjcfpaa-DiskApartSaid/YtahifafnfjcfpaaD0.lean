/- A row of bytes whose capacity may end inside its block (behind 'x[:n:n]'): what is told of it, and append onto it. Conditions: none. -/
import Derived.Test.YtahifafnfjcfpaaWMore
import Derived.Maps.RangeWalk
import Derived.Test.YtahifafnfjcfpaaProg
namespace Go.Proofs.Ytahifafnfjcfpaa.D
open Go.RowKit Go.Proofs.YtahifafnfjcfpaaW.PrintWords Go.Proofs.YtahifafnfjcfpaaW.PrintLast Go.Proofs.YtahifafnfjcfpaaW.PrintMore

abbrev K8 : Kd Int := Kd.int .u8

/-- Slice v holds the bytes xs, in a block from base on, in ok. -/
def FRow (w : World) (base : Nat) (ok : Nat → Prop) (v : Value) (xs : List Int) : Prop :=
  (v = .slice none 0 0 ∧ xs = []) ∨
  ∃ g cap cur, v = .slice (some ⟨g, 0, none⟩) xs.length cap ∧ base ≤ g ∧ ok g ∧ w.heap[g]? = some (.cells cur 5 (0, 0)) ∧ xs.length ≤ cap ∧ cap ≤ maxLen ∧ cap ≤ cur.size ∧
    ∀ i, i < xs.length → cur[i]? = some (.int .u8 (xs.getD i 0))

variable {w w1 : World} {base : Nat} {ok ok' : Nat → Prop} {v : Value} {xs ys : List Int}

theorem FRow.mono (h : FRow w base ok v xs) (hk : ∀ k, v.ownBlock = some k → ok k → ok' k) : FRow w base ok' v xs := by
  rcases h with h | ⟨g, cap, cur, rfl, h1, h2, h3⟩
  · exact .inl h
  · exact .inr ⟨g, cap, cur, rfl, h1, hk g rfl h2, h3⟩
theorem FRow.isok (h : FRow w base ok v xs) : ∀ k, v.ownBlock = some k → ok k := by
  rcases h with ⟨rfl, _⟩ | ⟨g, cap, cur, rfl, h1, h2, h3⟩
  · intro k hk; simp [Value.ownBlock] at hk
  · intro k hk; simp [Value.ownBlock] at hk; subst hk; exact h2
theorem FRow.ge (h : FRow w base ok v xs) : ∀ k, v.ownBlock = some k → base ≤ k := by
  rcases h with ⟨rfl, _⟩ | ⟨g, cap, cur, rfl, h1, h2, h3⟩
  · intro k hk; simp [Value.ownBlock] at hk
  · intro k hk; simp [Value.ownBlock] at hk; subst hk; exact h1
theorem FRow.typed (h : FRow w base ok v xs) : ∀ k, v.ownBlock = some k → ∃ cells, w.heap[k]? = some (.cells cells 5 (0, 0)) := by
  rcases h with ⟨rfl, _⟩ | ⟨g, cap, cur, rfl, h1, h2, h3, _⟩
  · intro k hk; simp [Value.ownBlock] at hk
  · intro k hk; simp [Value.ownBlock] at hk; subst hk; exact ⟨cur, h3⟩
theorem FRow.lt (h : FRow w base ok v xs) : ∀ k, v.ownBlock = some k → k < w.heap.size := fun k hk => by
  obtain ⟨c, hc⟩ := h.typed k hk
  exact blk_lt hc
theorem FRow.move (h : FRow w base ok v xs) (hm : ∀ k, v.ownBlock = some k → w1.heap[k]? = w.heap[k]?) : FRow w1 base ok v xs := by
  rcases h with h | ⟨g, cap, cur, rfl, h1, h2, h3, h4⟩
  · exact .inl h
  · exact .inr ⟨g, cap, cur, rfl, h1, h2, (hm g rfl).trans h3, h4⟩
theorem FRow.slice (h : FRow w base ok v xs) : ∃ A c, v = .slice A xs.length c ∧ xs.length ≤ c ∧ xs.length ≤ maxLen := by
  rcases h with ⟨rfl, rfl⟩ | ⟨g, cap, cur, rfl, h1, h2, h3, h4, h5, _⟩
  · exact ⟨none, 0, rfl, Nat.le_refl _, Nat.zero_le _⟩
  · exact ⟨_, cap, rfl, h4, Nat.le_trans h4 h5⟩
/-- It reads as its bytes. -/
theorem FRow.reads (h : FRow w base ok v xs) : ∃ A c, v = .slice A xs.length c ∧ xs.length ≤ c ∧ Kd.C K8 w A xs.length xs := by
  rcases h with ⟨rfl, rfl⟩ | ⟨g, cap, cur, rfl, h1, h2, h3, h4, h5, h6, h7⟩
  · refine ⟨none, 0, rfl, Nat.le_refl _, Kd.C_of_reads (d := 0) (h1 := fun _ => rfl) ?_⟩
    exact ⟨rfl, by simp, fun hn => absurd hn (by simp)⟩
  · refine ⟨_, cap, rfl, h4, Kd.C_of_reads (d := 0) (h1 := fun _ => rfl) ?_⟩
    refine ⟨rfl, by simp only [maxLen] at h5; omega, fun hn => ⟨_, rfl, fun j hj => ?_⟩⟩
    rw [show ((⟨g, 0, none⟩ : Addr).add j) = ⟨g, j, none⟩ from add_plain g j, blk_cell h3]
    exact h7 j hj
theorem FRow.of_R (h : Kd.R K8 5 w base ok v xs) : FRow w base ok v xs := by
  obtain ⟨h1, h2⟩ := Kd.own_of_R h
  rcases h2 with ⟨rfl, h0⟩ | ⟨g, cap, cur, rfl, hg, hh, hn, hc, hs, ht⟩
  · exact .inl ⟨rfl, List.eq_nil_of_length_eq_zero h0⟩
  · refine .inr ⟨g, cap, cur, rfl, hg, h.1 g rfl, hh, hn, hc, by omega, fun i hi => ?_⟩
    have e : (cur.toList.take (xs.length * 1))[i]? = (encs (Value.int .u8) xs)[i]? := by rw [ht]
    rw [List.getElem?_take, if_pos (by omega)] at e
    rw [← Array.getElem?_toList, e]
    simp [encs, List.getElem?_eq_getElem hi, List.getD_eq_getElem?_getD]

/-- Cut to its first n bytes, capacity and all. -/
theorem FRow.cut {g cap : Nat} (h : FRow w base ok (.slice (some ⟨g, 0, none⟩) xs.length cap) xs) (n : Nat) (hn : n ≤ xs.length) : FRow w base ok (.slice (some ⟨g, 0, none⟩) n n) (xs.take n) := by
  rcases h with ⟨h, _⟩ | ⟨g', cap', cur, e, h1, h2, h3, h4, h5, h6, h7⟩
  · cases h
  · cases e
    have hl : (xs.take n).length = n := by simp; omega
    refine .inr ⟨g, n, cur, by rw [hl], h1, h2, h3, by omega, by omega, by omega, fun i hi => ?_⟩
    rw [h7 i (by omega)]
    simp [List.getD_eq_getElem?_getD, show i < n by omega]

theorem info5 : (Try.prog.info? 5).map (fun i => (i.zero, i.size, i.bytes)) = some (some (.int .u8 0), 1, 1) := by kernel_rfl

/-- What a setCells leaves: cells before it, other blocks. -/
theorem setCells_block (b : Nat) : ∀ (vs : List Value) (o : Nat) (w : World) (cur : Array Value) (t : TypeId), w.heap[b]? = some (.cells cur t (0, 0)) → o + vs.length ≤ cur.size →
    ∃ cur', (w.setCells b o vs).heap[b]? = some (.cells cur' t (0, 0)) ∧ cur'.size = cur.size ∧ (∀ i, i < o → cur'[i]? = cur[i]?) ∧ (∀ j (hj : j < vs.length), cur'[o + j]? = some vs[j])
  | [], o, w, cur, t, h, _ => ⟨cur, h, rfl, fun _ _ => rfl, fun j hj => absurd hj (by simp)⟩
  | v :: vs, o, w, cur, t, h, hl => by
    simp only [List.length_cons] at hl
    have h1 : (w.setCell ⟨b, o, none⟩ v).heap[b]? = some (.cells (cur.setIfInBounds o v) t (0, 0)) := blk_set h o v
    obtain ⟨cur', h2, h3, h4, h5⟩ := setCells_block b vs (o + 1) (w.setCell ⟨b, o, none⟩ v) (cur.setIfInBounds o v) t h1 (by simp; omega)
    refine ⟨cur', h2, by simpa using h3, fun i hi => ?_, fun j hj => ?_⟩
    · rw [h4 i (by omega), Array.getElem?_setIfInBounds, if_neg (by omega)]
    · cases j with
      | zero =>
        have := h4 o (by omega)
        rw [Nat.add_zero, this, Array.getElem?_setIfInBounds]
        simp; omega
      | succ j =>
        have := h5 j (by simpa using hj)
        rw [show o + (j + 1) = o + 1 + j by omega, this]
        simp
theorem setCells_grown (b : Nat) : ∀ (vs : List Value) (o : Nat) (w : World), w.grownBy (w.setCells b o vs) (some b)
  | [], _, w => ⟨rfl, rfl, rfl, Nat.le_refl _, fun _ _ _ => rfl⟩
  | v :: vs, o, w => by
    refine World.grownBy.trans (b := w.setCell ⟨b, o, none⟩ v) ?_ (setCells_grown b vs (o + 1) _)
    exact ⟨rfl, rfl, rfl, by simp [World.setCell], fun k _ hk => Below.heap_setCell _ _ _ _ (fun e => hk (by rw [e]))⟩

theorem run_append_nothing {P : Program} (t ty e : TypeId) (i : TypeInfo) (ht : P.underlying t = some (.slice e)) (hi : P.info? e = some i) (b : Addr) (n cap c : Nat) (hn : n ≤ cap) (w : World) :
    (Builtin.append_ #[t, t] ty #[.slice (some b) n cap, .slice none 0 c]).run P w = .ok (.slice (some b) n cap) w := by
  simp [Builtin.append_, run_underlying ht, sizeOf, typeInfo, hi, Builtin.lenOf, hn, Builtin.firstCells, storeCells]

/-- 'append(v, ys...)': some slice that holds xs and ys, in the same block or a new one. -/
theorem FRow.append (h : FRow w base ok v xs) {A : Option Addr} {c : Nat} (hr : Kd.C K8 w A ys.length ys) (hl : xs.length + ys.length ≤ 140737488355328) (hbase : base ≤ w.heap.size) (ty : TypeId) :
    ∃ v1 w1, (Builtin.append_ #[22, 22] ty #[v, .slice A ys.length c]).run Try.prog w = .ok v1 w1 ∧ FRow w1 base (fun k => ok k ∨ w.heap.size ≤ k) v1 (xs ++ ys) ∧ w.grownBy w1 v.ownBlock ∧
      (v1.ownBlock = v.ownBlock ∨ ∃ b, v1.ownBlock = some b ∧ w.heap.size ≤ b) := by
  obtain ⟨i0, hi, hzz⟩ := Option.map_eq_some_iff.1 info5
  simp only [Prod.mk.injEq] at hzz
  obtain ⟨hz0, hz1, hz2⟩ := hzz
  have HR := Kd.reads_of_C (d := (0 : Int)) hr
  have hnone : A = none → ys = [] := fun e => by
    rcases Nat.eq_zero_or_pos ys.length with h0 | h0
    · exact List.eq_nil_of_length_eq_zero h0
    · obtain ⟨ad, h, _⟩ := HR.2.2 h0
      rw [e] at h; cases h
  have hcells : ∀ ad, A = some ad → ∀ j u, (encs (Value.int .u8) ys)[j]? = some u → w.cell? (ad.add j) = some u := by
    intro ad e j u hu
    have hj : j < ys.length := by
      rcases Nat.lt_or_ge j ys.length with h | h
      · exact h
      · simp [encs, List.getElem?_eq_none h] at hu
    obtain ⟨ad', h', hc⟩ := HR.2.2 (by omega)
    rw [e] at h'
    injection h' with h'
    subst h'
    rw [encs_get (d := (0 : Int)) ys j hj] at hu
    rw [← hu]
    exact hc j (by omega)
  have hone : ∀ u ∈ encs (Value.int .u8) ys, u.oneCell' = true := by
    intro u hu
    simp only [encs, List.mem_map] at hu
    obtain ⟨q, _, rfl⟩ := hu
    rfl
  rcases h with ⟨rfl, rfl⟩ | ⟨g, cap, cur, rfl, h1, h2, h3, h4, h5, h6, h7⟩
  · rcases A with _ | ad
    · obtain rfl := hnone rfl
      refine ⟨.slice none 0 0, w, ?_, .inl ⟨rfl, rfl⟩, World.grownBy.refl w _, .inl rfl⟩
      simp [Builtin.append_, run_underlying Try.underlying22, sizeOf, typeInfo, hi, Builtin.lenOf, Builtin.firstCells]
    · obtain ⟨v1, w1, hrun, r2, r3, _, r5⟩ := run_append_own_at (P := Try.prog) w base 22 ty 5 i0 (.int .u8 0) 1 1 Try.underlying22 hi hz0 hz1 hz2 rfl (by omega) (.slice none 0 0) 0 [] (own_nil _ _ _ _) ad ys.length c (encs (Value.int .u8) ys)
        (by simp [encs]) (hcells ad rfl) hone (by simp only [maxLen]; omega) (by simp at hl; omega) hbase
      refine ⟨v1, w1, hrun, ?_, r3, ?_⟩
      · refine FRow.of_R (Kd.R_of_own (h1 := fun _ => rfl) (by simpa [encs] using r2) (fun k hk => ?_))
        rcases r5 with e | e
        · rw [e] at hk; simp [Value.ownBlock] at hk
        · rw [e] at hk; injection hk with hk; exact .inr (Nat.le_of_eq hk)
      · rcases r5 with e | e
        · exact .inl e
        · exact .inr ⟨_, e, Nat.le_refl _⟩
  · rcases A with _ | ad
    · obtain rfl := hnone rfl
      refine ⟨_, w, run_append_nothing 22 ty 5 i0 Try.underlying22 hi ⟨g, 0, none⟩ xs.length cap c h4 w, ?_, World.grownBy.refl w _, .inl rfl⟩
      rw [List.append_nil]
      exact .inr ⟨g, cap, cur, rfl, h1, .inl h2, h3, h4, h5, h6, h7⟩
    · by_cases hroom : xs.length + ys.length ≤ cap
      · have hrun := run_append_room_cells (P := Try.prog) (w := w) 22 ty 5 i0 Try.underlying22 hi g 0 xs.length cap ad ys.length c (encs (Value.int .u8) ys) (by simp [encs, hz1]) (hcells ad rfl) hone hroom
          (fun j hj => by
            rw [blk_cell h3, hz1, Array.getElem?_eq_getElem (by simp [encs] at hj; omega)]
            rfl) (fun j _ => blk_frozen h3 _)
        obtain ⟨cur', q1, q2, q3, q4⟩ := setCells_block g (encs (Value.int .u8) ys) (0 + xs.length * i0.size) w cur 5 h3 (by simp [encs, hz1]; omega)
        refine ⟨_, _, hrun, .inr ⟨g, cap, cur', by rw [List.length_append], h1, .inl h2, q1, by rw [List.length_append]; exact hroom, h5, by omega, fun i hi' => ?_⟩, setCells_grown g _ _ w, .inl rfl⟩
        rw [hz1] at q3 q4
        by_cases hlt : i < xs.length
        · rw [q3 i (by omega), h7 i hlt]
          simp [List.getD_eq_getElem?_getD, List.getElem?_append_left hlt]
        · have hi2 : i - xs.length < (encs (Value.int .u8) ys).length := by simp [encs]; simp at hi'; omega
          have := q4 (i - xs.length) hi2
          rw [show 0 + xs.length * 1 + (i - xs.length) = i by omega] at this
          rw [this]
          simp [encs, List.getD_eq_getElem?_getD, List.getElem?_append_right (Nat.le_of_not_lt hlt)]
          rw [List.getElem?_eq_getElem (by simp at hi'; omega)]
          rfl
      · have holds : ∀ j u, (encs (Value.int .u8) xs)[j]? = some u → w.cell? ((⟨g, 0, none⟩ : Addr).add j) = some u := by
          intro j u hu
          have hj : j < xs.length := by
            rcases Nat.lt_or_ge j xs.length with h | h
            · exact h
            · simp [encs, List.getElem?_eq_none h] at hu
          rw [encs_get (d := (0 : Int)) xs j hj] at hu
          rw [add_plain, blk_cell h3, h7 j hj, ← hu]
        obtain ⟨v1, w1, hrun, r2, r3⟩ := run_append_arg_grows (P := Try.prog) (w := w) 22 ty 5 i0 (.int .u8 0) 1 1 Try.underlying22 hi hz0 hz1 hz2 rfl (by omega) ⟨g, 0, none⟩ xs.length cap (encs (Value.int .u8) xs) (by simp [encs]) holds
          ad ys.length c (encs (Value.int .u8) ys) (by simp [encs]) (hcells ad rfl) (by omega) (by simp only [maxLen]; omega) (by omega)
        have hge := own_base r2
        refine ⟨v1, w1, hrun, ?_, ⟨r3.os, r3.tape, r3.output, r3.size, fun k hk _ => r3.block k hk (by simp)⟩, ?_⟩
        · refine FRow.of_R (Kd.R_of_own (h1 := fun _ => rfl) (own_less (b := w.heap.size) (by simpa [encs] using r2) hbase) (fun k hk => .inr (hge k hk)))
        · rcases r2.2 with ⟨e, h0⟩ | ⟨g', cap', cur', e, hg', _⟩
          · omega
          · exact .inr ⟨g', by rw [e]; rfl, hg'⟩

/-- .. at the operation, for the walk. -/
theorem wpList_append_F {ops : Array Oper} {rest : List Oper} {o : Oper} {a : Act} {Q : Exit → Act → World → Prop} (hgd : o.guard = none) (s x : Operand)
    (ho : o.op = .call { callee := .builtin .append, args := #[s, x], argTypes := #[22, 22] }) (base : Nat) (ok : Nat → Prop) (v : Value) (xs : List Int) (hs : a.eval s = v) (A : Option Addr) (n c : Nat) (ys : List Int) (hx : a.eval x = .slice A n c) (hn : n = ys.length)
    (h : FRow w base ok v xs) (hr : Kd.C K8 w A ys.length ys) (hl : xs.length + ys.length ≤ 140737488355328) (hbase : base ≤ w.heap.size)
    (hK : ∀ v1 w1, FRow w1 base (fun k => ok k ∨ w.heap.size ≤ k) v1 (xs ++ ys) → w.grownBy w1 v.ownBlock → (v1.ownBlock = v.ownBlock ∨ ∃ b, v1.ownBlock = some b ∧ w.heap.size ≤ b) → wpList Try.prog ops Q rest (a.put o.dst v1) w1) :
    wpList Try.prog ops Q (o :: rest) a w := by
  subst hn
  obtain ⟨v1, w1, hrun, h1, h2, h3⟩ := h.append (c := c) hr hl hbase o.type
  refine wpList_plain hgd fun K hK' => ?_
  unfold Oper.wp execOp
  simp only [ho, resolve, invoke, builtin, Sem.run_bind, Sem.run_pure, Result.andThen_ok, List.map_toArray, List.map_cons, List.map_nil, hs, hx, hrun]
  exact hK' _ _ (hK v1 w1 h1 h2 h3)

end Go.Proofs.Ytahifafnfjcfpaa.D
