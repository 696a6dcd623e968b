/- Clone, Place, Equal, Load. Conditions: as each theorem says. -/
import Derived.Test.YtiiokhoonailaaaDoorC3
import Derived.WalkSpells
namespace Go.Proofs.YtiiokhoonailaaaDoor.D
open Go.RowKit Go.Sort Go.Proofs.YtiiokhoonailaaaDoorW.PrintWords Go.Proofs.YtiiokhoonailaaaDoorW.PrintLast Go.Proofs.YtiiokhoonailaaaDoorW.PrintMore
open Go.Proofs.YtiiokhoonailaaaDoor.R

/-- A fresh list of whole numbers. -/
def ListPost (w : World) (xs : List Int) (e : Ending) (w' : World) : Prop := ∃ v, e = .returned v ∧ Kd.R KI 3 w' w.heap.size (fun _ => True) v xs ∧ Below w.heap.size w w'
theorem empty_row (w : World) : Kd.R KI 3 (w.alloc (.cells #[] 3)) w.heap.size (fun _ => True) (.slice (some ⟨w.heap.size, 0, none⟩) 0 0) [] := by
  refine Kd.R_of_own (h1 := fun _ => rfl) ⟨rfl, .inr ⟨w.heap.size, 0, #[], rfl, Nat.le_refl _, heap_alloc_new w _, Nat.le_refl _, Nat.zero_le _, rfl, rfl⟩⟩ (fun _ _ => trivial)
set_option maxRecDepth 100000 in
set_option maxHeartbeats 400000 in
theorem clone_calls (l : List Int) (A : Option Addr) (c : Nat) (w : World) (hr : Kd.C KI w A l.length l) (hl : l.length < 1073741824) : Calls Tryd.prog 12 #[.slice A l.length c] w (ListPost w l) := by
  cases A with
  | none =>
    have hl0 : l = [] := by
      rcases Nat.eq_zero_or_pos l.length with h0 | h0
      · exact List.eq_nil_of_length_eq_zero h0
      · obtain ⟨ad, h, _⟩ := (Kd.reads_of_C (d := (0 : Int)) hr).2.2 h0
        cases h
    subst hl0
    have hn := Lib.run_eql_slice_nil (P := Tryd.prog) w 23 3 none 0 c 0 0 Tryd.underlying23
    clear hr
    go_enter Tryd.func12, Tryd.ntmps12
    go_wp2
    go_ret
    exact ⟨_, rfl, Kd.R_nil _ _ _ _ _, Below.refl _ _⟩
  | some ad =>
    have hn := Lib.run_eql_slice_nil (P := Tryd.prog) w 23 3 (some ad) l.length c 0 0 Tryd.underlying23
    have HE := Aside0.mk (empty_row w)
    have HC := Aside0.mk (Kd.C_below hr (below_alloc (Below.refl _ w) (.cells #[] 3)))
    have HB := Aside0.mk (below_alloc (Below.refl _ w) (.cells #[] 3))
    clear hr
    go_enter Tryd.func12, Tryd.ntmps12
    go_wp2_with (at_builtin; refine Kd.R_append_row (w0 := w) (Value.int .i64) (0 : Int) (h1 := fun _ => rfl) w.heap.size rfl (.tmp 5) (.tmp 6) 23 3 (.int .i64 0) 8 rfl Tryd.underlying23 info3 rfl (by decide) (.slice (some ⟨w.heap.size, 0, none⟩) 0 0) [] l (some ad) l.length c (fun _ => True) rfl rfl (fun _ _ => trivial) HE.out HC.out HB.out HB.out.size (by simp; omega) ?_; intro v1 w1 ho hb _ _)
    go_ret
    rw [List.nil_append] at ho
    exact ⟨_, rfl, ho, hb⟩

/-- The placement. -/
def placeF (s : ByteArray) (nodes : List Int) (n : Int) : List (Fin 7) := (rankF s nodes).take n.toNat
theorem ints_take (L : List (Fin 7)) (k : Nat) : (intsOf L).take k = intsOf (L.take k) := by unfold intsOf; rw [List.map_take]
def PlacePost (w : World) (s : ByteArray) (L : List (Fin 7)) (e : Ending) (w' : World) : Prop := ∃ v, e = .returned (.agg #[.string s, v]) ∧ Kd.R KI 3 w' w.heap.size (fun _ => True) v (intsOf L) ∧ Below w.heap.size w w'
set_option maxRecDepth 100000 in
set_option maxHeartbeats 400000 in
theorem place_calls (s : ByteArray) (hs : s.size ≤ 1073741000) (nodes : List Int) (A : Option Addr) (c : Nat) (n : Int) (w : World) (hr : Kd.C KI w A nodes.length nodes) (hc : nodes.length ≤ c) (hn : nodes.length < 1073741824) :
    Calls Tryd.prog 15 #[.string s, .slice A nodes.length c, .int .i64 n] w (PlacePost w s (placeF s nodes n)) := by
  have hu26 := Tryd.underlying26
  have hb0 := below_alloc (Below.refl _ w) (.cells #[.string ⟨#[]⟩, .slice none 0 0] 26)
  have hx0 := heap_alloc_new w (.cells #[.string ⟨#[]⟩, .slice none 0 0] 26)
  have h16 := rank_calls s hs nodes A c _ (Kd.C_below hr hb0) hc hn
  have hle := rankF_le s nodes
  have hpf : Aside0 ((rankF s nodes).take n.toNat = placeF s nodes n) := ⟨rfl⟩
  have HX0 := Aside0.mk hx0
  have HB0 := Aside0.mk hb0
  clear hr hx0 hb0
  go_enter Tryd.func15, Tryd.ntmps15
  go_wp2_with fail
  refine h16.mono ?_
  rintro e w1 ⟨v, rfl, hv, hb1⟩
  have HX1 := Aside0.mk ((hb1.block _ (blk_lt HX0.out)).trans HX0.out)
  have HB1 := Aside0.mk (below_step HB0.out hb1)
  obtain ⟨A1, c1, hv1, hlc, hC1⟩ := Kd.R_reads hv
  obtain ⟨M, hM⟩ : ∃ M, M = min n.toNat (rankF s nodes).length := ⟨_, rfl⟩
  have htk : (intsOf (rankF s nodes)).take M = intsOf (placeF s nodes n) := by
    rw [ints_take, ← hpf.out, hM]
    congr 1
    rw [List.take_eq_take_iff]
    omega
  have hml : (intsOf (placeF s nodes n)).length = M := by
    rw [← htk, List.length_take, ints_length]
    omega
  have h12 := Aside0.mk (clone_calls (intsOf (placeF s nodes n)) A1 c1 w1 (by rw [← htk]; exact Kd.C_take (m := M) hC1 (by rw [ints_length]; omega)) (by rw [hml]; omega))
  rw [hml] at h12
  rw [ints_length] at hv1 hlc
  have hval : min (max n 0) ((rankF s nodes).length : Int) = (M : Int) := by omega
  have hMc : M ≤ c1 := by omega
  have hX1f := blk_frozen HX1.out 0
  have hX1g := blk_frozen HX1.out 1
  rw [hv1]
  clear hv hv1 htk hml hC1 hM h16 hle hs
  generalize (rankF s nodes).length = m at *
  go_wp2_with fail
  refine h12.out.mono ?_
  rintro e w2 ⟨v2, rfl, hv2, hb2⟩
  obtain ⟨A2, c2, e2⟩ := Kd.R_slice hv2
  rw [e2] at hv2 ⊢
  have HV2 := Aside0.mk hv2
  have HB2 := Aside0.mk hb2
  have HX2 := Aside0.mk ((hb2.block _ (blk_lt HX1.out)).trans HX1.out)
  have hf0 := blk_frozen HX2.out 0
  have hf1 := blk_frozen HX2.out 1
  have hq0 := blk_cell HX2.out 0
  have hq1 := blk_cell HX2.out 1
  clear hv2 hb2 h12 hX1f hX1g e2
  generalize hm2 : (intsOf (placeF s nodes n)).length = m2 at *
  have HM2 := Aside0.mk hm2
  clear hm2
  go_wp2
  refine bodyPost_ret (results_cell_row rfl _ _ w.heap.size 26 #[.string s, .slice A2 m2 c2] (0, 0) _ rfl (by refine blk_put (cs := #[.string s, .slice none 0 0]) (blk_put (cs := #[.string ⟨#[]⟩, .slice none 0 0]) HX2.out 0 _ rfl) 1 _ rfl) Tryd.underlying26 rfl (by kernel_rfl)) rfl ?_
  refine ⟨_, rfl, ?_, ?_⟩
  · refine Kd.R_lower (Kd.R_set (Kd.R_set HV2.out HX2.out (by decide) 0 _) (blk_set HX2.out 0 _) (by decide) 1 _) HB1.out.size
  · exact ((below_step HB1.out HB2.out).setCell (Nat.le_refl _) _).setCell (Nat.le_refl _) _

theorem equal_calls (l m : List Int) (A B : Option Addr) (a b : Nat) (w : World) (hl : l.length < 1073741824) (hA : Kd.C KI w A l.length l) (ha : l.length ≤ a) (hB : Kd.C KI w B m.length m) (hb : m.length ≤ b) :
    Calls Tryd.prog 8 #[.slice A l.length a, .slice B m.length b] w fun e w' => e = .returned (.bool (decide (l = m))) ∧ Grn w w' :=
  (slices_Equal_int_int.calls (l.length + 1) A a l B b m _ w hA ha hB hb (equal_f l m (by omega))).mono fun _ _ ⟨h1, h2⟩ => ⟨h1, Grn.drawn0 h2⟩
theorem load_calls (T : List S26) (nodes : List Int) (A B : Option Addr) (a b : Nat) (w : World) (hT : T.length ≤ 40) (hp : ∀ p ∈ T, p.f1.length ≤ 60) (hn : nodes.length ≤ 60) (hA : Kd.C k26 w A T.length T) (ha : T.length ≤ a) (hB : Kd.C KI w B nodes.length nodes) (hb : nodes.length ≤ b) :
    Calls Tryd.prog 9 #[.slice A T.length a, .slice B nodes.length b] w (ListPost w (loads T nodes)) :=
  (place_Load.calls _ A a T B b nodes _ w hA ha hB hb (pload_f T nodes hT hp hn)).mono fun _ _ h => h
theorem run_field26 (s : ByteArray) (v : Value) (w : World) : (Instr.field 26 (.agg #[.string s, v]) 1).run Tryd.prog w = .ok v w := by
  simp [Instr.field, run_underlying Tryd.underlying26, asAgg, part, isAgg]
end Go.Proofs.YtiiokhoonailaaaDoor.D
