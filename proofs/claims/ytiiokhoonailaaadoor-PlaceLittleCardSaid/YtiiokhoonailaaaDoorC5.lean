/- The example of the chapter holds. Conditions: none. -/
import Derived.Test.YtiiokhoonailaaaDoorC4
import Derived.KernelRfl
import Derived.Lib.SlBytesConst
import Derived.Deep.RegionHeld3
namespace Go.Proofs.YtiiokhoonailaaaDoor.D
open Go.RowKit Go.Sort Go.Proofs.YtiiokhoonailaaaDoorW.PrintWords Go.Proofs.YtiiokhoonailaaaDoorW.PrintLast Go.Proofs.YtiiokhoonailaaaDoorW.PrintMore
open Go.Proofs.YtiiokhoonailaaaDoor.R

def nq : ByteArray := ⟨#[113]⟩
theorem rank_q : rankF nq [2, 9, 2, -1, 0] = [2, 0] := by kernel_rfl
theorem place_q : placeF nq [2, 9, 2, -1, 0] 5 = [2, 0] := by kernel_rfl
theorem place_0 : placeF nq [2, 0] (-1) = [] := by kernel_rfl
theorem sc0 : scN nq 0 = 3080215227 := by kernel_rfl
theorem sc2 : scN nq 2 = 3113770465 := by kernel_rfl
theorem sc3 : scN nq 3 = 3096992846 := by kernel_rfl
theorem sm3 : sumN [113, 47, 51] = 3096992846 := by kernel_rfl
theorem load_q : loads [⟨⟨#[]⟩, [0, 1]⟩, ⟨⟨#[]⟩, [1, 2]⟩] [2, 1, 7, 1] = [1, 2, 0, 2] := by kernel_rfl

/-- A row that was laid just now. -/
theorem C_lit (W : World) (l : List Int) (t : TypeId) (hl : l.length < 1073741824) : Kd.C KI (W.alloc (.cells (l.map fun x => Value.int .i64 x).toArray t)) (some ⟨W.heap.size, 0, none⟩) l.length l := by
  refine Kd.C_of_reads (d := (0 : Int)) (h1 := fun _ => rfl) ⟨rfl, by omega, fun _ => ⟨_, rfl, fun j hj => ?_⟩⟩
  rw [add_plain, blk_cell (heap_alloc_new W _)]
  simp [List.getD_eq_getElem?_getD, hj]
theorem C_lit8 (W : World) (l : List Int) (t : TypeId) (hl : l.length < 1073741824) : Kd.C K8 (W.alloc (.cells (l.map fun x => Value.int .u8 x).toArray t)) (some ⟨W.heap.size, 0, none⟩) l.length l := by
  refine Kd.C_of_reads (d := (0 : Int)) (h1 := fun _ => rfl) ⟨rfl, by omega, fun _ => ⟨_, rfl, fun j hj => ?_⟩⟩
  rw [add_plain, blk_cell (heap_alloc_new W _)]
  simp [List.getD_eq_getElem?_getD, hj]
theorem C_mark8 (W : World) (l : List Int) (t : TypeId) (fr : Nat × Nat) (hl : l.length < 1073741824) : Kd.C K8 (W.alloc (.cells (l.map fun x => Value.int .u8 x).toArray t fr)) (some ⟨W.heap.size, 0, none⟩) l.length l := by
  refine Kd.C_of_reads (d := (0 : Int)) (h1 := fun _ => rfl) ⟨rfl, by omega, fun _ => ⟨_, rfl, fun j hj => ?_⟩⟩
  rw [add_plain, World.cell?_alloc_mark]
  simp [List.getD_eq_getElem?_getD, hj]
/-- A mark laid on a block: no cell turns. -/
theorem cell_freeze (W : World) (p a : Addr) (n : Nat) : (W.freeze p n).cell? a = W.cell? a := by
  unfold World.freeze
  split
  · rfl
  · simp only [World.cell?, Array.getElem?_modify]
    by_cases hb : p.block = a.block
    · rw [if_pos hb]
      cases W.heap[a.block]? with
      | none => rfl
      | some o => cases o <;> rfl
    · rw [if_neg hb]
theorem C_freeze8 {W : World} {A : Option Addr} {l : List Int} (h : Kd.C K8 W A l.length l) (p : Addr) (n : Nat) : Kd.C K8 (W.freeze p n) A l.length l := by
  have h := Kd.reads_of_C (d := (0 : Int)) h
  refine Kd.C_of_reads (d := (0 : Int)) (h1 := fun _ => rfl) ⟨h.1, h.2.1, fun hn => ?_⟩
  obtain ⟨ad, e, hc⟩ := h.2.2 hn
  exact ⟨ad, e, fun j hj => by rw [cell_freeze]; exact hc j hj⟩
theorem below_freeze {B : Nat} {w W : World} (h : Below B w W) {b : Nat} (hb : B ≤ b) (k n : Nat) : Below B w (W.freeze ⟨b, k, none⟩ n) := by
  refine h.trans ?_
  unfold World.freeze
  split
  · exact Below.refl _ _
  · exact ⟨rfl, rfl, rfl, by simp, fun i hi => by simp only [Array.getElem?_modify]; rw [if_neg (by omega)]⟩
theorem conv_at (W : World) (b n c : Nat) (C : Array Value) (fr : Nat × Nat) (hb : W.heap[b]? = some (.cells C 5 fr)) : (convert 50 50 (.slice (some ⟨b, 0, none⟩) n c)).run Tryd.prog W = .ok (.slice (some ⟨b, 0, none⟩) n c) (W.freeze ⟨b, C.size, none⟩ 1) := by
  have hsh : W.shape? b = some (5, C.size) := by unfold World.shape?; rw [hb]
  simp [convert, run_underlying Tryd.underlying50, run_underlying Tryd.underlying5, markStringish, hsh]
/-- Two placements that were laid just now. -/
theorem C_two (W : World) (x y : S26) (A B : Option Addr) (a b : Nat) (ha : x.f1.length ≤ a) (hb : y.f1.length ≤ b) (hA : Kd.C KI W A x.f1.length x.f1) (hB : Kd.C KI W B y.f1.length y.f1) :
    Kd.C k26 (W.alloc (.cells #[.string x.f0, .slice A x.f1.length a, .string y.f0, .slice B y.f1.length b] 26)) (some ⟨W.heap.size, 0, none⟩) 2 [x, y] := by
  have hbw := below_alloc (Below.refl _ W) (.cells #[.string x.f0, .slice A x.f1.length a, .string y.f0, .slice B y.f1.length b] 26)
  have hx := heap_alloc_new W (.cells #[.string x.f0, .slice A x.f1.length a, .string y.f0, .slice B y.f1.length b] 26)
  refine ⟨rfl, by decide, fun _ => ⟨_, rfl, fun j p hj => ?_⟩⟩
  match j, hj with
  | 0, hj =>
    obtain rfl : x = p := by simpa using hj
    refine ⟨_, rfl, k26_mk _ x ha (Kd.C_below hA hbw), fun i u hu => ?_⟩
    match i, hu with
    | 0, hu => obtain rfl := Option.some.inj hu; exact blk_cell hx 0
    | 1, hu => obtain rfl := Option.some.inj hu; exact blk_cell hx 1
  | 1, hj =>
    obtain rfl : y = p := by simpa using hj
    refine ⟨_, rfl, k26_mk _ y hb (Kd.C_below hB hbw), fun i u hu => ?_⟩
    match i, hu with
    | 0, hu => obtain rfl := Option.some.inj hu; exact blk_cell hx 2
    | 1, hu => obtain rfl := Option.some.inj hu; exact blk_cell hx 3

theorem ex_load (X0 : World) : Calls Tryd.prog 9 #[.slice (some ⟨X0.heap.size + 1 + 1, 0, none⟩) 2 2, .slice (some ⟨X0.heap.size + 1 + 1 + 1, 0, none⟩) 4 4]
    ((((X0.alloc (.cells #[.int .i64 0, .int .i64 1] 3)).alloc (.cells #[.int .i64 1, .int .i64 2] 3)).alloc (.cells #[.string ⟨#[]⟩, .slice (some ⟨X0.heap.size, 0, none⟩) 2 2, .string ⟨#[]⟩, .slice (some ⟨X0.heap.size + 1, 0, none⟩) 2 2] 26)).alloc (.cells #[.int .i64 2, .int .i64 1, .int .i64 7, .int .i64 1] 3))
    fun e w' => ∃ A c, e = .returned (.slice A 4 c) ∧ 4 ≤ c ∧ Kd.C KI w' A 4 [1, 2, 0, 2] ∧ Below X0.heap.size X0 w' := by
  have c1 := C_lit X0 [0, 1] 3 (by decide)
  have c2 := C_lit (X0.alloc (.cells #[.int .i64 0, .int .i64 1] 3)) [1, 2] 3 (by decide)
  have b1 := below_alloc (Below.refl _ X0) (.cells #[.int .i64 0, .int .i64 1] 3)
  have b2 := below_alloc (Below.refl _ (X0.alloc (.cells #[.int .i64 0, .int .i64 1] 3))) (.cells #[.int .i64 1, .int .i64 2] 3)
  have k1 := Kd.C_below c1 b2
  have s1 := World.size_alloc X0 (.cells #[.int .i64 0, .int .i64 1] 3)
  rw [s1] at c2
  have s2 := World.size_alloc (X0.alloc (.cells #[.int .i64 0, .int .i64 1] 3)) (.cells #[.int .i64 1, .int .i64 2] 3)
  rw [s1] at s2
  have b12 := below_step b1 b2
  change Kd.C KI ((X0.alloc (.cells #[.int .i64 0, .int .i64 1] 3)).alloc (.cells #[.int .i64 1, .int .i64 2] 3)) _ _ _ at c2
  generalize (X0.alloc (.cells #[.int .i64 0, .int .i64 1] 3)).alloc (.cells #[.int .i64 1, .int .i64 2] 3) = X2 at *
  have c3 := C_two X2 ⟨⟨#[]⟩, [0, 1]⟩ ⟨⟨#[]⟩, [1, 2]⟩ (some ⟨X0.heap.size, 0, none⟩) (some ⟨X0.heap.size + 1, 0, none⟩) 2 2 (by decide) (by decide) k1 c2
  have b3 := below_alloc (Below.refl _ X2) (.cells #[.string ⟨#[]⟩, .slice (some ⟨X0.heap.size, 0, none⟩) 2 2, .string ⟨#[]⟩, .slice (some ⟨X0.heap.size + 1, 0, none⟩) 2 2] 26)
  have s3 := World.size_alloc X2 (.cells #[.string ⟨#[]⟩, .slice (some ⟨X0.heap.size, 0, none⟩) 2 2, .string ⟨#[]⟩, .slice (some ⟨X0.heap.size + 1, 0, none⟩) 2 2] 26)
  rw [s2] at s3 c3
  change Kd.C k26 (X2.alloc (.cells #[.string ⟨#[]⟩, .slice (some ⟨X0.heap.size, 0, none⟩) 2 2, .string ⟨#[]⟩, .slice (some ⟨X0.heap.size + 1, 0, none⟩) 2 2] 26)) _ _ _ at c3
  generalize X2.alloc (.cells #[.string ⟨#[]⟩, .slice (some ⟨X0.heap.size, 0, none⟩) 2 2, .string ⟨#[]⟩, .slice (some ⟨X0.heap.size + 1, 0, none⟩) 2 2] 26) = X3 at *
  have c4 := C_lit X3 [2, 1, 7, 1] 3 (by decide)
  have b4 := below_alloc (Below.refl _ X3) (.cells #[.int .i64 2, .int .i64 1, .int .i64 7, .int .i64 1] 3)
  have k3 := Kd.C_below c3 b4
  rw [s3] at c4
  have hb := below_step (below_step b12 b3) b4
  refine (load_calls [⟨⟨#[]⟩, [0, 1]⟩, ⟨⟨#[]⟩, [1, 2]⟩] [2, 1, 7, 1] _ _ 2 4 _ (by decide) (by decide) (by decide) k3 (by decide) c4 (by decide)).mono ?_
  rintro e w' ⟨v, rfl, hv, hb2⟩
  rw [load_q] at hv
  obtain ⟨A, c, rfl, hl, hC⟩ := Kd.R_reads hv
  exact ⟨A, c, rfl, hl, hC, below_step hb hb2⟩
/-- The conversion by another name: so that the walk does not try it ahead of its time. -/
def cvt : TypeId → TypeId → Operand → Op := fun a b x => .convert a b x
theorem cvt_eq (a b : TypeId) (x : Operand) : Op.convert a b x = cvt a b x := rfl
def AwakePost (w : World) (e : Ending) (w' : World) : Prop := e = .returned (.bool true) ∧ Below w.heap.size w w'
set_option maxRecDepth 100000 in
set_option maxHeartbeats 16000000 in
theorem example_calls (w : World) : Calls Tryd.prog 7 #[] w (AwakePost w) := by
  unfold AwakePost
  have h16 := rank_calls nq (by decide) [2, 9, 2, -1, 0] _ 5 _ (C_lit w [2, 9, 2, -1, 0] 3 (by decide)) (by decide) (by decide)
  rw [rank_q] at h16
  have hb0 := below_alloc (Below.refl _ w) (.cells (List.map (fun x => Value.int .i64 x) [2, 9, 2, -1, 0]).toArray 3)
  go_enter Tryd.func7, Tryd.ntmps7
  go_wp2_with fail
  refine h16.mono ?_
  rintro e w1 ⟨v1, rfl, hv1, hb1⟩
  obtain ⟨A1, c1, e1⟩ : ∃ A c, v1 = .slice A 2 c := Kd.R_slice hv1
  have HV1 := Aside0.mk (e1 ▸ hv1)
  rw [e1]
  have HB1 := Aside0.mk (below_step hb0 hb1)
  clear hv1 hb1 hb0 h16 e1
  have h15 := place_calls nq (by decide) [2, 9, 2, -1, 0] _ 5 5 _ (C_lit w1 [2, 9, 2, -1, 0] 3 (by decide)) (by decide) (by decide)
  rw [place_q] at h15
  go_wp2_with fail
  refine h15.mono ?_
  rintro e w2 ⟨v2, rfl, hv2, hb2⟩
  obtain ⟨A2, c2, e2⟩ : ∃ A c, v2 = .slice A 2 c := Kd.R_slice hv2
  have HV2 := Aside0.mk (e2 ▸ hv2)
  rw [e2]
  have HB2 := Aside0.mk (below_step (below_alloc (Below.refl _ w1) (.cells (List.map (fun x => Value.int .i64 x) [2, 9, 2, -1, 0]).toArray 3)) hb2)
  clear hv2 hb2 h15 e2
  go_wp2_with fail
  have hX := heap_alloc_new w2 (.cells #[.string nq, .slice A2 2 c2] 26)
  have hbX := below_alloc (Below.refl _ w2) (.cells #[.string nq, .slice A2 2 c2] 26)
  have h9 := ex_load (w2.alloc (.cells #[.string nq, .slice A2 2 c2] 26))
  rw [World.size_alloc] at h9
  refine h9.mono ?_
  rintro e w3 ⟨A3, c3, rfl, hl3, hC3, hb3⟩
  rw [← World.size_alloc w2 (.cells #[.string nq, .slice A2 2 c2] 26)] at hb3
  have hb23 := below_step hbX hb3
  have hbox := (hb3.block _ (blk_lt hX)).trans hX
  have hb03 := below_step (below_step HB1.out HB2.out) hb23
  -- the ranking's row
  obtain ⟨g1, hA1, hg0, hg1, hlc1, hC1⟩ : ∃ g, A1 = some ⟨g, 0, none⟩ ∧ (∀ W, Below w1.heap.size w1 W → W.cell? ⟨g, 0, none⟩ = some (.int .i64 2)) ∧ (∀ W, Below w1.heap.size w1 W → W.cell? ⟨g, 1, none⟩ = some (.int .i64 0)) ∧ 2 ≤ c1 ∧ Kd.C KI w1 (some ⟨g, 0, none⟩) 2 [2, 0] := by
    have hown := Kd.own_of_R HV1.out
    obtain ⟨A, c, e, hl, hC⟩ := Kd.R_reads HV1.out
    rcases hown.2 with ⟨_, h0⟩ | ⟨g, cap, cur, hv, hbase, hb, h1, h2, h3, h4⟩
    · cases h0
    · cases hv
      cases e
      refine ⟨g, rfl, fun W hW => ?_, fun W hW => ?_, h1, hC⟩
      · obtain ⟨ad, e, hc⟩ := Kd.at_int (Kd.C_below hC hW) 0 (by decide) (by decide)
        cases e
        exact hc
      · obtain ⟨ad, e, hc⟩ := Kd.at_int (Kd.C_below hC hW) 1 (by decide) (by decide)
        cases e
        exact hc
  subst hA1
  obtain ⟨hlc2, hC2⟩ : 2 ≤ c2 ∧ Kd.C KI w2 A2 2 [2, 0] := by
    obtain ⟨A, c, e, hl, hC⟩ := Kd.R_reads HV2.out
    cases e
    exact ⟨hl, hC⟩
  have hb13 := below_step HB2.out hb23
  have hE1 : Aside0 (∀ W, Below w3.heap.size w3 W → Calls Tryd.prog 8 #[.slice A2 2 c2, .slice (some ⟨g1, 0, none⟩) 2 c1] W fun e w' => e = .returned (.bool true) ∧ Grn W w') := ⟨fun W hW => equal_calls [2, 0] [2, 0] A2 _ c2 c1 W (by decide) (Kd.C_below hC2 (below_step hb23 hW)) hlc2 (Kd.C_below hC1 (below_step hb13 hW)) hlc1⟩
  have hP : Aside0 (∀ W, Below w3.heap.size w3 W → Calls Tryd.prog 15 #[.string nq, .slice (some ⟨g1, 0, none⟩) 2 c1, .int .i64 (-1)] W (PlacePost W nq [])) := ⟨fun W hW => by
    have := place_calls nq (by decide) [2, 0] (some ⟨g1, 0, none⟩) c1 (-1) W (Kd.C_below hC1 (below_step hb13 hW)) hlc1 (by decide)
    rw [place_0] at this
    exact this⟩
  have hE2 : Aside0 (∀ W, Below w3.heap.size w3 W → Calls Tryd.prog 8 #[.slice A3 4 c3, .slice (some ⟨W.heap.size, 0, none⟩) 4 4] (W.alloc (.cells #[.int .i64 1, .int .i64 2, .int .i64 0, .int .i64 2] 3)) fun e w' => e = .returned (.bool true) ∧ Grn (W.alloc (.cells #[.int .i64 1, .int .i64 2, .int .i64 0, .int .i64 2] 3)) w') := ⟨fun W hW => equal_calls [1, 2, 0, 2] [1, 2, 0, 2] A3 _ c3 4 _ (by decide) (Kd.C_below (Kd.C_below hC3 hW) (below_alloc (Below.refl _ _) _)) hl3 (C_lit W [1, 2, 0, 2] 3 (by decide)) (by decide)⟩
  have hdr : Aside0 (Below w3.heap.size w3 w3.drew) := ⟨(Below.refl _ _).drew⟩
  have HB03 := Aside0.mk hb03
  have hbp : ∀ W, Below w3.heap.size w3 W → W.heap[w2.heap.size]? = some (.cells #[.string nq, .slice A2 2 c2] 26 (0, 0)) := fun W hW => (hW.block _ (blk_lt hbox)).trans hbox
  have HS : Aside0 (∀ W, Below w3.heap.size w3 W → W.cell? ⟨g1, 0, none⟩ = some (.int .i64 2) ∧ W.cell? ⟨g1, 1, none⟩ = some (.int .i64 0) ∧ W.cell? ⟨w2.heap.size, 0, none⟩ = some (.string nq) ∧ W.cell? ⟨w2.heap.size, 1, none⟩ = some (.slice A2 2 c2)) := ⟨fun W hW => ⟨hg0 W (below_step hb13 hW), hg1 W (below_step hb13 hW), blk_cell (hbp W hW) 0, blk_cell (hbp W hW) 1⟩⟩
  clear hX hbX h9 hb3 hb23 hb03 hb13 hbox hC1 hC2 hC3 hg0 hg1 HV1 HV2 HB1 HB2 hl3 hbp
  generalize w2.heap.size = gp at *
  have hff := run_field26 nq
  have hs1 : nq.toList = [113] := by rw [ByteArray.toList_eq]; rfl
  go_wp2
  go_region_held3 (fun W => W.cell? ⟨g1, 0, none⟩ = some (.int .i64 2) ∧ W.cell? ⟨g1, 1, none⟩ = some (.int .i64 0) ∧ W.cell? ⟨gp, 0, none⟩ = some (.string nq) ∧ W.cell? ⟨gp, 1, none⟩ = some (.slice A2 2 c2))
    ((refine HS.out _ ?_; first | exact HZ.out | exact HP.out | exact HE.out | exact hdr.out | exact below_step HP.out (below_alloc (Below.refl _ _) _)))
    (first
    | (go_at_call 15; refine (hP.out _ HE.out).mono ?_; rintro e wp ⟨vp, rfl, hvp, hbp⟩; obtain ⟨Ap, cp, ep⟩ : ∃ A c, vp = .slice A 0 c := Kd.R_slice hvp; rw [ep]; have HP := Aside0.mk (below_step HE.out hbp); clear hvp hbp ep)
    | (go_at_call 8; first
      | ((with_reducible refine (hE2.out _ HP.out).mono ?_); rintro e wz ⟨rfl, gz⟩; have HZ := Aside0.mk (below_step (below_step HP.out (below_alloc (Below.refl _ _) _)) gz.below); clear gz)
      | ((with_reducible refine (hE1.out _ hdr.out).mono ?_); rintro e we ⟨rfl, ge⟩; have HE := Aside0.mk (below_step hdr.out ge.below); clear ge)))
  have h3 : Aside0 (∀ W, Below w3.heap.size w3 W → Calls Tryd.prog 26 #[.string ⟨#[113]⟩, .int .i64 3] W fun e w' => e = .returned (.int .i64 3096992846) ∧ Below W.heap.size W w' ∧ Below w3.heap.size w3 w') := ⟨fun W hW => by
    have h := score_calls nq 3 (by decide) (by decide) W
    rw [sc3] at h
    exact h.mono fun _ _ ⟨e, g⟩ => ⟨e, g.below, below_step hW g.below⟩⟩
  have h0 : Aside0 (∀ W, Below w3.heap.size w3 W → Calls Tryd.prog 26 #[.string ⟨#[113]⟩, .int .i64 0] W fun e w' => e = .returned (.int .i64 3080215227) ∧ Below w3.heap.size w3 w') := ⟨fun W hW => by
    have h := score_calls nq 0 (by decide) (by decide) W
    rw [sc0] at h
    exact h.mono fun _ _ ⟨e, g⟩ => ⟨e, below_step hW g.below⟩⟩
  have h2 : Aside0 (∀ W, Below w3.heap.size w3 W → Calls Tryd.prog 26 #[.string ⟨#[113]⟩, .int .i64 2] W fun e w' => e = .returned (.int .i64 3113770465) ∧ Below w3.heap.size w3 w') := ⟨fun W hW => by
    have h := score_calls nq 2 (by decide) (by decide) W
    rw [sc2] at h
    exact h.mono fun _ _ ⟨e, g⟩ => ⟨e, below_step hW g.below⟩⟩
  have hs27 : ∀ A W, Below w3.heap.size w3 W → Kd.C K8 W A 3 [113, 47, 51] → Calls Tryd.prog 27 #[.slice A 3 3] W fun e w' => e = .returned (.int .i64 3096992846) ∧ Below w3.heap.size w3 w' := fun A W hW hC => by
    have h := psum_calls ⟨#[113, 47, 51]⟩ A 3 W (by decide) hC (by decide)
    rw [show bytesOf ⟨#[113, 47, 51]⟩ = [113, 47, 51] from rfl, sm3] at h
    exact h.mono fun _ _ ⟨e, g⟩ => ⟨e, below_step hW g.below⟩
  have h27 : Aside0 (∀ W, Below w3.heap.size w3 W → Calls Tryd.prog 27 #[.slice (some ⟨W.heap.size, 0, none⟩) 3 3] (W.alloc (.cells #[.int .u8 113, .int .u8 47, .int .u8 51] 5 (3, 4))) fun e w' => e = .returned (.int .i64 3096992846) ∧ Below w3.heap.size w3 w') := ⟨fun W hW => hs27 _ _ (below_step hW (below_alloc (Below.refl _ _) _)) (C_mark8 W [113, 47, 51] 5 (3, 4) (by decide))⟩
  have h27z : Aside0 (Calls Tryd.prog 27 #[.slice (some ⟨wz.heap.size, 0, none⟩) 3 3] (wz.alloc (.cells #[.int .u8 113, .int .u8 47, .int .u8 51] 5 (3, 4))).drew fun e w' => e = .returned (.int .i64 3096992846) ∧ Below w3.heap.size w3 w') := ⟨h27.out wz.drew HZ.out.drew⟩
  have h27b : Aside0 (∀ W : World, Below w3.heap.size w3 W → Below (wz.alloc (.cells #[.int .u8 113, .int .u8 47, .int .u8 51] 5 (3, 4))).drew.heap.size (wz.alloc (.cells #[.int .u8 113, .int .u8 47, .int .u8 51] 5 (3, 4))).drew W → Calls Tryd.prog 27 #[.slice (some ⟨wz.heap.size, 0, none⟩) 3 3] W fun e w' => e = .returned (.int .i64 3096992846) ∧ Below w3.heap.size w3 w') := ⟨fun W hW hb => hs27 _ _ hW (Kd.C_below (C_mark8 wz [113, 47, 51] 5 (3, 4) (by decide)) (below_step (Below.refl _ _).drew hb))⟩
  have h27c : Aside0 (∀ W : World, Below w3.heap.size w3 W → Below (wz.alloc (.cells #[.int .u8 113, .int .u8 47, .int .u8 51] 5)).drew.heap.size (wz.alloc (.cells #[.int .u8 113, .int .u8 47, .int .u8 51] 5)).drew W → Calls Tryd.prog 27 #[.slice (some ⟨wz.heap.size, 0, none⟩) 3 3] (W.freeze ⟨wz.heap.size, 3, none⟩ 1) fun e w' => e = .returned (.int .i64 3096992846) ∧ Below w3.heap.size w3 w') := ⟨fun W hW hb => hs27 _ _ (below_freeze hW (by exact HZ.out.size) _ _) (C_freeze8 (Kd.C_below (C_lit8 wz [113, 47, 51] 5 (by decide)) (below_step (Below.refl _ _).drew hb)) _ _)⟩
  have hcvA : (convert 50 50 (.slice (some ⟨wz.heap.size, 0, none⟩) 3 3)).run Tryd.prog (wz.alloc (.cells #[.int .u8 113, .int .u8 47, .int .u8 51] 5)).drew = .ok (.slice (some ⟨wz.heap.size, 0, none⟩) 3 3) (wz.alloc (.cells #[.int .u8 113, .int .u8 47, .int .u8 51] 5 (3, 4))).drew := Lib.run_convert_bytes_const (P := Tryd.prog) wz.drew 50 5 #[.int .u8 113, .int .u8 47, .int .u8 51] 3 3 Tryd.underlying50 Tryd.underlying5
  have HZD : Aside0 (Below w3.heap.size w3 wz.drew) := ⟨HZ.out.drew⟩
  have HZA : Aside0 (Below w3.heap.size w3 (wz.alloc (.cells #[.int .u8 113, .int .u8 47, .int .u8 51] 5)).drew) := ⟨(below_step HZ.out (below_alloc (Below.refl _ _) _)).drew⟩
  have HZM : Aside0 (Below w3.heap.size w3 (wz.alloc (.cells #[.int .u8 113, .int .u8 47, .int .u8 51] 5 (3, 4))).drew) := ⟨(below_step HZ.out (below_alloc (Below.refl _ _) _)).drew⟩
  have HZS : Aside0 (w3.heap.size ≤ wz.heap.size) := ⟨HZ.out.size⟩
  have HCC : Aside0 (∀ W : World, Below (wz.alloc (.cells #[.int .u8 113, .int .u8 47, .int .u8 51] 5)).drew.heap.size (wz.alloc (.cells #[.int .u8 113, .int .u8 47, .int .u8 51] 5)).drew W → (convert 50 50 (.slice (some ⟨wz.heap.size, 0, none⟩) 3 3)).run Tryd.prog W = .ok (.slice (some ⟨wz.heap.size, 0, none⟩) 3 3) (W.freeze ⟨wz.heap.size, 3, none⟩ 1)) := ⟨fun W hb => conv_at W wz.heap.size 3 3 #[.int .u8 113, .int .u8 47, .int .u8 51] (0, 0) ((hb.block _ (by simp)).trans (heap_alloc_new wz _))⟩
  clear hs27 hP hE1 hE2
  go_wp2
  rw [cvt_eq]
  have hcvt : ∀ a b x, cvt a b x = Op.convert a b x := fun _ _ _ => rfl
  go_region_held3 (fun W => W.cell? ⟨g1, 0, none⟩ = some (.int .i64 2) ∧ W.cell? ⟨g1, 1, none⟩ = some (.int .i64 0) ∧ W.cell? ⟨gp, 0, none⟩ = some (.string nq) ∧ W.cell? ⟨gp, 1, none⟩ = some (.slice A2 2 c2))
    ((refine HS.out _ ?_; first | exact HY0.out | exact HY2.out | exact HY3.out | exact HY7.out | exact HZD.out | exact HZA.out | exact HZM.out | exact below_step HY3.out (below_alloc (Below.refl _ _) _) | exact below_freeze HY3.out HZS.out _ _))
    (first
    | (go_at_call 27; first
      | ((with_reducible refine h27z.out.mono ?_); rintro e wq ⟨rfl, gq⟩; have HY7 := Aside0.mk gq; clear gq)
      | ((with_reducible refine (h27.out _ HY3.out).mono ?_); rintro e wq ⟨rfl, gq⟩; have HY7 := Aside0.mk gq; clear gq)
      | ((with_reducible refine (h27c.out _ HY3.out HY3u.out).mono ?_); rintro e wq ⟨rfl, gq⟩; have HY7 := Aside0.mk gq; clear gq)
      | ((with_reducible refine (h27b.out _ HY3.out HY3m.out).mono ?_); rintro e wq ⟨rfl, gq⟩; have HY7 := Aside0.mk gq; clear gq))
    | (go_at_call 26; first
      | ((with_reducible refine (h3.out _ HY7.out).mono ?_); rintro e wa ⟨rfl, gb, ga⟩; have HY3 := Aside0.mk ga; clear ga gb)
      | ((with_reducible refine (h3.out _ HZA.out).mono ?_); rintro e wa ⟨rfl, gb, ga⟩; have hcvC := HCC.out wa gb; have HY3 := Aside0.mk ga; have HY3u := Aside0.mk gb; clear ga gb)
      | ((with_reducible refine (h3.out _ HZM.out).mono ?_); rintro e wa ⟨rfl, gb, ga⟩; have HY3 := Aside0.mk ga; have HY3m := Aside0.mk gb; clear ga gb)
      | ((with_reducible refine (h3.out _ HZD.out).mono ?_); rintro e wa ⟨rfl, gb, ga⟩; have hcvD := Lib.run_convert_bytes_const (P := Tryd.prog) wa 50 5 #[.int .u8 113, .int .u8 47, .int .u8 51] 3 3 Tryd.underlying50 Tryd.underlying5; have HY3 := Aside0.mk ga; clear ga gb)
      | ((with_reducible refine (h0.out _ ?_).mono ?_); (first | exact HY2.out | exact HY7.out | exact HY3.out); rintro e wb ⟨rfl, ga⟩; have HY0 := Aside0.mk ga; clear ga)
      | ((with_reducible refine (h2.out _ ?_).mono ?_); (first | exact HY0.out | exact HY7.out | exact HY3.out); rintro e wc ⟨rfl, ga⟩; have HY2 := Aside0.mk ga; clear ga)))
  all_goals (go_wp2; go_ret; first | exact ⟨rfl, below_step HB03.out HY7.out⟩ | exact ⟨rfl, below_step HB03.out HY3.out⟩ | exact ⟨rfl, below_step HB03.out HY2.out⟩ | exact ⟨rfl, below_step HB03.out HY0.out⟩)
end Go.Proofs.YtiiokhoonailaaaDoor.D
