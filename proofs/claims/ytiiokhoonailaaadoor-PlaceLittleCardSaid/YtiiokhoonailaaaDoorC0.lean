/- Score, the program's and the reference's, at nodes 0 to 6. Conditions: a name below 2^30 bytes. -/
import Derived.Test.YtiiokhoonailaaaDoorP0
import Derived.Test.YtiiokhoonailaaaDoorS
import Derived.Lib.Hide
import Derived.Lib.QuietBelow
namespace Go.Proofs.YtiiokhoonailaaaDoor.D
open Go.RowKit Go.Sort Go.Proofs.YtiiokhoonailaaaDoorW.PrintWords Go.Proofs.YtiiokhoonailaaaDoorW.PrintLast Go.Proofs.YtiiokhoonailaaaDoorW.PrintMore
open Go.Proofs.YtiiokhoonailaaaDoor.R

abbrev K8 : Kd Int := Kd.int .u8
abbrev KI : Kd Int := Kd.int .i64
/-- The elder world stands; new blocks; draws. -/
structure Grn (w w' : World) : Prop where
  below : Below w.heap.size w w'
  drawn : w.drawn ≤ w'.drawn
theorem Grn.refl (w : World) : Grn w w := ⟨Below.refl _ _, Nat.le_refl _⟩
theorem Grn.then_ {a b c : World} (h : Grn a b) (k : Grn b c) : Grn a c := ⟨h.below.trans (k.below.mono h.below.size), Nat.le_trans h.drawn k.drawn⟩
theorem Grn.drew (w : World) : Grn w w.drew := ⟨(Below.refl _ _).drew, Nat.le_succ _⟩
theorem Grn.drewN (w : World) (n : Nat) : Grn w (w.drewN n) := ⟨pw_below_drewN (Below.refl _ _) n, Nat.le_add_right _ _⟩
theorem Grn.alloc (w : World) (o : Obj) : Grn w (w.alloc o) := ⟨below_alloc (Below.refl _ _) o, Nat.le_refl _⟩
theorem Grn.drawn0 {w w' : World} (h : Drawn0 w w') : Grn w w' := by
  obtain ⟨n, rfl⟩ := h.out
  exact Grn.drewN w n
theorem Grn.grow {w w' : World} (h : Grn w w') : ∃ q os, w' = Go.Sort.grow (w.drewN q) os := by
  obtain ⟨p, hp⟩ := regrown_of_below h.below
  have hd : w'.drawn = p.d := by rw [hp]; rfl
  refine ⟨p.d - w.drawn, p.os, ?_⟩
  rw [hp]
  have : redrawn w p.d = w.drewN (p.d - w.drawn) := by
    unfold redrawn World.drewN
    have := h.drawn
    rw [show w.drawn + (p.d - w.drawn) = p.d by omega]
  rw [this]

def scS (s : ByteArray) (i : Nat) : ByteArray := s ++ ⟨#[47]⟩ ++ ⟨#[UInt8.ofNat (48 + i)]⟩
/-- The score of node i for a name. -/
def scN (s : ByteArray) (i : Nat) : Nat := sumN (bytesOf (scS s i))
theorem scS_size (s : ByteArray) (i : Nat) : (scS s i).size = s.size + 2 := by
  unfold scS
  rw [ByteArray.size_append, ByteArray.size_append]; rfl
theorem dec_small {i : Nat} (h : i < 7) : (⟨(Lib.decDigits i).toArray⟩ : ByteArray) = ⟨#[UInt8.ofNat (48 + i)]⟩ := by
  unfold Lib.decDigits
  rw [dif_pos (by omega)]
theorem scN_lt (s : ByteArray) (i : Nat) : scN s i < 4294967296 := sumN_lt _
theorem bytesOf_bd (s : ByteArray) : ∀ x ∈ bytesOf s, 0 ≤ x ∧ x < 256 := by
  intro x hx
  unfold bytesOf at hx
  obtain ⟨u, _, rfl⟩ := List.mem_map.1 hx
  have := u.toNat_lt
  omega

theorem psum_calls (s : ByteArray) (A : Option Addr) (c : Nat) (w : World) (hs : s.size < 1073741824) (hr : Kd.C K8 w A (bytesOf s).length (bytesOf s)) (hc : s.size ≤ c) : Calls Tryd.prog 27 #[.slice A s.size c] w fun e w' => e = .returned (.int .i64 ((sumN (bytesOf s) : Nat) : Int)) ∧ Grn w w' := by
  have h := frame_Sum.calls ((bytesOf s).length + 1) A c (bytesOf s) _ w hr (by rw [bytesOf_length]; exact hc) (psum_f (bytesOf s) (bytesOf_bd s) (by rw [bytesOf_length]; exact hs))
  rw [bytesOf_length] at h
  exact h.mono fun _ _ ⟨h1, h2⟩ => ⟨h1, Grn.drawn0 h2⟩
theorem rsum_calls (s : ByteArray) (A : Option Addr) (c : Nat) (w : World) (hs : s.size < 1073741824) (hr : Kd.C K8 w A (bytesOf s).length (bytesOf s)) (hc : s.size ≤ c) : Calls Tryd.prog 35 #[.slice A s.size c] w fun e w' => e = .returned (.int .i64 ((sumN (bytesOf s) : Nat) : Int)) ∧ Grn w w' := by
  have h := brokerref04_Sum.calls ((bytesOf s).length + 1) A c (bytesOf s) _ w hr (by rw [bytesOf_length]; exact hc) (rsum_f (bytesOf s) (bytesOf_bd s) (by rw [bytesOf_length]; exact hs))
  rw [bytesOf_length] at h
  exact h.mono fun _ _ ⟨h1, h2⟩ => ⟨h1, Grn.drawn0 h2⟩
theorem bytes_grn (w : World) (s : ByteArray) : Grn w (Lib.bytesWorld w 5 s) := ⟨bytes_below (Below.refl _ _) (Nat.le_refl _) 5 s, Nat.le_succ _⟩

/-- What the call of a sum is told. -/
theorem score_pre (s : ByteArray) (i : Nat) (hs : s.size ≤ 1073741000) (w : World) (g : Nat) (hsum : ∀ A c W, Kd.C K8 W A (bytesOf (scS s i)).length (bytesOf (scS s i)) → (scS s i).size ≤ c → Calls Tryd.prog g #[.slice A (scS s i).size c] W fun e w' => e = .returned (.int .i64 ((sumN (bytesOf (scS s i)) : Nat) : Int)) ∧ Grn W w') :
    ∃ b m c wb, (⟨#[UInt8.ofNat (48 + i)]⟩ : ByteArray) = ⟨#[b]⟩ ∧ (convert 9 50 (.string (s ++ ⟨#[47]⟩ ++ ⟨#[b]⟩))).run Tryd.prog w = .ok (.slice (some ⟨w.heap.size, 0, none⟩) m c) wb ∧ Calls Tryd.prog g #[.slice (some ⟨w.heap.size, 0, none⟩) m c] wb fun e w' => e = .returned (.int .i64 ((scN s i : Nat) : Int)) ∧ Grn w w' := by
  refine ⟨UInt8.ofNat (48 + i), (scS s i).size, grownCap w (scS s i).size 0 5, Lib.bytesWorld w 5 (scS s i), rfl, print_bytes (P := Tryd.prog) 9 50 5 Tryd.underlying9 Tryd.underlying50 Tryd.underlying5 (scS s i) w, ?_⟩
  have hsz := scS_size s i
  refine (hsum _ _ _ ?_ (grownCap_ge w (scS s i).size 0 5)).mono fun e w' ⟨h1, h2⟩ => ⟨h1, (bytes_grn w _).then_ h2⟩
  rw [bytesOf_length]
  exact Kd.C_of_reads (d := (0 : Int)) (h1 := fun _ => rfl) (bytes_reads w 5 _ (by omega))

set_option maxRecDepth 100000 in
set_option maxHeartbeats 400000 in
theorem score_calls (s : ByteArray) (i : Nat) (hi : i < 7) (hs : s.size ≤ 1073741000) (w : World) : Calls Tryd.prog 26 #[.string s, .int .i64 (i : Int)] w fun e w' => e = .returned (.int .i64 ((scN s i : Nat) : Int)) ∧ Grn w w' := by
  have hit := Tryd.strconv_Itoa_small i (by omega) w
  rw [dec_small hi] at hit
  have hsz := scS_size s i
  obtain ⟨b, m, c, wb, e, kb, hcall⟩ := score_pre s i hs w 27 (fun A c W h1 h2 => psum_calls _ A c W (by omega) h1 h2)
  rw [e] at hit
  have h1 : ¬ 9223372036854775807 < s.size + 1 := by omega
  have h2 : ¬ 9223372036854775807 < s.size + 1 + 1 := by omega
  clear hsz e
  generalize scN s i = r at *
  go_enter Tryd.func26, Tryd.ntmps26
  go_wp2_with fail
  refine hit.mono ?_
  rintro e w' ⟨rfl, rfl⟩
  go_wp2_with fail
  refine hcall.mono ?_
  rintro e w2 ⟨rfl, hg⟩
  go_wp2
  go_ret
  exact ⟨rfl, hg⟩
set_option maxRecDepth 100000 in
set_option maxHeartbeats 400000 in
theorem rscore_calls (s : ByteArray) (i : Nat) (hi : i < 7) (hs : s.size ≤ 1073741000) (w : World) : Calls Tryd.prog 31 #[.string s, .int .i64 (i : Int)] w fun e w' => e = .returned (.int .i64 ((scN s i : Nat) : Int)) ∧ Grn w w' := by
  have hit := Tryd.strconv_Itoa_small i (by omega) w
  rw [dec_small hi] at hit
  have hsz := scS_size s i
  obtain ⟨b, m, c, wb, e, kb, hcall⟩ := score_pre s i hs w 35 (fun A c W h1 h2 => rsum_calls _ A c W (by omega) h1 h2)
  rw [e] at hit
  have h1 : ¬ 9223372036854775807 < s.size + 1 := by omega
  have h2 : ¬ 9223372036854775807 < s.size + 1 + 1 := by omega
  clear hsz e
  generalize scN s i = r at *
  go_enter Tryd.func31, Tryd.ntmps31
  go_wp2_with fail
  refine hit.mono ?_
  rintro e w' ⟨rfl, rfl⟩
  go_wp2_with fail
  refine hcall.mono ?_
  rintro e w2 ⟨rfl, hg⟩
  go_wp2
  go_ret
  exact ⟨rfl, hg⟩
end Go.Proofs.YtiiokhoonailaaaDoor.D
