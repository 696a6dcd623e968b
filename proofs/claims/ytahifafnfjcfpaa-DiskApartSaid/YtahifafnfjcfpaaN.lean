/- topic.Name: which texts are names. Conditions: none. -/
import Derived.Test.YtahifafnfjcfpaaProg
import Derived.WalkKit
import Derived.WalkLawsBesides
import Derived.BigGuardPart
namespace Go.Proofs.Ytahifafnfjcfpaa.D
open Go.RowKit

def okc (i n : Nat) : Prop := (97 ≤ n ∧ n ≤ 122) ∨ (i ≠ 0 ∧ (n = 45 ∨ (48 ≤ n ∧ n ≤ 57)))
instance (i n : Nat) : Decidable (okc i n) := by unfold okc; infer_instance
/-- Is a text a name? -/
def Nm (s : ByteArray) : Prop := 1 ≤ s.size ∧ s.size ≤ 16 ∧ ∀ i (h : i < s.size), okc i (s[i]'h).toNat
instance (s : ByteArray) : Decidable (Nm s) := by unfold Nm; infer_instance
def nameB (s : ByteArray) : Bool := decide (Nm s)

theorem nb_false {s : ByteArray} (h : ¬ Nm s) : nameB s = false := decide_eq_false h
theorem iter_below (w : World) (s : ByteArray) (p : Nat) : Below w.heap.size w (w.iter s p) := (Below.refl _ w).alloc (Nat.le_refl _) _

set_option maxRecDepth 100000 in
set_option maxHeartbeats 1000000 in
theorem name_calls (s : ByteArray) (w : World) : Calls Try.prog 20 #[.string s] w fun e w' => e = .returned (.bool (nameB s)) ∧ Below w.heap.size w w' := by
  by_cases h0 : s.size < 1
  · have hb : nameB s = false := nb_false (fun h => by have := h.1; omega)
    rw [hb]
    clear hb
    have d0 : decide ((s.size : Int) < 1) = true := by simp; omega
    go_enter Try.func20, Try.ntmps20
    go_wp2
    go_ret
    exact ⟨rfl, Below.refl _ _⟩
  have d0 : decide ((s.size : Int) < 1) = false := by simp; omega
  by_cases h1 : 16 < s.size
  · have hb : nameB s = false := nb_false (fun h => by have := h.2.1; omega)
    rw [hb]
    clear hb
    have d1 : decide ((16 : Int) < s.size) = true := by simp; omega
    go_enter Try.func20, Try.ntmps20
    go_wp2
    go_ret
    exact ⟨rfl, Below.refl _ _⟩
  have d1 : decide ((16 : Int) < s.size) = false := by simp; omega
  go_enter Try.func20, Try.ntmps20
  go_wp2
  go_loopw [3] (fun _ w' => ∃ pos : Nat, pos ≤ s.size ∧ w' = w.iter s pos ∧ Hid (∀ i (h : i < s.size), i < pos → okc i (s[i]'h).toNat)) (fun _ w' => s.size - w'.iterPos w.heap.size)
  case atStart => exact ⟨0, Nat.zero_le _, rfl, fun i _ h => absurd h (by omega)⟩
  case round =>
    obtain ⟨pos, hpos, rfl, hok⟩ := hrel
    by_cases hp : pos < s.size
    · have hbad : ¬ okc pos (s[pos]'hp).toNat → nameB s = false := fun h => nb_false (fun hn => h (hn.2.2 pos hp))
      by_cases ha : (s[pos]'hp).toNat < 128
      · have hnx : ∀ ty, (Instr.next (.pointer (some ⟨w.heap.size, 0, none⟩)) true ty).run Try.prog (w.iter s pos) = _ := fun ty => run_next_ascii w s pos ty hp ha
        have hstep : okc pos (s[pos]'hp).toNat → Hid (∀ i (h : i < s.size), i < pos + 1 → okc i (s[i]'h).toNat) := fun h i hi hlt => by
          by_cases e : i = pos
          · subst e; exact h
          · exact hok.out i hi (by omega)
        clear hok
        generalize hc : (s[pos]'hp).toNat = c at *
        clear hc
        have hgood : okc pos c → Hid (∀ i (h : i < s.size), i < pos + 1 → okc i (s[i]'h).toNat) := hstep
        clear hstep
        by_cases k1 : 97 ≤ c ∧ c ≤ 122
        · obtain ⟨k1, k2⟩ := k1
          have b1 : decide ((97 : Int) ≤ c) = true := by simp; omega
          have b2 : decide ((c : Int) ≤ 122) = true := by simp; omega
          go_wp2
          go_roundw
          case rel => exact ⟨pos + 1, by omega, rfl, hgood (by unfold okc; omega)⟩
          case measure => simp; omega
        by_cases k0 : pos = 0
        · have b0 : ((pos : Int) == 0) = true := by simp; omega
          by_cases k2 : 97 ≤ c
          · have b1 : decide ((97 : Int) ≤ c) = true := by simp; omega
            have b2 : decide ((c : Int) ≤ 122) = false := by simp; omega
            have hb : Hid (nameB s = false) := hbad (by unfold okc; omega)
            clear hbad hgood k0
            go_wp2
            go_ret
            exact ⟨by rw [hb.out]; rfl, iter_below _ _ _⟩
          · have b1 : decide ((97 : Int) ≤ c) = false := by simp; omega
            have hb : Hid (nameB s = false) := hbad (by unfold okc; omega)
            clear hbad hgood k0
            go_wp2
            go_ret
            exact ⟨by rw [hb.out]; rfl, iter_below _ _ _⟩
        have b0 : ((pos : Int) == 0) = false := by simp; omega
        by_cases k2 : 97 ≤ c
        · have b1 : decide ((97 : Int) ≤ c) = true := by simp; omega
          have b2 : decide ((c : Int) ≤ 122) = false := by simp; omega
          have b3 : ((c : Int) != 45) = true := by simp; omega
          have b4 : decide ((c : Int) < 48) = false := by simp; omega
          have b5 : decide ((57 : Int) < c) = true := by simp; omega
          have hb : Hid (nameB s = false) := hbad (by unfold okc; omega)
          clear hbad hgood
          go_wp2
          go_ret
          exact ⟨by rw [hb.out]; rfl, iter_below _ _ _⟩
        have b1 : decide ((97 : Int) ≤ c) = false := by simp; omega
        by_cases k3 : c = 45
        · have b3 : ((c : Int) != 45) = false := by simp; omega
          have hg2 := hgood (by unfold okc; omega)
          clear hgood hbad
          have b4 : (45 : Nat) ≤ c := by omega
          have b5 : c ≤ 45 := by omega
          clear k3
          go_wp2
          go_roundw
          case rel => exact ⟨pos + 1, by omega, rfl, hg2⟩
          case measure => simp; omega
        have b3 : ((c : Int) != 45) = true := by simp; omega
        by_cases k4 : c < 48
        · have b4 : decide ((c : Int) < 48) = true := by simp; omega
          have hb : Hid (nameB s = false) := hbad (by unfold okc; omega)
          clear hbad hgood
          go_wp2
          go_ret
          exact ⟨by rw [hb.out]; rfl, iter_below _ _ _⟩
        have b4 : decide ((c : Int) < 48) = false := by simp; omega
        by_cases k5 : 57 < c
        · have b5 : decide ((57 : Int) < c) = true := by simp; omega
          have hb : Hid (nameB s = false) := hbad (by unfold okc; omega)
          clear hbad hgood
          go_wp2
          go_ret
          exact ⟨by rw [hb.out]; rfl, iter_below _ _ _⟩
        have b5 : decide ((57 : Int) < c) = false := by simp; omega
        go_wp2
        go_roundw
        case rel => exact ⟨pos + 1, by omega, rfl, hgood (by unfold okc; omega)⟩
        case measure => simp; omega
      · have hd := decode_high s pos hp (by omega)
        have hnx : ∀ ty, (Instr.next (.pointer (some ⟨w.heap.size, 0, none⟩)) true ty).run Try.prog (w.iter s pos) = _ := fun ty => run_next_any w s pos ty hp
        have hb : Hid (nameB s = false) := hbad (by unfold okc; omega)
        clear hbad hok
        generalize (Utf8.decode s pos).1 = c at *
        generalize (Utf8.decode s pos).2 = g at *
        have b1 : decide ((97 : Int) ≤ c) = true := by simp; omega
        have b2 : decide ((c : Int) ≤ 122) = false := by simp; omega
        have b3 : ((c : Int) != 45) = true := by simp; omega
        have b4 : decide ((c : Int) < 48) = false := by simp; omega
        have b5 : decide ((57 : Int) < c) = true := by simp; omega
        by_cases k0 : pos = 0
        · have b0 : ((pos : Int) == 0) = true := by simp; omega
          clear k0
          go_wp2
          go_ret
          exact ⟨by rw [hb.out]; rfl, iter_below _ _ _⟩
        · have b0 : ((pos : Int) == 0) = false := by simp; omega
          go_wp2
          go_ret
          exact ⟨by rw [hb.out]; rfl, iter_below _ _ _⟩
    · have hnx : ∀ ty, (Instr.next (.pointer (some ⟨w.heap.size, 0, none⟩)) true ty).run Try.prog (w.iter s pos) = _ := fun ty => run_next_end w s pos ty hp
      have hb : Hid (nameB s = true) := decide_eq_true ⟨by omega, by omega, fun i hi => hok.out i hi (by omega)⟩
      clear hok
      go_wp2
      go_ret
      exact ⟨by rw [hb.out]; rfl, iter_below _ _ _⟩
end Go.Proofs.Ytahifafnfjcfpaa.D
