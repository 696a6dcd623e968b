/- What a reading of memory tells of a value's cells, kind by kind: numbers, texts, slices, structs, and their nestings. Conditions: the types, as the program has them. -/
import Derived.Test.YtiiokhoonailaaaDoorWMore
import Derived.Deep.Slices
namespace Go.Proofs.YtiiokhoonailaaaDoor.D
open Go.RowKit Go.Deep Go.Proofs.YtiiokhoonailaaaDoorW.PrintWords

/-- Whatever reads at type t is of kind k, and p holds of it. -/
structure Opens {α : Type} (P : Program) (k : Kd α) (t : TypeId) (p : α → Prop) : Prop where
  sz : P.cellsOf t = k.sz
  op : ∀ {H : Type} {enc : TypeId × Value → H} {w : World} {base : Nat} {spare : Nat → Bool} {held : Bool} {fuel : Nat} {cs : List Value} {x : DataW H × List MemPlace}, DataW.trod enc P w base spare held fuel t cs = some x → ∃ y, k.K w y cs ∧ p y

theorem Opens.int {P : Program} {t : TypeId} {k : IntKind} (ht : P.underlying t = some (.int k)) (hc : P.cellsOf t = 1) : Opens P (Kd.int k) t (fun n => (Lit.int k n).wf = true) :=
  ⟨hc, fun h => by
    obtain ⟨n, rfl, _, hw⟩ := DataW.trod_int ht h
    exact ⟨n, rfl, hw⟩⟩
theorem Opens.string {P : Program} {t : TypeId} (ht : P.underlying t = some .string) (hc : P.cellsOf t = 1) : Opens P Kd.string t (fun s => s.size ≤ maxLen) :=
  ⟨hc, fun h => by
    obtain ⟨n, rfl, _, hw⟩ := DataW.trod_string ht h
    exact ⟨n, rfl, hw⟩⟩
theorem Opens.bool {P : Program} {t : TypeId} (ht : P.underlying t = some .bool) (hc : P.cellsOf t = 1) : Opens P Kd.bool t (fun _ => True) :=
  ⟨hc, fun h => by
    obtain ⟨n, rfl, _⟩ := DataW.trod_bool ht h
    exact ⟨n, rfl, trivial⟩⟩
theorem Opens.iso {α β : Type} {P : Program} {d : Kd α} {t : TypeId} {p : α → Prop} (h : Opens P d t p) (f : β → α) (g : α → β) (hfg : ∀ a, f (g a) = a) : Opens P (Kd.iso d f) t (fun y => p (f y)) :=
  ⟨h.sz, fun hd => by
    obtain ⟨y, h1, h2⟩ := h.op hd
    exact ⟨g y, by show d.K _ (f (g y)) _; rw [hfg]; exact h1, by show p (f (g y)); rw [hfg]; exact h2⟩⟩
theorem Opens.mono {α : Type} {P : Program} {d : Kd α} {t : TypeId} {p q : α → Prop} (h : Opens P d t p) (hpq : ∀ y, p y → q y) : Opens P d t q :=
  ⟨h.sz, fun hd => by
    obtain ⟨y, h1, h2⟩ := h.op hd
    exact ⟨y, h1, hpq y h2⟩⟩

theorem list_of {α : Type} {q : Nat → α → Prop} : ∀ n, (∀ i, i < n → ∃ x, q i x) → ∃ xs : List α, xs.length = n ∧ ∀ j y, xs[j]? = some y → q j y
  | 0, _ => ⟨[], rfl, fun j y h => by simp at h⟩
  | n + 1, h => by
    obtain ⟨xs, h1, h2⟩ := list_of n (fun i hi => h i (by omega))
    obtain ⟨x, hx⟩ := h n (by omega)
    refine ⟨xs ++ [x], by simp [h1], fun j y hj => ?_⟩
    by_cases hlt : j < xs.length
    · rw [List.getElem?_append_left hlt] at hj; exact h2 j y hj
    · rw [List.getElem?_append_right (by omega)] at hj
      obtain ⟨hl, he⟩ := List.getElem?_eq_some_iff.1 hj
      have hj0 : j - xs.length = 0 := by simp at hl; omega
      have hjn : j = n := by omega
      simp only [hj0] at he
      have hjn2 : n = j := hjn.symm
      subst hjn2
      have : y = x := by rw [← he]; rfl
      rw [this]; exact hx

theorem Opens.slice {α : Type} {P : Program} {d : Kd α} {t e : TypeId} {p : α → Prop} (ht : P.underlying t = some (.slice e)) (hc : P.cellsOf t = 1) (h : Opens P d e p) : Opens P (Kd.slice e d) t (fun xs => ∀ x ∈ xs, p x) :=
  ⟨hc, fun {H enc w base spare held fuel cs x} hd => by
    rcases open_slice ht hd with ⟨rfl, _⟩ | ⟨a, len, cap, m, n, D, Pl, rfl, hb, hl, hm, hmm, _, hx⟩
    · exact ⟨[], ⟨none, 0, rfl, Nat.le_refl _, rfl, by simp, fun h => absurd h (by simp)⟩, fun x hx => by cases hx⟩
    · have hlm : len ≤ m := by rw [hmm]; split <;> omega
      obtain ⟨xs, hxs, hq⟩ := list_of (α := α) (q := fun i y => p y ∧ ∃ c, c.length = d.sz ∧ d.K w y c ∧ ∀ j u, c[j]? = some u → w.cell? (a.add (i * d.sz + j)) = some u) len (fun i hi => by
        obtain ⟨cs', h1, h2⟩ := hx i (by omega)
        obtain ⟨y, hK, hp⟩ := h.op h2
        rw [h.sz] at h1
        obtain ⟨_, hlen, hcell⟩ := World.cells?_some h1
        refine ⟨y, hp, cs', hlen, hK, fun j u hu => ?_⟩
        have hj : j < d.sz := by
          obtain ⟨hj, _⟩ := List.getElem?_eq_some_iff.1 hu
          omega
        have := hcell j hj
        rw [Go.Deep.add_add] at this
        rw [this]; exact hu)
      subst hxs
      refine ⟨xs, ⟨some a, cap, rfl, hl, rfl, by simp only [maxLen] at hm; omega, fun _ => ⟨a, rfl, fun j q hj => (hq j q hj).2⟩⟩, fun y hy => ?_⟩
      obtain ⟨j, hj⟩ := List.mem_iff_getElem?.1 hy
      exact (hq j y hj).1⟩

/-- A struct's fields from place o on. -/
structure OpensF {α : Type} (P : Program) (fs : List Field) (o : Nat) (k : Kd α) (p : α → Prop) : Prop where
  op : ∀ {H : Type} {enc : TypeId × Value → H} {w : World} {base : Nat} {spare : Nat → Bool} {held : Bool} {n : Nat} {cs : List Value}, cs.length = o + k.sz →
    (∀ (i : Nat) (f : Field), fs[i]? = some f → ∃ x, DataW.trod enc P w base spare held n f.type ((cs.drop f.offset).take (P.cellsOf f.type)) = some x) → ∃ y, k.K w y (cs.drop o) ∧ p y
theorem OpensF.one {α : Type} {P : Program} {f : Field} {o : Nat} {k : Kd α} {p : α → Prop} (h : Opens P k f.type p) (ho : f.offset = o) : OpensF P [f] o k p :=
  ⟨fun {H enc w base spare held n cs} hl hf => by
    obtain ⟨x, hx⟩ := hf 0 f rfl
    rw [ho, h.sz, List.take_of_length_le (by rw [List.length_drop]; omega)] at hx
    exact h.op hx⟩
theorem OpensF.cons {α β : Type} {P : Program} {f : Field} {fs : List Field} {o : Nat} {k : Kd α} {k' : Kd β} {p : α → Prop} {p' : β → Prop} (h : Opens P k f.type p) (ho : f.offset = o) (h' : OpensF P fs (o + k.sz) k' p') : OpensF P (f :: fs) o (Kd.pair k k') (fun y => p y.1 ∧ p' y.2) :=
  ⟨fun {H enc w base spare held n cs} hl hf => by
    have hl' : cs.length = o + (k.sz + k'.sz) := hl
    obtain ⟨x, hx⟩ := hf 0 f rfl
    rw [ho, h.sz] at hx
    obtain ⟨y, hy, hp⟩ := h.op hx
    obtain ⟨y', hy', hp'⟩ := h'.op (cs := cs) (by omega) (fun i g hg => hf (i + 1) g (by simpa using hg))
    refine ⟨(y, y'), ⟨(cs.drop o).take k.sz, cs.drop (o + k.sz), ?_, hy, hy'⟩, hp, hp'⟩
    rw [← List.drop_drop, List.take_append_drop]⟩
theorem Opens.struct {α : Type} {P : Program} {t : TypeId} {fs : Array Field} {k : Kd α} {p : α → Prop} (ht : P.underlying t = some (.struct fs)) (hc : P.cellsOf t = k.sz) (h : OpensF P fs.toList 0 k p) : Opens P k t p :=
  ⟨hc, fun {H enc w base spare held fuel cs x} hd => by
    obtain ⟨xs, n, _, _, hl, hxl, hf⟩ := DataW.trod_struct ht hd
    have := h.op (enc := enc) (w := w) (base := base) (spare := spare) (held := held) (n := n) (cs := cs) (by omega) (fun i f hi => by
      rw [Array.getElem?_toList] at hi
      obtain ⟨hlt, _⟩ := Array.getElem?_eq_some_iff.1 hi
      exact ⟨xs[i]'(by omega), by rw [hf i f hi]; exact List.getElem?_eq_getElem _⟩)
    simpa using this⟩

/-- An argument that is a slice. -/
theorem Opens.arg {α H : Type} {enc : TypeId × Value → H} {P : Program} {d : Kd α} {t e : TypeId} {p : List α → Prop} (h : Opens P (Kd.slice e d) t p) {w : World} {base : Nat} {spare : Nat → Bool} {held : Bool} {A : Option Addr} {len cap : Nat} {dd : DataW H} {ps : List MemPlace}
    (hd : DataW.Trod enc P w base spare held t (.slice A len cap) dd ps) : ∃ l : List α, len = l.length ∧ Kd.C d w A l.length l ∧ l.length ≤ cap ∧ p l := by
  obtain ⟨n, hn⟩ := hd
  obtain ⟨y, ⟨A', c', e', hl, hC⟩, hp⟩ := h.op hn
  have : [Value.slice A len cap] = [Value.slice A' y.length c'] := e'
  cases this
  exact ⟨y, rfl, hC, hl, hp⟩
end Go.Proofs.YtiiokhoonailaaaDoor.D
