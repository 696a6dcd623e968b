/- The disk's files as they lie in memory: what is told of them, and what carries it on. Conditions: none. -/
import Derived.Test.YtahifafnfjcfpaaR0
import Derived.Test.YtahifafnfjcfpaaD0
namespace Go.Proofs.Ytahifafnfjcfpaa.D
open Go.RowKit Go.Maps Go.Proofs.YtahifafnfjcfpaaW.PrintWords Go.Proofs.YtahifafnfjcfpaaW.PrintLast Go.Proofs.YtahifafnfjcfpaaW.PrintMore
open Go.Proofs.Ytahifafnfjcfpaa.R (S61 k61)

/-- An element of a map, as it stands. -/
def rawR (v : Value) : Option (DataW Value × List MemPlace) := some (.held v, [])
theorem strKeyed : Keyed Try.prog 9 := string_keyed Try.underlying9

/-- A file: its name, bytes and safe bytes; its block; the value of its slice. -/
structure E where
  f : S61
  fb : Nat
  v : Value

def key (s : ByteArray) : List UInt8 := s.data.toList
def ptr (b : Nat) : Value := .pointer (some ⟨b, 0, none⟩)
def ent (x : E) : Lit × DataW Value := (.string (key x.f.f0), .held (ptr x.fb))
def Dm (L : List E) : DataW Value := .map (L.map ent)

/-! ### lists of files, in ascending order of names -/
def ins (f : S61) : List S61 → List S61
  | [] => [f]
  | g :: r => if bytesBefore (key f.f0) (key g.f0) then f :: g :: r else g :: ins f r
def insE (x : E) : List E → List E
  | [] => [x]
  | y :: r => if bytesBefore (key x.f.f0) (key y.f.f0) then x :: y :: r else y :: insE x r
def del (n : List UInt8) (F : List S61) : List S61 := F.filter fun g => !(key g.f0 == n)
def delE (n : List UInt8) (L : List E) : List E := L.filter fun y => !(key y.f.f0 == n)
def put (f : S61) (F : List S61) : List S61 := ins f (del (key f.f0) F)
def putE (x : E) (L : List E) : List E := insE x (delE (key x.f.f0) L)
def find (F : List S61) (n : List UInt8) : Option S61 := F.find? fun g => key g.f0 == n
def findE (L : List E) (n : List UInt8) : Option E := L.find? fun y => key y.f.f0 == n
def look (L : List E) (n : List UInt8) : Value := match findE L n with | some x => ptr x.fb | none => .pointer none

theorem insE_map (x : E) : ∀ L, (insE x L).map E.f = ins x.f (L.map E.f)
  | [] => rfl
  | y :: r => by
    unfold insE
    simp only [List.map_cons, ins]
    split
    · rfl
    · rw [List.map_cons, insE_map x r]
theorem delE_map (n : List UInt8) (L : List E) : (delE n L).map E.f = del n (L.map E.f) := by
  unfold delE del
  rw [List.filter_map]
  rfl
theorem putE_map (x : E) (L : List E) : (putE x L).map E.f = put x.f (L.map E.f) := by rw [putE, insE_map, delE_map]; rfl
theorem findE_map (L : List E) (n : List UInt8) : find (L.map E.f) n = (findE L n).map E.f := by
  unfold find findE
  rw [List.find?_map]
  rfl
theorem mem_insE {x y : E} : ∀ {L : List E}, y ∈ insE x L → y = x ∨ y ∈ L
  | [], h => by simpa [insE] using h
  | z :: r, h => by
    unfold insE at h
    split at h
    · simpa using h
    · rcases List.mem_cons.1 h with rfl | h
      · exact .inr (by simp)
      · rcases mem_insE h with h | h
        · exact .inl h
        · exact .inr (by simp [h])
theorem mem_delE {n : List UInt8} {y : E} {L : List E} (h : y ∈ delE n L) : y ∈ L := (List.mem_filter.1 h).1
theorem mem_delE_ne {n : List UInt8} {y : E} {L : List E} (h : y ∈ delE n L) : key y.f.f0 ≠ n := by simpa [delE] using (List.mem_filter.1 h).2
theorem mem_putE {x y : E} {L : List E} (h : y ∈ putE x L) : y = x ∨ (y ∈ L ∧ key y.f.f0 ≠ key x.f.f0) := by
  rcases mem_insE h with h | h
  · exact .inl h
  · exact .inr ⟨mem_delE h, mem_delE_ne h⟩
theorem length_insE (x : E) : ∀ L : List E, (insE x L).length = L.length + 1
  | [] => rfl
  | y :: r => by
    unfold insE
    split
    · rfl
    · simp [length_insE x r]
theorem length_ins (x : S61) : ∀ L : List S61, (ins x L).length = L.length + 1
  | [] => rfl
  | y :: r => by
    unfold ins
    split
    · rfl
    · simp [length_ins x r]
theorem length_put (f : S61) (F : List S61) : (put f F).length ≤ F.length + 1 := by
  unfold put
  rw [length_ins]
  have := List.length_filter_le (fun g : S61 => !(key g.f0 == key f.f0)) F
  unfold del
  omega

/-! ### the map as read -/
theorem insert_ent (x : E) : ∀ L : List E, DataW.insert (ent x) (L.map ent) = (insE x L).map ent
  | [] => rfl
  | y :: r => by
    simp only [List.map_cons, DataW.insert, insE]
    show (if bytesBefore (key x.f.f0) (key y.f.f0) = true then _ else _) = _
    split
    · rfl
    · rw [insert_ent x r]; rfl
theorem filter_ent (n : List UInt8) (L : List E) : (L.map ent).filter (fun p => !p.1.sameKey (.string n)) = (delE n L).map ent := by
  unfold delE
  rw [List.filter_map]
  rfl
theorem Dm_put (x : E) (L : List E) : (Dm L).put (.string (key x.f.f0)) (.held (ptr x.fb)) = Dm (putE x L) := by
  show DataW.map (DataW.insert (ent x) ((L.map ent).filter fun p => !p.1.sameKey (.string (key x.f.f0)))) = _
  rw [filter_ent, insert_ent]
  rfl
theorem Dm_del (n : List UInt8) (L : List E) : (Dm L).del (.string n) = Dm (delE n L) := by
  show DataW.map ((L.map ent).filter fun p => !p.1.sameKey (.string n)) = _
  rw [filter_ent]
  rfl
theorem Dm_at (n : List UInt8) (L : List E) : (Dm L).atKey (.string n) (.held (.pointer none)) = .held (look L n) := by
  unfold DataW.atKey Dm
  simp only []
  rw [List.find?_map]
  have e : ((fun p : Lit × DataW Value => p.1.sameKey (.string n)) ∘ ent) = fun y : E => key y.f.f0 == n := rfl
  rw [e]
  unfold look findE
  cases L.find? (fun y : E => key y.f.f0 == n) <;> rfl
theorem Dm_size (L : List E) : Maps.size (Dm L) = L.length := by simp [Dm, Maps.size]

/-! ### one file, all files -/
structure FileAt (w : World) (base : Nat) (ok : Nat → Prop) (x : E) : Prop where
  blk : w.heap[x.fb]? = some (.cells #[x.v, .int .i64 x.f.f2] 57 (0, 0))
  row : FRow w base ok x.v (bytesOf x.f.f1)
  ge : base ≤ x.fb
  okb : ok x.fb
  lo : 0 ≤ x.f.f2
  hi : x.f.f2 ≤ (x.f.f1.size : Int)
  len : x.f.f1.size ≤ 65536
  nm : x.f.f0.size ≤ 16
section
variable {w w1 : World} {base : Nat} {ok ok' : Nat → Prop} {x y : E} {d m n : Nat} {L : List E}
theorem FileAt.mono (h : FileAt w base ok x) (hk : ∀ k, ok k → ok' k) : FileAt w base ok' x :=
  ⟨h.blk, h.row.mono (fun k _ => hk k), h.ge, hk _ h.okb, h.lo, h.hi, h.len, h.nm⟩
theorem FileAt.lt (h : FileAt w base ok x) : x.fb < w.heap.size := blk_lt h.blk
/-- What it stands on: its own block, and its slice's. -/
theorem FileAt.keep (h : FileAt w base ok x) (hm : ∀ k, ok k → k < w.heap.size → (k = x.fb ∨ x.v.ownBlock = some k) → w1.heap[k]? = w.heap[k]?) : FileAt w1 base ok x :=
  ⟨(hm _ h.okb h.lt (.inl rfl)).trans h.blk, h.row.move (fun k hk => hm k (h.row.isok k hk) (h.row.lt k hk) (.inr hk)), h.ge, h.okb, h.lo, h.hi, h.len, h.nm⟩
theorem FileAt.bound (h : FileAt w base ok x) : FileAt w base (fun k => ok k ∧ k < w.heap.size) x :=
  ⟨h.blk, h.row.mono (fun k hk ho => ⟨ho, h.row.lt k hk⟩), h.ge, ⟨h.okb, h.lt⟩, h.lo, h.hi, h.len, h.nm⟩

def Apart (x y : E) : Prop := x.fb ≠ y.fb ∧ ∀ k, x.v.ownBlock = some k → y.v.ownBlock ≠ some k

structure DAtL (w : World) (base : Nat) (ok : Nat → Prop) (d m n : Nat) (L : List E) : Prop where
  hd : w.heap[d]? = some (.cells #[.map (some m)] 53 (0, 0))
  map : w.ownsMap Try.prog 9 rawR m n (Dm L)
  gd : base ≤ d
  gm : base ≤ m
  okd : ok d
  okm : ok m
  files : ∀ x ∈ L, FileAt w base ok x
  apart : ∀ x ∈ L, ∀ y ∈ L, key x.f.f0 ≠ key y.f.f0 → Apart x y

/-- A disk at block d: its files. -/
def DAt (w : World) (base : Nat) (ok : Nat → Prop) (d : Nat) (F : List S61) : Prop := ∃ m n L, DAtL w base ok d m n L ∧ L.map E.f = F

theorem map_move (h : w.ownsMap Try.prog 9 rawR m n (Dm L)) (hm : w1.heap[m]? = w.heap[m]?) : w1.ownsMap Try.prog 9 rawR m n (Dm L) := by
  obtain ⟨es, clock, hb, r⟩ := h
  exact ⟨es, clock, hm.trans hb, r⟩
theorem map_tight (h : w.ownsMap Try.prog 9 rawR m n (Dm L)) : w.ownsMap Try.prog 9 rawR m L.length (Dm L) := by
  have hs := h.size_le
  obtain ⟨es, clock, hb, F, _, hD⟩ := h
  refine ⟨es, clock, hb, F, ?_, hD⟩
  have : Maps.size (Dm L) = es.size := by rw [hD]; simp [Maps.size, length_sorted]
  rw [Dm_size] at this
  omega
theorem DAtL.mono (h : DAtL w base ok d m n L) (hk : ∀ k, ok k → ok' k) : DAtL w base ok' d m n L :=
  ⟨h.hd, h.map, h.gd, h.gm, hk _ h.okd, hk _ h.okm, fun x hx => (h.files x hx).mono hk, h.apart⟩
theorem DAtL.bound (h : DAtL w base ok d m n L) : DAtL w base (fun k => ok k ∧ k < w.heap.size) d m n L :=
  ⟨h.hd, h.map, h.gd, h.gm, ⟨h.okd, blk_lt h.hd⟩, ⟨h.okm, h.map.lt⟩, fun x hx => (h.files x hx).bound, h.apart⟩
theorem DAtL.move (h : DAtL w base ok d m n L) (hm : ∀ k, ok k → k < w.heap.size → w1.heap[k]? = w.heap[k]?) : DAtL w1 base ok d m n L :=
  ⟨(hm d h.okd (blk_lt h.hd)).trans h.hd, map_move h.map (hm m h.okm h.map.lt), h.gd, h.gm, h.okd, h.okm, fun x hx => (h.files x hx).keep (fun k hk hl _ => hm k hk hl), h.apart⟩
theorem DAtL.m_ne {g : Nat} {cs : Array Value} {t : TypeId} {fr : Nat × Nat} (h : DAtL w base ok d m n L) (hb : w.heap[g]? = some (.cells cs t fr)) : m ≠ g := by
  rintro rfl
  obtain ⟨es, clock, he, _⟩ := h.map
  rw [he] at hb
  cases hb

/-- 'd.files[name]'. -/
theorem DAtL.look (h : DAtL w base ok d m n L) (s : ByteArray) (hs : s.size ≤ maxLen) : (Instr.lookup 51 (.map (some m)) (.string s) false).run Try.prog w = .ok (look L (key s)) w := by
  obtain ⟨v, ps, hrun, hv⟩ := h.map.lookup (z := .pointer none) (zd := .held (.pointer none)) (zp := []) strKeyed Try.underlying51 (by kernel_rfl) rfl (WideMaps.keyOf_string_mk Try.underlying9 hs)
  rw [hrun]
  have e : rawR v = some ((Dm L).atKey (.string (key s)) (.held (.pointer none)), ps) := hv
  rw [Dm_at] at e
  simp only [rawR, Option.some.injEq, Prod.mk.injEq, DataW.held.injEq] at e
  rw [e.1]

/-- The list with a file in the place of that of the same name. -/
def updE (x : E) (L : List E) : List E := L.map fun y => if key y.f.f0 = key x.f.f0 then x else y
def upd (f : S61) (F : List S61) : List S61 := F.map fun g => if key g.f0 = key f.f0 then f else g
theorem updE_map (x : E) (L : List E) : (updE x L).map E.f = upd x.f (L.map E.f) := by
  simp only [updE, upd, List.map_map]
  refine List.map_congr_left fun y _ => ?_
  simp only [Function.comp]
  split <;> rfl
theorem findE_some {s : ByteArray} (h : findE L (key s) = some x) : x ∈ L ∧ key x.f.f0 = key s := by
  have h1 := List.mem_of_find?_eq_some h
  have h2 := List.find?_some h
  exact ⟨h1, by simpa using h2⟩

end
end Go.Proofs.Ytahifafnfjcfpaa.D
