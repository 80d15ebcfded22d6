/- What lies in memory of a map of rows, of the document's map, and of lists of numbers; what keeps it. No walk. -/
import Derived.Test.YtnmnecjelpglhaaKit
import Derived.Lib.SmallJoins
namespace Go.Proofs.Ytnmnecjelpglhaa.Alloc
open Go.RowKit

/-- A list of numbers at an address, nil let in. -/
def IntsAt (w : World) (A : Option Addr) (l : List Int) : Prop := 0 < l.length → ∃ ad, A = some ad ∧ ad.block < w.heap.size ∧ ∀ i x, l[i]? = some x → w.cell? (ad.add i) = some (.int .i64 x)

theorem block_of_add (a : Addr) (n : Nat) : (a.add n).block = a.block := by unfold Addr.add; split <;> rfl

theorem IntsAt.at_ {w : World} {A : Option Addr} {l : List Int} (h : IntsAt w A l) {k : Nat} (hk : k < l.length) : ∃ ad, A = some ad ∧ ad.block < w.heap.size ∧ w.cell? (ad.add k) = some (.int .i64 l[k]) := by
  obtain ⟨ad, h1, h2, h3⟩ := h (by omega)
  exact ⟨ad, h1, h2, h3 k _ (List.getElem?_eq_getElem hk)⟩

theorem IntsAt.keep {w w' : World} {A : Option Addr} {l : List Int} (h : IntsAt w A l) (hs : w.heap.size ≤ w'.heap.size) (hb : ∀ ad, A = some ad → w'.heap[ad.block]? = w.heap[ad.block]?) : IntsAt w' A l := fun hl => by
  obtain ⟨ad, h1, h2, h3⟩ := h hl
  refine ⟨ad, h1, by omega, fun i x hx => ?_⟩
  rw [← h3 i x hx]
  apply World.cell?_of_block
  rw [block_of_add]
  exact hb ad h1
theorem IntsAt.below {w w' : World} {A : Option Addr} {l : List Int} (h : IntsAt w A l) (hb : Below w.heap.size w w') : IntsAt w' A l := fun hl => by
  obtain ⟨ad, h1, h2, h3⟩ := h hl
  exact ⟨ad, h1, Nat.lt_of_lt_of_le h2 hb.size, fun i x hx => (World.cell?_of_block (by rw [block_of_add]; exact hb.block _ h2)).trans (h3 i x hx)⟩
theorem IntsAt.grown {w w' : World} {A : Option Addr} {l : List Int} {o : Option Nat} (h : IntsAt w A l) (hg : w.grownBy w' o) (hne : ∀ ad, A = some ad → some ad.block ≠ o) : IntsAt w' A l := fun hl => by
  obtain ⟨ad, h1, h2, h3⟩ := h hl
  exact ⟨ad, h1, Nat.lt_of_lt_of_le h2 hg.size, fun i x hx => (World.cell?_of_block (by rw [block_of_add]; exact hg.block _ h2 (hne ad h1))).trans (h3 i x hx)⟩
theorem IntsAt.take {w : World} {A : Option Addr} {l : List Int} (h : IntsAt w A l) (k : Nat) : IntsAt w A (l.take k) := fun hl => by
  obtain ⟨ad, h1, h2, h3⟩ := h (by rw [List.length_take] at hl; omega)
  refine ⟨ad, h1, h2, fun i x hx => h3 i x ?_⟩
  rw [List.getElem?_take] at hx
  split at hx
  · exact hx
  · cases hx

/-- A row of bytes at the head of block r, none of them frozen. -/
def RowI (w : World) (r : Nat) (L : List Int) : Prop := ∀ i x, L[i]? = some x → w.cell? ⟨r, i, none⟩ = some (.int .u8 x) ∧ w.frozen? ⟨r, i, none⟩ = false

theorem RowI.set {w : World} {r : Nat} {L : List Int} (h : RowI w r L) (i : Nat) (hi : i < L.length) (x : Int) : RowI (w.setCell ⟨r, i, none⟩ (.int .u8 x)) r (L.set i x) := by
  intro j d hd
  by_cases hij : i = j
  · subst hij
    have hd' : d = x := by rw [List.getElem?_set_self hi] at hd; exact (Option.some.inj hd).symm
    subst hd'
    obtain ⟨h1, h2⟩ := h i _ (List.getElem?_eq_getElem hi)
    exact ⟨World.cell?_setCell_same _ _ _ h1, by rw [World.frozen?_setCell]; exact h2⟩
  · rw [List.getElem?_set_ne hij] at hd
    obtain ⟨h1, h2⟩ := h j d hd
    refine ⟨?_, by rw [World.frozen?_setCell]; exact h2⟩
    rw [World.cell?_setCell_other]
    · exact h1
    · intro e; injection e with _ e2 _; exact hij e2
theorem RowI.keep {w w' : World} {r : Nat} {L : List Int} (h : RowI w r L) (hb : w'.heap[r]? = w.heap[r]?) : RowI w' r L := fun i x hx => by
  obtain ⟨h1, h2⟩ := h i x hx
  exact ⟨(World.cell?_of_block (a := ⟨r, i, none⟩) hb).trans h1, (World.frozen?_of_block (a := ⟨r, i, none⟩) hb).trans h2⟩

/-- A map of rows (package alloc): its struct in block m, its rows in block r. -/
structure MapAt (w : World) (m r : Nat) (L : List Int) : Prop where
  c0 : w.cell? ⟨m, 0, none⟩ = some (.slice (some ⟨r, 0, none⟩) L.length L.length)
  c1 : w.cell? ⟨m, 1, none⟩ = some (.bool true)
  row : RowI w r L
  hm : m < w.heap.size
  hr : r < w.heap.size
  ne : m ≠ r

theorem MapAt.keep {w w' : World} {m r : Nat} {L : List Int} (h : MapAt w m r L) (hs : w.heap.size ≤ w'.heap.size) (hm : w'.heap[m]? = w.heap[m]?) (hr : w'.heap[r]? = w.heap[r]?) : MapAt w' m r L :=
  ⟨(World.cell?_of_block (a := ⟨m, 0, none⟩) hm).trans h.c0, (World.cell?_of_block (a := ⟨m, 1, none⟩) hm).trans h.c1, h.row.keep hr, Nat.lt_of_lt_of_le h.hm hs, Nat.lt_of_lt_of_le h.hr hs, h.ne⟩
theorem MapAt.below {w w' : World} {m r : Nat} {L : List Int} (h : MapAt w m r L) (hb : Below w.heap.size w w') : MapAt w' m r L := h.keep hb.size (hb.block _ h.hm) (hb.block _ h.hr)
theorem MapAt.grown {w w' : World} {m r : Nat} {L : List Int} {o : Option Nat} (h : MapAt w m r L) (hg : w.grownBy w' o) (h1 : some m ≠ o) (h2 : some r ≠ o) : MapAt w' m r L := h.keep hg.size (hg.block _ h.hm h1) (hg.block _ h.hr h2)
theorem MapAt.set {w : World} {m r : Nat} {L : List Int} (h : MapAt w m r L) (i : Nat) (hi : i < L.length) (x : Int) : MapAt (w.setCell ⟨r, i, none⟩ (.int .u8 x)) m r (L.set i x) := by
  refine ⟨?_, ?_, h.row.set i hi x, by simpa [World.setCell] using h.hm, by simpa [World.setCell] using h.hr, h.ne⟩
  · rw [World.cell?_setCell_other, h.c0, List.length_set]
    intro e; injection e with e1 _ _; exact h.ne e1.symm
  · rw [World.cell?_setCell_other, h.c1]
    intro e; injection e with e1 _ _; exact h.ne e1.symm

/-- What a step leaves. -/
theorem grown_set (w : World) (r i : Nat) (v : Value) : w.grownBy (w.setCell ⟨r, i, none⟩ v) (some r) :=
  ⟨rfl, rfl, rfl, by simp [World.setCell], fun k hk hne => Below.heap_setCell _ _ _ _ (fun e => hne (by rw [e]))⟩
theorem grown_of_below {w w' : World} (h : Below w.heap.size w w') (o : Option Nat) : w.grownBy w' o := ⟨h.os, h.tape, h.output, h.size, fun k hk _ => h.block k hk⟩
theorem grown_trans {a b c : World} {o : Option Nat} (h : a.grownBy b o) (k : b.grownBy c o) : a.grownBy c o :=
  ⟨k.os.trans h.os, k.tape.trans h.tape, k.output.trans h.output, Nat.le_trans h.size k.size, fun i hi hne => (k.block i (Nat.lt_of_lt_of_le hi h.size) hne).trans (h.block i hi hne)⟩
theorem below_of_grown {w a b : World} {o : Option Nat} (h : Below w.heap.size w a) (k : a.grownBy b o) (ho : ∀ r, o = some r → w.heap.size ≤ r) : Below w.heap.size w b :=
  ⟨k.os.trans h.os, k.tape.trans h.tape, k.output.trans h.output, Nat.le_trans h.size k.size, fun i hi => (k.block i (Nat.lt_of_lt_of_le hi h.size) (fun e => by have := ho i e.symm; omega)).trans (h.block i hi)⟩

end Go.Proofs.Ytnmnecjelpglhaa.Alloc
