/- Lists of numbers and of texts: in memory, and as arguments. No walk. -/
import Derived.Test.YtaeiahkomdpcoaaKit
import Derived.Test.YtaeiahkomdpcoaaLaw
import Derived.ChangeSame
import Derived.ChangeSlices
import Derived.SliceStrings
namespace Go.Proofs.Ytaeiahkomdpcoaa.Wire
open Go.RowKit Go.ChangeShapes Go.WideShapes

/-- A list of values of one cell each at an address, nil let in. -/
def ListAt (w : World) (A : Option Addr) (vs : List Value) : Prop := 0 < vs.length → ∃ ad, A = some ad ∧ ad.block < w.heap.size ∧ ∀ i v, vs[i]? = some v → w.cell? (ad.add i) = some v

theorem block_of_add (a : Addr) (n : Nat) : (a.add n).block = a.block := by unfold Addr.add; split <;> rfl
theorem ListAt.below {w w' : World} {A : Option Addr} {l : List Value} (h : ListAt w A l) (hb : Below w.heap.size w w') : ListAt w' A l := fun hl => by
  obtain ⟨ad, h1, h2, h3⟩ := h hl
  exact ⟨ad, h1, Nat.lt_of_lt_of_le h2 hb.size, fun i x hx => (World.cell?_of_block (by rw [block_of_add]; exact hb.block _ h2)).trans (h3 i x hx)⟩
theorem ListAt.at_ {w : World} {A : Option Addr} {l : List Value} (h : ListAt w A l) {k : Nat} (hk : k < l.length) : ∃ ad, A = some ad ∧ ad.block < w.heap.size ∧ w.cell? (ad.add k) = some l[k] := by
  obtain ⟨ad, h1, h2, h3⟩ := h (by omega)
  exact ⟨ad, h1, h2, h3 k _ (List.getElem?_eq_getElem hk)⟩

def numsV (u : List Nat) : List Value := u.map fun x : Nat => Value.int .u64 (x : Int)
def textsV (t : List ByteArray) : List Value := t.map .string
theorem ListAt.num {w : World} {A : Option Addr} {u : List Nat} (h : ListAt w A (numsV u)) {k : Nat} (hk : k < u.length) : ∃ ad, A = some ad ∧ ad.block < w.heap.size ∧ w.cell? (ad.add k) = some (.int .u64 (u[k] : Nat)) := by
  obtain ⟨ad, h1, h2, h3⟩ := h.at_ (k := k) (by simpa [numsV] using hk)
  exact ⟨ad, h1, h2, by rw [h3]; simp [numsV]⟩
theorem ListAt.text {w : World} {A : Option Addr} {t : List ByteArray} (h : ListAt w A (textsV t)) {k : Nat} (hk : k < t.length) : ∃ ad, A = some ad ∧ ad.block < w.heap.size ∧ w.cell? (ad.add k) = some (.string t[k]) := by
  obtain ⟨ad, h1, h2, h3⟩ := h.at_ (k := k) (by simpa [textsV] using hk)
  exact ⟨ad, h1, h2, by rw [h3]; simp [textsV]⟩

section
variable {H : Type} {enc : TypeId × Value → H} {W : World}
set_option maxRecDepth 100000 in
theorem open_nums_arg {r : Reach} {b0 : Nat} {v : Value} {d : DataW H} {p : List MemPlace} (hv : Value.okWide Try.prog W r b0 22 v) (h : DataW.Trod enc Try.prog W 0 (fun _ => true) true 22 v d p) :
    ∃ (A : Option Addr) (c : Nat) (u : List Nat), v = .slice A u.length c ∧ ListAt W A (numsV u) ∧ (∀ x ∈ u, x < 18446744073709551616) ∧ u.length ≤ c ∧ u.length ≤ 9223372036854775807 := by
  obtain ⟨a, len, cap, rfl⟩ := okWide_slice Try.underlying22 hv
  obtain ⟨fuel, hf⟩ := h
  rcases open_ints Try.underlying22 Try.underlying26 (by kernel_rfl) hf with ⟨e, _⟩ | ⟨a', len', cap', zs, e, _, hl, hm, hzl, _, hcell, hwf⟩
  · simp [Value.cells] at e
    obtain ⟨rfl, rfl, rfl⟩ := e
    exact ⟨none, 0, [], rfl, (fun h => absurd h (Nat.lt_irrefl _)), by simp, Nat.le_refl _, by simp⟩
  · simp [Value.cells] at e
    obtain ⟨rfl, rfl, rfl⟩ := e
    rw [if_pos rfl] at hzl
    have hb : ∀ n ∈ zs, 0 ≤ n ∧ n < 18446744073709551616 := fun n hn => by
      have := bounds_u64 (hwf n hn); omega
    have hlen : ((zs.take len).map Int.toNat).length = len := by rw [List.length_map, List.length_take]; omega
    have hc : ∀ i y, (numsV ((zs.take len).map Int.toNat))[i]? = some y → W.cell? (a'.add i) = some y := fun i y hy => by
      have hi : i < len := by
        rcases Nat.lt_or_ge i len with h | h
        · exact h
        · rw [List.getElem?_eq_none (by simp [numsV]; omega)] at hy; cases hy
      have hiz : i < zs.length := by omega
      have h0 := hb zs[i] (List.getElem_mem hiz)
      simp [numsV, hi, hiz] at hy
      rw [hcell i hiz, ← hy]
      simp [List.getD, hiz]; omega
    refine ⟨some a', cap, (zs.take len).map Int.toNat, by rw [hlen], fun h0 => ⟨a', rfl, ?_, hc⟩, ?_, by omega, by unfold maxLen at hm; omega⟩
    · have := block_lt_of_cell (hc 0 _ (List.getElem?_eq_getElem h0))
      rwa [block_of_add] at this
    · intro x hx
      obtain ⟨z, hz, rfl⟩ := List.mem_map.1 hx
      have := hb z (List.mem_of_mem_take hz)
      omega
set_option maxRecDepth 100000 in
theorem open_texts_arg {r : Reach} {b0 : Nat} {v : Value} {d : DataW H} {p : List MemPlace} (hv : Value.okWide Try.prog W r b0 23 v) (h : DataW.Trod enc Try.prog W 0 (fun _ => true) true 23 v d p) :
    ∃ (A : Option Addr) (c : Nat) (t : List ByteArray), v = .slice A t.length c ∧ ListAt W A (textsV t) ∧ (∀ s ∈ t, s.size ≤ maxLen) ∧ t.length ≤ c ∧ t.length ≤ 9223372036854775807 := by
  obtain ⟨a, len, cap, rfl⟩ := okWide_slice Try.underlying23 hv
  obtain ⟨fuel, hf⟩ := h
  rcases open_strings Try.underlying23 Try.underlying9 (by kernel_rfl) hf with ⟨e, _⟩ | ⟨a', len', cap', zs, e, _, hl, hm, hzl, _, hcell, hwf⟩
  · simp [Value.cells] at e
    obtain ⟨rfl, rfl, rfl⟩ := e
    exact ⟨none, 0, [], rfl, (fun h => absurd h (Nat.lt_irrefl _)), by simp, Nat.le_refl _, by simp⟩
  · simp [Value.cells] at e
    obtain ⟨rfl, rfl, rfl⟩ := e
    rw [if_pos rfl] at hzl
    have hlen : (zs.take len).length = len := by rw [List.length_take]; omega
    have hc : ∀ i y, (textsV (zs.take len))[i]? = some y → W.cell? (a'.add i) = some y := fun i y hy => by
      have hi : i < len := by
        rcases Nat.lt_or_ge i len with h | h
        · exact h
        · rw [List.getElem?_eq_none (by simp [textsV]; omega)] at hy; cases hy
      have hiz : i < zs.length := by omega
      simp [textsV, hi, hiz] at hy
      rw [hcell i hiz, ← hy]
      simp [List.getD, hiz]
    refine ⟨some a', cap, zs.take len, by rw [hlen], fun h0 => ⟨a', rfl, ?_, hc⟩, fun s hs => hwf s (List.mem_of_mem_take hs), by omega, by unfold maxLen at hm; omega⟩
    have := block_lt_of_cell (hc 0 _ (List.getElem?_eq_getElem h0))
    rwa [block_of_add] at this
end

end Go.Proofs.Ytaeiahkomdpcoaa.Wire
