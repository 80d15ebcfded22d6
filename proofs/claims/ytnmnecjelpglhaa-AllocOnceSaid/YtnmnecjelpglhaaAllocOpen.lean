/- Lists of numbers and scripts as arguments: what the statement's reading says of memory. -/
import Derived.Test.YtnmnecjelpglhaaAllocSteps
import Derived.Test.YtnmnecjelpglhaaLaw
import Derived.Deep.Slices
import Derived.Deep.Fields
import Derived.ChangeSame
import Derived.ChangeSlices
namespace Go.Proofs.Ytnmnecjelpglhaa.Alloc
open Go.RowKit Go.ChangeShapes Go.WideShapes Go.Deep

section
variable {H : Type} {enc : TypeId × Value → H} {P : Program} {w : World} {base : Nat} {spare : Nat → Bool} {held : Bool}
theorem open_slice_fields {t e : TypeId} {fs : Array Field} {fuel : Nat} {cs : List Value} {x : DataW H × List MemPlace} (ht : P.underlying t = some (.slice e)) (he : P.underlying e = some (.struct fs))
    (hone : oneCellFields P fs = true) (hC : P.cellsOf e = fs.size) (h : DataW.trod enc P w base spare held fuel t cs = some x) :
    (cs = [.slice none 0 0] ∧ x = (.nil, [])) ∨
    ∃ (a : Addr) (len cap m : Nat) (D : Nat → DataW H) (Pl : Nat → List MemPlace), cs = [.slice (some a) len cap] ∧ base ≤ a.block ∧ len ≤ cap ∧ cap ≤ maxLen ∧ m = (if spare a.block then cap else len) ∧
      x = (.slice ((List.range len).map D) ((List.range (m - len)).map fun j => D (len + j)), MemPlace.row a (m * fs.size) ++ (List.range m).flatMap Pl) ∧
      ∀ i, i < m → ∃ (ys : List (DataW H × List MemPlace)) (n : Nat), D i = .agg (ys.map (·.1)) ∧ Pl i = ys.flatMap (·.2) ∧ ys.length = fs.size ∧
        ∀ (j : Nat) (f : Field), fs[j]? = some f → ∃ (v : Value) (y : DataW H × List MemPlace), w.cell? (a.add (i * fs.size + j)) = some v ∧ ys[j]? = some y ∧ DataW.trod enc P w base spare held n f.type [v] = some y := by
  rcases open_slice ht h with h0 | ⟨a, len, cap, m, n, D, Pl, hcs, hb, hl, hm, hmm, hx, hi⟩
  · exact .inl h0
  · refine .inr ⟨a, len, cap, m, D, Pl, hcs, hb, hl, hm, hmm, by rw [hC] at hx; exact hx, fun i him => ?_⟩
    obtain ⟨cs', hc, ht'⟩ := hi i him
    rw [hC] at hc
    obtain ⟨ys, n', hn', hy, hlen, hyl, hf⟩ := DataW.trod_struct he ht'
    obtain ⟨_, hcl, hat⟩ := World.cells?_some hc
    simp only [Prod.mk.injEq] at hy
    refine ⟨ys, n', hy.1, hy.2, hyl, fun j f hj => ?_⟩
    obtain ⟨ho, hk⟩ := hone_of hone j f hj
    have hjl : j < fs.size := (Array.getElem?_eq_some_iff.1 hj).1
    have hcell := hat j hjl
    have hv : cs'[j]? = some (cs'[j]'(by omega)) := List.getElem?_eq_getElem (by omega)
    have h1 := hf j f hj
    rw [ho, hk] at h1
    have hone' : (cs'.drop j).take 1 = [cs'[j]'(by omega)] := by
      rw [List.drop_eq_getElem_cons (by omega)]
      rfl
    rw [hone'] at h1
    have hys : ys[j]? = some (ys[j]'(by omega)) := List.getElem?_eq_getElem (by omega)
    refine ⟨_, _, ?_, hys, h1.trans hys⟩
    rw [← Go.Deep.add_add, hcell, hv]
end

section
variable {H : Type} {enc : TypeId × Value → H} {W : World}
theorem open_intsAt {fuel : Nat} {cs : List Value} {x : DataW H × List MemPlace} (h : DataW.trod enc Try.prog W 0 (fun _ => true) true fuel 22 cs = some x) :
    ∃ A c l, cs = [.slice A l.length c] ∧ IntsAt W A l ∧ l.length ≤ c ∧ l.length ≤ 9223372036854775807 := by
  rcases open_ints Try.underlying22 Try.underlying3 (by kernel_rfl) h with ⟨rfl, _⟩ | ⟨a, len, cap, zs, rfl, _, hl, hm, hzl, _, hcell, _⟩
  · exact ⟨none, 0, [], rfl, (fun h => absurd h (Nat.lt_irrefl _)), Nat.le_refl _, by simp⟩
  · rw [if_pos rfl] at hzl
    have hlen : (zs.take len).length = len := by rw [List.length_take]; omega
    refine ⟨some a, cap, zs.take len, by rw [hlen], fun h0 => ?_, by omega, by rw [hlen]; unfold maxLen at hm; omega⟩
    have hc : ∀ i y, (zs.take len)[i]? = some y → W.cell? (a.add i) = some (.int .i64 y) := fun i y hy => by
      rw [List.getElem?_take] at hy
      split at hy
      · rename_i hi
        rw [hcell i (by omega), List.getD, hy]; rfl
      · cases hy
    refine ⟨a, rfl, ?_, hc⟩
    have := block_lt_of_cell (hc 0 _ (List.getElem?_eq_getElem h0))
    rwa [block_of_add] at this

theorem open_stepsAt {fuel : Nat} {cs : List Value} {x : DataW H × List MemPlace} (h : DataW.trod enc Try.prog W 0 (fun _ => true) true fuel 23 cs = some x) :
    ∃ A c ss, cs = [.slice A ss.length c] ∧ StepsAt W A ss := by
  rcases open_slice_fields Try.underlying23 Try.underlying34 (by kernel_rfl) (by kernel_rfl) h with ⟨rfl, _⟩ | ⟨a, len, cap, m, D, Pl, rfl, _, hl, hm, hmm, _, hel⟩
  · exact ⟨none, 0, [], rfl, fun i s hs => by cases hs⟩
  · rw [if_pos rfl] at hmm
    have hex : ∀ i, ∃ s : Step, i < len → W.cell? (a.add (i * 3)) = some (.int .i64 s.doo) ∧ W.cell? (a.add (i * 3 + 1)) = some (.int .i64 s.n) ∧ W.cell? (a.add (i * 3 + 2)) = some (.slice s.A s.l.length s.c) ∧ IntsAt W s.A s.l ∧ s.l.length ≤ s.c ∧ s.l.length ≤ 9223372036854775807 := fun i => by
      by_cases hi : i < len
      · obtain ⟨ys, n, _, _, _, hf⟩ := hel i (by omega)
        obtain ⟨v0, y0, hc0, _, ht0⟩ := hf 0 _ rfl
        obtain ⟨v1, y1, hc1, _, ht1⟩ := hf 1 _ rfl
        obtain ⟨v2, y2, hc2, _, ht2⟩ := hf 2 _ rfl
        obtain ⟨k0, e0, _, _⟩ := DataW.trod_int Try.underlying3 ht0
        obtain ⟨k1, e1, _, _⟩ := DataW.trod_int Try.underlying3 ht1
        obtain ⟨A, c, l, e2, hI, hlc, h63⟩ := open_intsAt ht2
        simp at e0 e1 e2
        subst e0 e1 e2
        exact ⟨⟨k0, k1, A, c, l⟩, fun _ => ⟨hc0, hc1, hc2, hI, hlc, h63⟩⟩
      · exact ⟨⟨0, 0, none, 0, []⟩, fun h => absurd h hi⟩
    obtain ⟨f, hf⟩ := Classical.skolem.1 hex
    refine ⟨some a, cap, (List.range len).map f, by simp, fun i s hs => ?_⟩
    have hi : i < len := by
      rcases Nat.lt_or_ge i len with h | h
      · exact h
      · rw [List.getElem?_eq_none (by simpa using h)] at hs; cases hs
    have : s = f i := by
      rw [List.getElem?_map, List.getElem?_range hi] at hs
      exact (Option.some.inj hs).symm
    subst this
    have h1 := hf i hi
    refine ⟨a, rfl, ?_, h1⟩
    have := block_lt_of_cell h1.1
    rwa [block_of_add] at this

/-- As the rows' openers are used. -/
theorem open_ints_arg {r : Reach} {b0 : Nat} {v : Value} {d : DataW H} {p : List MemPlace} (hv : Value.okWide Try.prog W r b0 22 v) (h : DataW.Trod enc Try.prog W 0 (fun _ => true) true 22 v d p) :
    ∃ A c l, v = .slice A l.length c ∧ IntsAt W A l ∧ l.length ≤ c ∧ l.length ≤ 9223372036854775807 := by
  obtain ⟨a, len, cap, rfl⟩ := okWide_slice Try.underlying22 hv
  obtain ⟨fuel, hf⟩ := h
  obtain ⟨A, c, l, e, h1⟩ := open_intsAt hf
  simp [Value.cells] at e
  obtain ⟨rfl, rfl, rfl⟩ := e
  exact ⟨_, _, l, rfl, h1⟩
theorem open_steps_arg {r : Reach} {b0 : Nat} {v : Value} {d : DataW H} {p : List MemPlace} (hv : Value.okWide Try.prog W r b0 23 v) (h : DataW.Trod enc Try.prog W 0 (fun _ => true) true 23 v d p) :
    ∃ A c ss, v = .slice A ss.length c ∧ StepsAt W A ss := by
  obtain ⟨a, len, cap, rfl⟩ := okWide_slice Try.underlying23 hv
  obtain ⟨fuel, hf⟩ := h
  obtain ⟨A, c, ss, e, h1⟩ := open_stepsAt hf
  simp [Value.cells] at e
  obtain ⟨rfl, rfl, rfl⟩ := e
  exact ⟨_, _, ss, rfl, h1⟩
end

end Go.Proofs.Ytnmnecjelpglhaa.Alloc
