/- The Go map of hoardlaw10.AllocOnce, as a list of rows. -/
import Derived.Test.YtnmnecjelpglhaaAllocOncePlain
import Derived.Maps.Own
import Derived.Maps.OwnOps
import Derived.Maps.OwnSet
import Derived.Maps.Views
namespace Go.Proofs.Ytnmnecjelpglhaa.Alloc
open Go.RowKit Go.Maps

theorem lawInt : Keyed Try.prog 3 := int_keyed Try.underlying3
theorem zeroByte (w : World) : (zeroValue 5).run Try.prog w = .ok (.int .u8 0) w := by kernel_rfl

/-- The map in block b, of kk entries at most, says of each row what L says. -/
def IsAt (w : World) (b kk : Nat) (L : List Int) : Prop := ∃ D : DataW Unit, w.ownsMap Try.prog 3 (plainElem (H := Unit) Try.prog 5) b kk D ∧ ∀ (j : Nat) (x : Int), L[j]? = some x → D.atKey (.int .i64 (j : Int)) (.lit (.int .u8 0)) = .lit (.int .u8 x)

theorem IsAt.lt {w : World} {b kk : Nat} {L : List Int} (h : IsAt w b kk L) : b < w.heap.size := by obtain ⟨D, h1, _⟩ := h; exact h1.lt
theorem IsAt.below {w w' : World} {b kk : Nat} {L : List Int} (h : IsAt w b kk L) (hb : Below w.heap.size w w') : IsAt w' b kk L := by
  obtain ⟨D, h1, h2⟩ := h
  exact ⟨D, h1.kept (row := none) (grown_of_below hb none) (by simp), h2⟩
theorem IsAt.grown {w w' : World} {b kk : Nat} {L : List Int} {o : Option Nat} (h : IsAt w b kk L) (hg : w.grownBy w' o) (hne : some b ≠ o) : IsAt w' b kk L := by
  obtain ⟨D, h1, h2⟩ := h
  exact ⟨D, h1.kept hg hne, h2⟩
theorem IsAt.mono {w : World} {b kk kk' : Nat} {L : List Int} (h : IsAt w b kk L) (hk : kk ≤ kk') : IsAt w b kk' L := by
  obtain ⟨D, h1, h2⟩ := h
  exact ⟨D, h1.mono hk, h2⟩
theorem isAt_made (w : World) : IsAt (w.alloc (.map #[] 0)) w.heap.size 0 [] := ⟨.map [], World.ownsMap_made _ _ _ _, fun j x hx => by cases hx⟩

/-- What a look-up of row j finds. -/
theorem IsAt.find {w : World} {b kk : Nat} {L : List Int} (h : IsAt w b kk L) {ops : Array Oper} {rest : List Oper} {o : Oper} {a : Act} {Q : Exit → Act → World → Prop}
    (hg : o.guard = none) (m x : Operand) (hop : o.op = Op.lookup 50 m x false) (hm : a.eval m = .map (some b)) (j : Nat) (hx : a.eval x = .int .i64 (j : Int)) (hj : (Lit.int .i64 (j : Int)).wf = true) (y : Int) (hy : L[j]? = some y)
    (hK : wpList Try.prog ops Q rest (a.put o.dst (.int .u8 y)) w) : wpList Try.prog ops Q (o :: rest) a w := by
  obtain ⟨D, h1, h2⟩ := h
  refine wpList_lookup_own_int _ hg m x 50 hop 3 5 .u8 lawInt Try.underlying50 Try.underlying5 (zeroByte _) b kk D hm h1 _ _ hx (keyOf_int_mk Try.underlying3 hj) ?_
  intro c hat _
  rw [h2 j y hy] at hat
  have : y = c := by simpa using hat
  rw [← this]; exact hK
/-- What a store at row j leaves: a row that was, or one more. -/
theorem IsAt.store {w : World} {b kk : Nat} {L : List Int} (h : IsAt w b kk L) {ops : Array Oper} {rest : List Oper} {o : Oper} {a : Act} {Q : Exit → Act → World → Prop}
    (hg : o.guard = none) (m x v : Operand) (hop : o.op = Op.mapUpdate 50 m x v) (hm : a.eval m = .map (some b)) (j : Nat) (hx : a.eval x = .int .i64 (j : Int)) (hj : (Lit.int .i64 (j : Int)).wf = true) (y : Int) (hv : a.eval v = .int .u8 y) (hy : (Lit.int .u8 y).wf = true) (hkk : kk < maxLen)
    (hK : ∀ w', (∀ L', (∀ (i : Nat) (z : Int), L'[i]? = some z → if i = j then z = y else L[i]? = some z) → IsAt w' b (kk + 1) L') → w.grownBy w' (some b) → wpList Try.prog ops Q rest (a.put o.dst undef) w') : wpList Try.prog ops Q (o :: rest) a w := by
  obtain ⟨D, h1, h2⟩ := h
  refine wpList_mapUpdate_own _ hg m x v 50 hop 3 5 lawInt Try.underlying50 _ b kk D hm h1 hkk _ _ _ hx hv (keyOf_int_mk Try.underlying3 hj) _ [] (plainElem_int Try.underlying5 hy) ?_
  intro w' hown hgrow
  refine hK w' (fun L' hL' => ⟨_, hown, fun i z hz => ?_⟩) hgrow
  have h3 := hL' i z hz
  by_cases hij : i = j
  · subst hij
    rw [if_pos rfl] at h3
    subst h3
    exact atKey_put_same h1.isMap (by trivial) _ _
  · rw [if_neg hij] at h3
    have hne : Lit.int .i64 (i : Int) ≠ Lit.int .i64 (j : Int) := fun e => hij (by
      have h4 : (i : Int) = (j : Int) := by simpa using e
      omega)
    rw [atKey_put_other hne]
    exact h2 i z h3

theorem IsAt.drew {w : World} {b kk : Nat} {L : List Int} (h : IsAt w b kk L) : IsAt w.drew b kk L := by
  obtain ⟨D, h1, h2⟩ := h
  exact ⟨D, h1.drew, h2⟩
/-- What a look-up's run gives. -/
theorem IsAt.run {w : World} {b kk : Nat} {L : List Int} (h : IsAt w b kk L) (j : Nat) (hj : (Lit.int .i64 (j : Int)).wf = true) (y : Int) (hy : L[j]? = some y) : (Instr.lookup 50 (.map (some b)) (.int .i64 (j : Int)) false).run Try.prog w = .ok (.int .u8 y) w := by
  obtain ⟨D, h1, h2⟩ := h
  obtain ⟨c, hrun, hat, _⟩ := h1.lookup_int lawInt Try.underlying50 Try.underlying5 (zeroByte _) (keyOf_int_mk Try.underlying3 hj)
  rw [h2 j y hy] at hat
  have : y = c := by simpa using hat
  rw [this]; exact hrun

end Go.Proofs.Ytnmnecjelpglhaa.Alloc
