/- Rows taken, rows turned, row by row: plain Lean, for hoardlaw10.AllocOnce. -/
import Derived.Test.YtnmnecjelpglhaaAllocBackW
namespace Go.Proofs.Ytnmnecjelpglhaa.Alloc
open Go.RowKit

theorem rowsK_lt (L : List Int) (what : Int) (k : Nat) : ∀ x ∈ rowsK L what k, x < (k : Int) := by
  induction k with
  | zero => intro x hx; simp [rowsK] at hx
  | succ k ih =>
    intro x hx
    rw [rowsK, List.mem_append] at hx
    rcases hx with hx | hx
    · have := ih x hx; omega
    · split at hx
      · simp at hx; omega
      · simp at hx
theorem rowsK_nodup (L : List Int) (what : Int) (k : Nat) : (rowsK L what k).Nodup := by
  induction k with
  | zero => simp [rowsK]
  | succ k ih =>
    rw [rowsK, List.nodup_append]
    refine ⟨ih, by split <;> simp, ?_⟩
    intro a ha b hb e
    subst e
    have := rowsK_lt L what k a ha
    split at hb
    · simp at hb; omega
    · simp at hb

/-- A row that was free, and was not among those taken before, is free still. -/
theorem take_free (L : List Int) (n k : Nat) (hk : k < ((rowsL L 1).take n).length) :
    (setAll L (((rowsL L 1).take n).take k) 2)[(((rowsL L 1).take n)[k]).toNat]? = some 1 ∧ 0 ≤ ((rowsL L 1).take n)[k] ∧ ((rowsL L 1).take n)[k] < (L.length : Int) := by
  obtain ⟨l, hl⟩ : ∃ l, l = (rowsL L 1).take n := ⟨_, rfl⟩
  have hnd : l.Nodup := by rw [hl]; exact (rowsK_nodup L 1 L.length).sublist (List.take_sublist _ _)
  have hmem : ∀ x ∈ l, 0 ≤ x ∧ x < (L.length : Int) ∧ L[x.toNat]? = some 1 := fun x hx => by
    rw [hl] at hx
    exact rowsK_mem L 1 L.length (Nat.le_refl _) x (List.mem_of_mem_take hx)
  have hk' : k < l.length := by rw [hl]; exact hk
  have h1 : ∀ (hk2 : k < l.length), (setAll L (l.take k) 2)[(l[k]).toNat]? = some 1 ∧ 0 ≤ l[k] ∧ l[k] < (L.length : Int) := fun hk2 => by
    obtain ⟨h1, h2, h3⟩ := hmem _ (List.getElem_mem hk2)
    refine ⟨?_, h1, h2⟩
    rw [setAll_get _ _ _ _ (by omega), if_neg, h3]
    intro hm
    obtain ⟨x, hx, hxe⟩ := List.mem_map.1 hm
    have hx0 := hmem x (List.mem_of_mem_take hx)
    have : x = l[k] := by omega
    subst this
    obtain ⟨j, hj, he⟩ := List.mem_take_iff_getElem.1 hx
    exact List.pairwise_iff_getElem.1 hnd j k (by omega) hk2 (by omega) he
  subst hl
  exact h1 hk'

theorem turnGo_all {f t : Int} : ∀ (l L : List Int), (turnGo f t L l).1 = true → (turnGo f t L l).2 = setAll L l t ∧ ∀ k (hk : k < l.length), (setAll L (l.take k) t).getD (l[k]).toNat (-1) = f := by
  intro l
  induction l with
  | nil => intro L _; exact ⟨rfl, fun k hk => by cases hk⟩
  | cons x l ih =>
    intro L h
    unfold turnGo at h ⊢
    split at h
    · rename_i hx
      rw [if_pos hx]
      obtain ⟨h1, h2⟩ := ih _ h
      refine ⟨h1, fun k hk => ?_⟩
      cases k with
      | zero => exact hx
      | succ k => exact h2 k (by simpa using hk)
    · cases h
/-- A turn that answers 0: each row, when its turn came, was of the first kind. -/
theorem turn_each {L l : List Int} {f t : Int} (h : (turnL L l f t (areB L.length l)).1 = 0) :
    (turnL L l f t (areB L.length l)).2 = setAll L l t ∧ ∀ k (hk : k < l.length), (setAll L (l.take k) t)[(l[k]).toNat]? = some f ∧ 0 ≤ l[k] ∧ l[k] < (L.length : Int) := by
  cases hb : areB L.length l
  · rw [hb] at h; simp [turnL] at h
  · rw [hb] at h
    cases hg : (turnGo f t L l).1
    · simp [turnL, hg] at h
    · obtain ⟨h1, h2⟩ := turnGo_all l L hg
      refine ⟨by simp [turnL, hg, h1], fun k hk => ?_⟩
      have hall : 0 ≤ l[k] ∧ l[k] < (L.length : Int) := by
        unfold areB at hb
        rw [List.all_eq_true] at hb
        simpa [okRow] using hb _ (List.getElem_mem hk)
      refine ⟨?_, hall⟩
      have h3 := h2 k hk
      have hlt : (l[k]).toNat < (setAll L (l.take k) t).length := by rw [setAll_length]; omega
      rw [List.getD, List.getElem?_eq_getElem hlt] at h3
      rw [List.getElem?_eq_getElem hlt]
      exact congrArg some h3

/-- Each row is one of the three: the counts' sum. -/
theorem counts_sum (L : List Int) (h : OkL L) : (rowsL L 1).length + (rowsL L 2).length + (rowsL L 3).length = L.length := by
  have : ∀ k, k ≤ L.length → (rowsK L 1 k).length + (rowsK L 2 k).length + (rowsK L 3 k).length = k := fun k => by
    induction k with
    | zero => intro _; rfl
    | succ k ih =>
      intro hk
      have hi := ih (by omega)
      have hx := h _ (List.getElem_mem (show k < L.length by omega))
      have hg : L.getD k (-1) = L[k]'(by omega) := by rw [List.getD, List.getElem?_eq_getElem (show k < L.length by omega)]; rfl
      simp only [rowsK, List.length_append, hg]
      rcases hx with hx | hx | hx <;> rw [hx] <;> simp <;> omega
  exact this _ (Nat.le_refl _)

/-- What Take answers, case by case. -/
theorem takeL_cases (L : List Int) (n : Int) : takeL L n = ([], 2, L) ∨ takeL L n = ([], 6, L) ∨ ∃ l, l = (rowsL L 1).take n.toNat ∧ n = (l.length : Int) ∧ takeL L n = (l, 0, setAll L l 2) := by
  unfold takeL
  by_cases h1 : n < 0
  · exact .inl (if_pos h1)
  · by_cases h2 : ((rowsL L 1).length : Int) < n
    · exact .inr (.inl (by rw [if_neg h1, if_pos h2]))
    · refine .inr (.inr ⟨_, rfl, ?_, by rw [if_neg h1, if_neg h2]⟩)
      rw [List.length_take]; omega

end Go.Proofs.Ytnmnecjelpglhaa.Alloc
