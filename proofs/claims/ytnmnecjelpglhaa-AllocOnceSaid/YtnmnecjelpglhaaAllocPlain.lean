/- Maps of rows, in plain Lean: rows of one kind become another one; no program in sight. -/
namespace Go.Proofs.Ytnmnecjelpglhaa.Alloc

def setAll (L : List Int) (l : List Int) (x : Int) : List Int := l.foldl (fun L i => L.set i.toNat x) L
def turnGo (f t : Int) : List Int → List Int → Bool × List Int
  | L, [] => (true, L)
  | L, x :: l => if L.getD x.toNat (-1) = f then turnGo f t (L.set x.toNat t) l else (false, L)

theorem setAll_length (L l : List Int) (x : Int) : (setAll L l x).length = L.length := by
  unfold setAll
  induction l generalizing L with
  | nil => rfl
  | cons i l ih => rw [List.foldl_cons, ih, List.length_set]
theorem setAll_snoc (L l : List Int) (i x : Int) : setAll L (l ++ [i]) x = (setAll L l x).set i.toNat x := by
  unfold setAll; rw [List.foldl_append]; rfl

/-- Place by place. -/
theorem setAll_get (L l : List Int) (x : Int) (j : Nat) (hj : j < L.length) : (setAll L l x)[j]? = if j ∈ l.map Int.toNat then some x else L[j]? := by
  unfold setAll
  induction l generalizing L with
  | nil => simp
  | cons i l ih =>
    rw [List.foldl_cons, ih (L.set i.toNat x) (by rw [List.length_set]; exact hj)]
    simp only [List.map_cons, List.mem_cons]
    by_cases h1 : j ∈ l.map Int.toNat
    · rw [if_pos h1, if_pos (Or.inr h1)]
    · rw [if_neg h1]
      by_cases h2 : j = i.toNat
      · subst h2
        rw [if_pos (Or.inl rfl), List.getElem?_set_self hj]
      · rw [if_neg (fun h => h.elim h2 h1), List.getElem?_set_ne (Ne.symm h2)]

/-- Set back. -/
theorem setAll_back (L l : List Int) (f t : Int) (h : ∀ j, j ∈ l.map Int.toNat → L[j]? = some f) : setAll (setAll L l t) l f = L := by
  apply List.ext_getElem?
  intro j
  by_cases hj : j < L.length
  · rw [setAll_get _ _ _ _ (by rw [setAll_length]; exact hj)]
    by_cases hm : j ∈ l.map Int.toNat
    · rw [if_pos hm, h j hm]
    · rw [if_neg hm, setAll_get _ _ _ _ hj, if_neg hm]
  · rw [List.getElem?_eq_none (by rw [setAll_length, setAll_length]; omega), List.getElem?_eq_none (by omega)]

/-- One more that stands as it should: it was not among those before. -/
theorem mem_of_from (L p : List Int) (f t : Int) (hft : f ≠ t) (i : Nat) (hi : i < L.length) (h : (setAll L p t)[i]? = some f) : L[i]? = some f := by
  rw [setAll_get _ _ _ _ hi] at h
  split at h
  · exact absurd (Option.some.inj h).symm hft
  · exact h

def turnL (L l : List Int) (f t : Int) (are : Bool) : Int × List Int :=
  if are = false then (2, L) else if (turnGo f t L l).1 = true then (0, (turnGo f t L l).2) else (3, L)

theorem turnGo_length (f t : Int) (L l : List Int) : (turnGo f t L l).2.length = L.length := by
  induction l generalizing L with
  | nil => rfl
  | cons x l ih =>
    unfold turnGo
    split
    · rw [ih, List.length_set]
    · rfl
theorem turnL_length (L l : List Int) (f t : Int) (b : Bool) : (turnL L l f t b).2.length = L.length := by
  unfold turnL
  split
  · rfl
  · split
    · exact turnGo_length f t L l
    · rfl

end Go.Proofs.Ytnmnecjelpglhaa.Alloc
