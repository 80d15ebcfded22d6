/- The walk of package name's Encode. -/
import Derived.Test.YtaeiahkomdpcoaaDoorNameD
import Derived.Deep.RegionHeld3
namespace Go.Proofs.YtaeiahkomdpcoaaDoor.Name
open Go.RowKit Go.Shelf

theorem replaceK_esc : ∀ l : Bs, Lib.replaceK [0] [0, 255] (Lib.count l [0]) l = esc l
  | [] => by rw [Lib.count_miss (by simp [Lib.index])]; rfl
  | b :: l => by
    have ih := replaceK_esc l
    by_cases hb : b = 0
    · subst hb
      rw [Lib.count_cons_eq, Nat.add_comm, Lib.replaceK_hit [0] [0, 255] _ _ 0 (by rw [Lib.index]; simp [List.isPrefixOf])]
      simp only [List.take_zero, List.nil_append, List.length_singleton, Nat.zero_add, List.drop_succ_cons, List.drop_zero, ih, esc, if_true]
      rfl
    · rw [Lib.count_cons_ne b 0 l hb]
      have hp : ([0] : List UInt8).isPrefixOf (b :: l) = false := by simp [List.isPrefixOf, Ne.symm hb]
      obtain ⟨k, hk⟩ : ∃ k, Lib.count l [0] = k := ⟨_, rfl⟩
      rw [hk] at ih ⊢
      cases k with
      | zero =>
        rw [Lib.replaceK] at ih ⊢
        rw [esc, if_neg hb, ← ih]
      | succ k =>
        obtain ⟨i, hi⟩ := Lib.index_of_count (s := l) (old := [0]) (by omega)
        have hix : Lib.index (b :: l) [0] = ((i + 1 : Nat) : Int) := by
          rw [Lib.index, hp]
          simp [hi]
        rw [Lib.replaceK_hit _ _ _ _ _ hi] at ih
        rw [Lib.replaceK_hit _ _ _ _ _ hix, esc, if_neg hb, ← ih]
        simp
theorem replaceAll_esc (l : Bs) : Lib.replaceAll l [0] [0, 255] = esc l := by
  unfold Lib.replaceAll Lib.replace Lib.replaceNum
  rw [if_neg (by decide), if_pos (.inl (by decide))]
  exact replaceK_esc l
theorem esc_length (l : Bs) : (esc l).length ≤ 2 * l.length := by
  induction l with
  | nil => exact Nat.le_refl _
  | cons c l ih => unfold esc; split <;> simp only [List.length_cons] <;> omega

/-- A library's variable holds some number. -/
def Var0 (w : World) : Prop := ∃ m, w.cell? ⟨0, 0, none⟩ = some (.int .i64 m) ∧ 0 < w.heap.size
theorem Var0.below {w w' : World} (h : Var0 w) (hb : Below w.heap.size w w') : Var0 w' := by
  obtain ⟨m, h1, h2⟩ := h
  exact ⟨m, (hb.cell (p := ⟨0, 0, none⟩) h2).trans h1, Nat.lt_of_lt_of_le h2 hb.size⟩

theorem escape_calls (s : ByteArray) (w : World) (hv : Var0 w) (hs : s.size ≤ 4096) : Calls Tryd.prog 36 #[.string s, .string ⟨#[0]⟩, .string ⟨#[0, 255]⟩] w fun e w' => e = .returned (.string (bs (esc s.data.toList))) ∧ Below w.heap.size w w' := by
  obtain ⟨m, hm, _⟩ := hv
  have hc : Lib.countB s ⟨#[0]⟩ ≤ s.size + 1 := by
    have := Lib.count_le s.data.toList [0]
    rw [size_list] at this
    exact this
  have := Tryd.strings_ReplaceAll s ⟨#[0]⟩ ⟨#[0, 255]⟩ m w (by omega) hm (by decide) (by
    have h2 : (⟨#[0, 255]⟩ : ByteArray).size = 2 := rfl
    rw [h2]; omega)
  rw [show (⟨#[0]⟩ : ByteArray).data.toList = [0] from rfl, show (⟨#[0, 255]⟩ : ByteArray).data.toList = [0, 255] from rfl, replaceAll_esc] at this
  exact this

end Go.Proofs.YtaeiahkomdpcoaaDoor.Name
