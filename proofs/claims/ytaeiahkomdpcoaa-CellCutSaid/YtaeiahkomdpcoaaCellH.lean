/- Readers and what a call has made; the walk of package cell's unbody. -/
import Derived.Test.YtaeiahkomdpcoaaCellG
import Derived.Laws.AppendOwn
import Derived.Deep.AppendLies
namespace Go.Proofs.Ytaeiahkomdpcoaa.Cell
open Go.RowKit Go.Proofs.Ytaeiahkomdpcoaa.Num Go.Proofs.Ytaeiahkomdpcoaa.Wire

theorem numR_len (m : Nat) (st : St) : (numR m st).2.1.length ≤ st.1.length ∧ (numR m st).1 ≤ m := by
  unfold numR
  split
  · exact ⟨Nat.le_refl _, Nat.zero_le _⟩
  · split
    · exact ⟨Nat.le_refl _, Nat.zero_le _⟩
    · split
      · exact ⟨Nat.le_refl _, Nat.zero_le _⟩
      · exact ⟨by simp only [List.length_drop]; omega, by simp only; omega⟩
theorem boolR_len (st : St) : (boolR st).2.1.length ≤ st.1.length := by
  obtain ⟨l, e⟩ := st
  unfold boolR
  split
  · exact Nat.le_refl _
  · cases l with
    | nil => exact Nat.le_refl _
    | cons c l =>
      simp only
      split
      · exact Nat.le_refl _
      · simp only [List.length_cons]; omega
theorem textR_len (m : Int) (st : St) : (textR m st).2.1.length ≤ st.1.length ∧ (textR m st).1.length ≤ st.1.length := by
  unfold textR
  split
  · exact ⟨Nat.le_refl _, Nat.zero_le _⟩
  · split
    · exact ⟨Nat.le_refl _, Nat.zero_le _⟩
    · exact ⟨by simp only [List.length_drop]; omega, by simp only [List.length_take, List.length_drop]; omega⟩

def pcCells (ps : List Piece) : List Value := ps.flatMap fun p => [.int .i64 p.row, .int .u64 (p.stamp : Int), .int .i64 p.len]
theorem pcCells_len (ps : List Piece) : (pcCells ps).length = ps.length * 3 := by
  induction ps with
  | nil => rfl
  | cons p ps ih => simp only [pcCells, List.flatMap_cons, List.length_append, List.length_cons, List.length_nil] at ih ⊢; omega
theorem pcCells_get : ∀ (ps : List Piece) (i : Nat) (p : Piece), ps[i]? = some p → (pcCells ps)[i * 3]? = some (.int .i64 p.row) ∧ (pcCells ps)[i * 3 + 1]? = some (.int .u64 (p.stamp : Int)) ∧ (pcCells ps)[i * 3 + 2]? = some (.int .i64 p.len)
  | [], _, _, h => by simp at h
  | q :: ps, 0, p, h => by
    simp at h; subst h
    exact ⟨rfl, rfl, rfl⟩
  | q :: ps, i + 1, p, h => by
    have ih := pcCells_get ps i p (by simpa using h)
    have e : ∀ n, (pcCells (q :: ps))[n + 3]? = (pcCells ps)[n]? := fun n => by
      show ([.int .i64 q.row, .int .u64 (q.stamp : Int), .int .i64 q.len] ++ pcCells ps)[n + 3]? = _
      rw [List.getElem?_append_right (by simp)]; rfl
    refine ⟨?_, ?_, ?_⟩
    · rw [show (i + 1) * 3 = i * 3 + 3 by omega, e]; exact ih.1
    · rw [show (i + 1) * 3 + 1 = (i * 3 + 1) + 3 by omega, e]; exact ih.2.1
    · rw [show (i + 1) * 3 + 2 = (i * 3 + 2) + 3 by omega, e]; exact ih.2.2
theorem pcCells_snoc (ps : List Piece) (p : Piece) : pcCells (ps ++ [p]) = pcCells ps ++ [.int .i64 p.row, .int .u64 (p.stamp : Int), .int .i64 p.len] := by
  simp [pcCells]
theorem pcs_of_own {w' : World} {base : Nat} {v : Value} {ps : List Piece} (h : w'.ownsRow base 75 3 v ps.length (pcCells ps)) :
    ∃ A c, v = .slice A ps.length c ∧ PcsAt w' A ps ∧ ∀ ad, A = some ad → base ≤ ad.block := by
  rcases h.2 with ⟨hv, hn⟩ | ⟨g, cap, cur, hv, hg, hh, hle, _, _, hcur⟩
  · have hp : ps = [] := List.eq_nil_of_length_eq_zero hn
    exact ⟨none, 0, by rw [hv, hn], by rw [hp]; exact PcsAt.nil _ _, fun ad h => by cases h⟩
  · subst hv
    refine ⟨_, _, rfl, fun i p hp => ⟨_, rfl, (Array.getElem?_eq_some_iff.1 hh).1, ?_, ?_, ?_⟩, fun ad h => by cases h; exact hg⟩
    · exact h.cells (g := g) rfl _ _ (pcCells_get ps i p hp).1
    · exact h.cells (g := g) rfl _ _ (pcCells_get ps i p hp).2.1
    · exact h.cells (g := g) rfl _ _ (pcCells_get ps i p hp).2.2
theorem PcsAt.grown {w w' : World} {A : Option Addr} {ps : List Piece} {p : Nat} (h : PcsAt w A ps) (hne : ∀ ad, A = some ad → ad.block ≠ p) (hg : w.grownBy w' (some p)) : PcsAt w' A ps := fun i s hs => by
  obtain ⟨ad, h0, h1, h2, h3, h4⟩ := h i s hs
  have hk : ∀ n, w'.cell? (ad.add n) = w.cell? (ad.add n) := fun n => World.cell?_of_block (by rw [block_of_add]; exact hg.block _ h1 (by simpa using fun e => hne ad h0 e))
  exact ⟨ad, h0, Nat.lt_of_lt_of_le h1 hg.size, (hk _).trans h2, (hk _).trans h3, (hk _).trans h4⟩
theorem BRow.grown {w w' : World} {b : Nat} {l : Int} {i : ByteArray} {A : Option Addr} {n cp p : Nat} (h : BRow w b l i A n cp) (hne : b ≠ p) (hg : w.grownBy w' (some p)) : BRow w' b l i A n cp :=
  (hg.block _ h.lt (by simpa using hne)).trans h
theorem infoPiece : (Try.prog.info? 75).map (fun i => (i.zero, i.size, i.bytes)) = some (some (.agg #[.int .i64 0, .int .u64 0, .int .i64 0]), 3, 24) := by kernel_rfl

end Go.Proofs.Ytaeiahkomdpcoaa.Cell
