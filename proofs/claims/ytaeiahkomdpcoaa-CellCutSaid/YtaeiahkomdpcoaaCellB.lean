/- The walk of slices.Equal over pieces, of package cell's Same. -/
import Derived.Test.YtaeiahkomdpcoaaCellA
namespace Go.Proofs.Ytaeiahkomdpcoaa.Cell
open Go.RowKit Go.Proofs.Ytaeiahkomdpcoaa.Num Go.Proofs.Ytaeiahkomdpcoaa.Wire

def pcEq (p q : Piece) : Bool := (p.row == q.row) && (p.stamp == q.stamp) && (p.len == q.len)
def pcsEq : List Piece → List Piece → Bool
  | [], [] => true
  | p :: ps, q :: qs => pcEq p q && pcsEq ps qs
  | [], _ :: _ => false
  | _ :: _, [] => false
theorem pcEq_iff (p q : Piece) : pcEq p q = true ↔ p = q := by
  obtain ⟨a, b, c⟩ := p
  obtain ⟨d, e, f⟩ := q
  unfold pcEq
  simp only [Bool.and_eq_true, beq_iff_eq, Piece.mk.injEq, and_assoc]
theorem pcsEq_iff : ∀ ps qs : List Piece, pcsEq ps qs = true ↔ ps = qs
  | [], [] => by simp [pcsEq]
  | p :: ps, q :: qs => by rw [pcsEq, Bool.and_eq_true, pcEq_iff, pcsEq_iff ps qs]; simp
  | [], _ :: _ => by simp [pcsEq]
  | _ :: _, [] => by simp [pcsEq]
theorem pcsEq_len (ps qs : List Piece) (h : ps.length ≠ qs.length) : pcsEq ps qs = false := by
  rw [Bool.eq_false_iff, Ne, pcsEq_iff]; intro e; exact h (by rw [e])
theorem pcsEq_drop (ps qs : List Piece) (k : Nat) (h1 : k < ps.length) (h2 : k < qs.length) : pcsEq (ps.drop k) (qs.drop k) = (pcEq ps[k] qs[k] && pcsEq (ps.drop (k + 1)) (qs.drop (k + 1))) := by
  rw [List.drop_eq_getElem_cons h1, List.drop_eq_getElem_cons h2, pcsEq]

set_option maxHeartbeats 400000 in
set_option maxRecDepth 100000 in
theorem pc_neq_run (r : Int) (s : Nat) (l : Int) (r' : Int) (s' : Nat) (l' : Int) (W : World) : (binOp .neq 75 (.agg #[.int .i64 r, .int .u64 (s : Int), .int .i64 l]) (.agg #[.int .i64 r', .int .u64 (s' : Int), .int .i64 l'])).run Try.prog W = .ok (.bool (!pcEq ⟨r, s, l⟩ ⟨r', s', l'⟩)) W := by
  have hu := Try.underlying75
  have h22 := Try.underlying26
  have h3 := Try.underlying3
  have hp : Try.prog.stoodInHeld 75 = false := by kernel_rfl
  have hf : Try.prog.underlying 75 = some (.struct (Try.prog.fieldsOf 75)) := by kernel_rfl
  rw [run_neq_struct, run_equalIn_agg W 9999 _ _ _ hf hp]
  clear hf hp
  simp [Program.fieldsOf, hu, Op.eqFields, go_sem, h22, h3]
  unfold pcEq
  simp only
  by_cases h1 : r = r'
  · subst h1
    by_cases h2 : s = s'
    · subst h2
      by_cases h3 : l = l'
      · subst h3; simp
      · simp [h3]
    · have h2' : ¬ (s : Int) = (s' : Int) := by omega
      simp [h2, h2']
  · simp [h1]

set_option maxHeartbeats 1600000 in
set_option maxRecDepth 100000 in
theorem equal_calls (A B : Option Addr) (c d : Nat) (ps qs : List Piece) (w : World) (hA : PcsAt w A ps) (hB : PcsAt w B qs) (hl : ps.length ≤ 100000) :
    Calls Try.prog 57 #[.slice A ps.length c, .slice B qs.length d] w fun e w' => e = .returned (.bool (pcsEq ps qs)) ∧ Below w.heap.size w w' := by
  by_cases hle : ps.length = qs.length
  case neg =>
    rw [pcsEq_len ps qs hle]
    have i1 : ((ps.length : Int) != (qs.length : Int)) = true := by rw [bne_iff_ne]; omega
    go_enter Try.func57, Try.ntmps57
    go_wp2
    go_ret
    exact ⟨rfl, Below.refl _ _⟩
  have i1 : ((ps.length : Int) != (qs.length : Int)) = false := by rw [bne_eq_false_iff_eq]; omega
  obtain ⟨out, qo⟩ : ∃ x, x = pcsEq ps qs := ⟨_, rfl⟩
  rw [← qo]
  have QO := Lib.hid qo
  have HLE := Lib.hid hle
  obtain ⟨m, hm⟩ : ∃ m, qs.length = m := ⟨_, rfl⟩
  rw [hm] at i1 ⊢
  have HM := Lib.hid hm
  clear qo hle hm
  go_enter Try.func57, Try.ntmps57
  go_wp2
  go_loopw [13] (fun iv wr => ∃ k : Nat, k ≤ ps.length ∧ iv = .int .i64 (k : Int) ∧ PcsAt wr A ps ∧ PcsAt wr B qs ∧ Hid (out = pcsEq (ps.drop k) (qs.drop k)) ∧ Below w.heap.size w wr) (fun iv _ => ps.length - (intOf iv).toNat)
  case atStart => exact ⟨0, by omega, rfl, hA, hB, QO, Below.refl _ _⟩
  case round =>
    obtain ⟨k, hk, rfl, hAr, hBr, hO, hb⟩ := hrel
    by_cases hlt : k < ps.length
    · have hlt2 : k < qs.length := by rw [← HLE.out]; exact hlt
      have hlt3 : k < m := by rw [← HM.out]; exact hlt2
      obtain ⟨ad, rfl, had, c0, c1, c2⟩ := hAr.at_ hlt
      obtain ⟨bd, rfl, hbd, d0, d1, d2⟩ := hBr.at_ hlt2
      have hst := pcsEq_drop ps qs k hlt hlt2
      obtain ⟨p, hp⟩ : ∃ p, p = ps[k] := ⟨_, rfl⟩
      obtain ⟨q, hq⟩ : ∃ q, q = qs[k] := ⟨_, rfl⟩
      rw [← hp] at c0 c1 c2 hst
      rw [← hq] at d0 d1 d2 hst
      clear hp hq
      obtain ⟨r, s, l⟩ := p
      obtain ⟨r', s', l'⟩ := q
      simp only at c0 c1 c2 d0 d1 d2
      have hnq := fun W => pc_neq_run r s l r' s' l' W
      have HST := Lib.hid hst
      have i2 : (k : Int) < (ps.length : Int) := by omega
      have i3 : (k : Int) < (m : Int) := by omega
      obtain ⟨t, qt⟩ : ∃ t, t = pcEq ⟨r, s, l⟩ ⟨r', s', l'⟩ := ⟨_, rfl⟩
      simp only [← qt] at hnq
      have QT := Lib.hid qt
      clear hst qt hlt2
      cases t
      · have HO := Lib.hid (show out = false by rw [hO.out, HST.out, ← QT.out]; rfl)
        go_wp2
        go_region
        go_wp2
        go_ret
        exact ⟨by rw [HO.out]; rfl, below_drew hb⟩
      · have HO := Lib.hid (show out = pcsEq (ps.drop (k + 1)) (qs.drop (k + 1)) by rw [hO.out, HST.out, ← QT.out]; rfl)
        go_wp2
        go_region
        go_wp2
        go_roundw
        case rel => exact ⟨k + 1, by omega, by go_num, hAr, hBr, HO, below_drew hb⟩
        case measure => simp [intOf]; omega
    · obtain rfl : k = ps.length := by omega
      have HO := Lib.hid (show out = true by rw [hO.out, List.drop_length, show ps.length = qs.length from HLE.out, List.drop_length]; rfl)
      go_wp2
      go_ret
      exact ⟨by rw [HO.out]; rfl, hb⟩

end Go.Proofs.Ytaeiahkomdpcoaa.Cell
