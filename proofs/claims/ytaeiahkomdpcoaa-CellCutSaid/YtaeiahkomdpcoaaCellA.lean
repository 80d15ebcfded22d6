/- Pieces in memory; the walks of package cell's MayBody, of slices.Equal over pieces. -/
import Derived.Test.YtaeiahkomdpcoaaCellP
import Derived.WalkMore
import Derived.Deep.Cut
import Derived.Deep.Slices
import Derived.Laws.StructEq
import Derived.Laws.ResultCell
import Derived.Laws.Rows
namespace Go.Proofs.Ytaeiahkomdpcoaa.Cell
open Go.RowKit Go.Proofs.Ytaeiahkomdpcoaa.Num Go.Proofs.Ytaeiahkomdpcoaa.Wire

/-- A list of pieces at an address, nil let in. -/
def PcsAt (w : World) (A : Option Addr) (ps : List Piece) : Prop := ∀ i p, ps[i]? = some p → ∃ ad, A = some ad ∧ ad.block < w.heap.size ∧ w.cell? (ad.add (i * 3)) = some (.int .i64 p.row) ∧ w.cell? (ad.add (i * 3 + 1)) = some (.int .u64 (p.stamp : Int)) ∧ w.cell? (ad.add (i * 3 + 2)) = some (.int .i64 p.len)
theorem PcsAt.below {w w' : World} {A : Option Addr} {ps : List Piece} (h : PcsAt w A ps) (hb : Below w.heap.size w w') : PcsAt w' A ps := fun i s hs => by
  obtain ⟨ad, h0, h1, h2, h3, h4⟩ := h i s hs
  have hk : ∀ n, w'.cell? (ad.add n) = w.cell? (ad.add n) := fun n => World.cell?_of_block (by rw [block_of_add]; exact hb.block _ h1)
  exact ⟨ad, h0, Nat.lt_of_lt_of_le h1 hb.size, (hk _).trans h2, (hk _).trans h3, (hk _).trans h4⟩
theorem PcsAt.at_ {w : World} {A : Option Addr} {ps : List Piece} (h : PcsAt w A ps) {k : Nat} (hk : k < ps.length) : ∃ ad, A = some ad ∧ ad.block < w.heap.size ∧ w.cell? (ad.add (k * 3)) = some (.int .i64 ps[k].row) ∧ w.cell? ⟨(ad.add (k * 3)).block, (ad.add (k * 3)).off + 1, none⟩ = some (.int .u64 (ps[k].stamp : Int)) ∧
    w.cell? ⟨(ad.add (k * 3)).block, (ad.add (k * 3)).off + 2, none⟩ = some (.int .i64 ps[k].len) := by
  obtain ⟨ad, h0, h1, h2, h3, h4⟩ := h k _ (List.getElem?_eq_getElem hk)
  refine ⟨ad, h0, h1, h2, ?_, ?_⟩
  · rw [← h3, ← Deep.add_add]; rfl
  · rw [← h4, ← Deep.add_add]; rfl
theorem PcsAt.nil (w : World) (A : Option Addr) : PcsAt w A [] := fun i p h => by simp at h

theorem sumOk_drop (left : Int) (ps : List Piece) (k : Nat) (h : k < ps.length) : sumOk left (ps.drop k) = (pcOk left ps[k] && sumOk (left - ps[k].len) (ps.drop (k + 1))) := by
  rw [List.drop_eq_getElem_cons h]; rfl
theorem empty_iff (s : ByteArray) : s.toList.isEmpty = decide (s = ⟨#[]⟩) := by
  rw [ByteArray.toList_eq]
  by_cases h : s = ⟨#[]⟩
  · subst h; rfl
  · rw [decide_eq_false h]
    cases hs : s.data.toList with
    | nil => exact absurd (ByteArray.ext (Array.toList_inj.1 hs)) h
    | cons a l => rfl

set_option maxHeartbeats 3200000 in
set_option maxRecDepth 100000 in
theorem mayBody_calls (len : Int) (inl : ByteArray) (A : Option Addr) (c : Nat) (ps : List Piece) (w : World) (hP : PcsAt w A ps) :
    Calls Try.prog 52 #[.agg #[.int .i64 len, .string inl, .slice A ps.length c]] w fun e w' => e = .returned (.bool (mayBody ⟨len, inl, ps⟩)) ∧ Below w.heap.size w w' := by
  have hb1 := below_one w (.cells #[.int .i64 len, .string inl, .slice A ps.length c] 48)
  by_cases g1 : len < 0
  · rw [show mayBody ⟨len, inl, ps⟩ = false by unfold mayBody; rw [decide_eq_false (show ¬ (0 ≤ len ∧ len ≤ 32768) by omega)]; rfl]
    go_enter Try.func52, Try.ntmps52
    go_wp2
    go_step3
    go_wp2
    rw [Exit.noGoto_ret]
    go_ret
    exact ⟨rfl, hb1⟩
  by_cases g2 : 32768 < len
  · rw [show mayBody ⟨len, inl, ps⟩ = false by unfold mayBody; rw [decide_eq_false (show ¬ (0 ≤ len ∧ len ≤ 32768) by omega)]; rfl]
    go_enter Try.func52, Try.ntmps52
    go_wp2
    go_step3
    go_wp2
    rw [Exit.noGoto_ret]
    go_ret
    exact ⟨rfl, hb1⟩
  have e0 : decide (0 ≤ len ∧ len ≤ 32768) = true := decide_eq_true (by omega)
  by_cases g3 : ps.length = 0
  · have e1 : mayBody ⟨len, inl, ps⟩ = (decide ((inl.size : Int) = len) && decide (len ≤ 64)) := by unfold mayBody; rw [e0, if_pos g3]; rfl
    rw [e1]
    clear e0 e1
    by_cases g4 : (inl.size : Int) = len
    · have g4' : ((inl.size : Int) == len) = true := by rw [beq_iff_eq]; exact g4
      rw [decide_eq_true g4]
      have g4h := Lib.hid g4
      clear g4
      go_enter Try.func52, Try.ntmps52
      go_wp2
      go_step3
      go_wp2
      rw [Exit.noGoto_ret]
      go_ret
      exact ⟨by simp, below_one _ _⟩
    · have g4' : ((inl.size : Int) == len) = false := by rw [beq_eq_false_iff_ne]; exact g4
      rw [decide_eq_false g4]
      go_enter Try.func52, Try.ntmps52
      go_wp2
      go_step3
      go_wp2
      rw [Exit.noGoto_ret]
      go_ret
      exact ⟨rfl, below_one _ _⟩
  have hie := empty_iff inl
  have i3 : ((ps.length : Int) == 0) = false := by rw [beq_eq_false_iff_ne]; omega
  by_cases g5 : inl = ⟨#[]⟩
  case neg =>
    rw [decide_eq_false g5] at hie
    rw [show mayBody ⟨len, inl, ps⟩ = false by unfold mayBody; rw [e0, if_neg g3, decide_eq_false g5]; rfl]
    clear e0 g3
    go_enter Try.func52, Try.ntmps52
    go_wp2
    go_step3
    go_wp2
    rw [Exit.noGoto_ret]
    go_ret
    exact ⟨rfl, hb1⟩
  rw [decide_eq_true g5] at hie
  by_cases g6 : 512 < ps.length
  · rw [show mayBody ⟨len, inl, ps⟩ = false by unfold mayBody; rw [e0, if_neg g3, decide_eq_true g5, decide_eq_false (show ¬ ps.length ≤ 512 by omega)]; rfl]
    have i4 : (512 : Int) < (ps.length : Int) := by omega
    clear e0 g3 g5
    go_enter Try.func52, Try.ntmps52
    go_wp2
    go_step3
    go_wp2
    rw [Exit.noGoto_ret]
    go_ret
    exact ⟨rfl, hb1⟩
  have i4 : ¬ (512 : Int) < (ps.length : Int) := by omega
  obtain ⟨out, qo⟩ : ∃ x, x = mayBody ⟨len, inl, ps⟩ := ⟨_, rfl⟩
  have qs : out = sumOk len ps := by rw [qo]; unfold mayBody; rw [e0, if_neg g3, decide_eq_true g5, decide_eq_true (show ps.length ≤ 512 by omega)]; rfl
  rw [← qo]
  have QS := Lib.hid qs
  have hP1 := hP.below hb1
  clear e0 g3 g5 qo qs hP
  go_enter Try.func52, Try.ntmps52
  go_wp2
  go_step3
  go_wp2
  go_step3
  go_wp2
  go_loopw [3, 42] (fun lv iv wr => ∃ (k : Nat) (left : Int), k ≤ ps.length ∧ 0 ≤ left ∧ left ≤ 32768 ∧ lv = .int .i64 left ∧ iv = .int .i64 (k : Int) ∧ PcsAt wr A ps ∧ Hid (out = sumOk left (ps.drop k)) ∧ Below w.heap.size w wr) (fun _ iv _ => ps.length - (intOf iv).toNat)
  case atStart => exact ⟨0, len, by omega, by omega, by omega, rfl, rfl, hP1, QS, hb1⟩
  case round =>
    obtain ⟨k, left, hk, hl0, hl1, rfl, rfl, hPr, hO, hb⟩ := hrel
    by_cases hlt : k < ps.length
    · obtain ⟨ad, rfl, had, c0, c1, c2⟩ := hPr.at_ hlt
      have hst := sumOk_drop left ps k hlt
      obtain ⟨p, hp⟩ : ∃ p, p = ps[k] := ⟨_, rfl⟩
      rw [← hp] at c0 c1 c2 hst
      clear hp
      obtain ⟨row, stamp, ln⟩ := p
      simp only at c0 c1 c2 hst
      have HST := Lib.hid hst
      have bw := below_alloc hb (.cells #[.int .i64 row, .int .u64 (stamp : Int), .int .i64 ln] 75)
      have hPn := hPr.below (below_one wr (.cells #[.int .i64 row, .int .u64 (stamp : Int), .int .i64 ln] 75))
      clear hst
      have hbg : big = 281474976710656 := rfl
      by_cases x1 : row < 0
      · have HO := Lib.hid (show out = false by rw [hO.out, HST.out]; unfold pcOk; simp only; rw [decide_eq_false (show ¬ (0 ≤ row ∧ row < 4096) by omega)]; rfl)
        clear hO HST
        go_wp2
        (try rw [Exit.noGoto_ret])
        go_ret
        exact ⟨by rw [HO.out]; rfl, bw⟩
      by_cases x2 : 4096 ≤ row
      · have HO := Lib.hid (show out = false by rw [hO.out, HST.out]; unfold pcOk; simp only; rw [decide_eq_false (show ¬ (0 ≤ row ∧ row < 4096) by omega)]; rfl)
        clear hO HST
        go_wp2
        (try rw [Exit.noGoto_ret])
        go_ret
        exact ⟨by rw [HO.out]; rfl, bw⟩
      by_cases x3 : big < stamp
      · have x3' : (281474976710656 : Int) < (stamp : Int) := by omega
        have HO := Lib.hid (show out = false by rw [hO.out, HST.out]; unfold pcOk; simp only; rw [decide_eq_false (show ¬ stamp ≤ big by omega), Bool.and_false]; rfl)
        clear hO HST
        go_wp2
        (try rw [Exit.noGoto_ret])
        go_ret
        exact ⟨by rw [HO.out]; rfl, bw⟩
      have x3' : ¬ (281474976710656 : Int) < (stamp : Int) := by omega
      by_cases x4 : ln < 1
      · have HO := Lib.hid (show out = false by rw [hO.out, HST.out]; unfold pcOk; simp only; rw [decide_eq_false (show ¬ (1 ≤ ln ∧ ln ≤ left) by omega), Bool.and_false]; rfl)
        clear hO HST
        go_wp2
        (try rw [Exit.noGoto_ret])
        go_ret
        exact ⟨by rw [HO.out]; rfl, bw⟩
      by_cases x5 : left < ln
      · have HO := Lib.hid (show out = false by rw [hO.out, HST.out]; unfold pcOk; simp only; rw [decide_eq_false (show ¬ (1 ≤ ln ∧ ln ≤ left) by omega), Bool.and_false]; rfl)
        clear hO HST
        go_wp2
        (try rw [Exit.noGoto_ret])
        go_ret
        exact ⟨by rw [HO.out]; rfl, bw⟩
      have HO := Lib.hid (show out = sumOk (left - ln) (ps.drop (k + 1)) by
        rw [hO.out, HST.out]
        unfold pcOk
        simp only
        rw [decide_eq_true (show 0 ≤ row ∧ row < 4096 by omega), decide_eq_true (show stamp ≤ big by omega), decide_eq_true (show 1 ≤ ln ∧ ln ≤ left by omega)]; rfl)
      have hw1 : IntKind.i64.wrap (left - ln) = left - ln := IntWalk.i64_in _ (by omega)
      clear hO HST hbg
      go_wp2
      go_roundw
      case rel => exact ⟨k + 1, left - ln, by omega, by omega, by omega, rfl, by go_num, hPn, HO, bw⟩
      case measure => simp [intOf]; omega
    · obtain rfl : k = ps.length := by omega
      by_cases x0 : left = 0
      · have HO := Lib.hid (show out = true by rw [hO.out, List.drop_length]; exact decide_eq_true x0)
        subst x0
        go_wp2
        (try rw [Exit.noGoto_ret])
        go_ret
        exact ⟨by rw [HO.out]; rfl, hb⟩
      · have HO := Lib.hid (show out = false by rw [hO.out, List.drop_length]; exact decide_eq_false x0)
        have x0' : (left == 0) = false := by rw [beq_eq_false_iff_ne]; exact x0
        go_wp2
        (try rw [Exit.noGoto_ret])
        go_ret
        exact ⟨by rw [HO.out]; rfl, hb⟩

end Go.Proofs.Ytaeiahkomdpcoaa.Cell
