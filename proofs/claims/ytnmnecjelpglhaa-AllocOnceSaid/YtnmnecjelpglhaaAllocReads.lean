/- The walks of package alloc's functions that only read: are, Rows, Count, Of; and of hoardlaw10.same: each once. -/
import Derived.Test.YtnmnecjelpglhaaAllocMem
import Derived.Deep.LoopGhost
namespace Go.Proofs.Ytnmnecjelpglhaa.Alloc
open Go.RowKit

def okRow (N : Nat) (x : Int) : Bool := decide (0 ≤ x) && decide (x < (N : Int))
def areB (N : Nat) (l : List Int) : Bool := l.all (okRow N)

set_option maxHeartbeats 800000 in
theorem are_calls (m r : Nat) (L : List Int) (A : Option Addr) (c : Nat) (l : List Int) (w : World) (h : MapAt w m r L) (hl : IntsAt w A l) (hn : l.length ≤ 9223372036854775807) :
    Calls Try.prog 24 #[.pointer (some ⟨m, 0, none⟩), .slice A l.length c] w fun e w' => e = .returned (.bool (areB L.length l)) ∧ w = w' := by
  have h0 := h.c0
  go_enter Try.func24, Try.ntmps24
  go_wp2
  go_loop [9] (fun iv => ∃ k : Nat, k ≤ l.length ∧ iv = .int .i64 k ∧ Hid ((l.take k).all (okRow L.length) = true)) (fun iv => l.length - (intOf iv).toNat)
  case atStart => exact ⟨0, by omega, rfl, by show ([] : List Int).all _ = true; rfl⟩
  case round =>
    obtain ⟨k, hk, rfl, ha⟩ := hrel
    by_cases hlt : k < l.length
    · obtain ⟨ad, rfl, _, hc⟩ := hl.at_ hlt
      obtain ⟨x, hx⟩ : ∃ x, x = l[k] := ⟨_, rfl⟩
      rw [← hx] at hc
      have HX := Lib.hid hx
      have hall : Hid ((l.take (k + 1)).all (okRow L.length) = okRow L.length x) := by
        show _ = _
        rw [List.take_succ_eq_append_getElem hlt, List.all_append, ha.out, hx]; simp
      have hfin : Hid (okRow L.length x = false → areB L.length l = false) := fun h1 => by
        unfold areB
        rw [List.all_eq_false]
        exact ⟨x, by rw [hx]; exact List.getElem_mem hlt, by rw [h1]; simp⟩
      clear hx
      by_cases h1 : x < 0
      · go_wp2
        go_ret
        exact ⟨ret_bool (by rw [hfin.out (by simp [okRow]; omega)]), rfl⟩
      · by_cases h2 : x < (L.length : Int)
        · go_wp2
          go_round
          case rel => exact ⟨k + 1, by omega, by go_num, by show _ = _; rw [hall.out]; simp [okRow]; omega⟩
          case measure => simp [intOf]; omega
        · go_wp2
          go_ret
          exact ⟨ret_bool (by rw [hfin.out (by simp [okRow]; omega)]), rfl⟩
    · obtain rfl : k = l.length := by omega
      go_wp2
      go_ret
      refine ⟨ret_bool ?_, rfl⟩
      have := ha.out
      rw [List.take_length] at this
      exact this.symm

/-- The rows that are 'what', of the first k. -/
def rowsK (L : List Int) (what : Int) : Nat → List Int
  | 0 => []
  | k + 1 => rowsK L what k ++ (if L.getD k (-1) = what then [(k : Int)] else [])
def rowsL (L : List Int) (what : Int) : List Int := rowsK L what L.length
theorem rowsK_length_le (L : List Int) (what : Int) (k : Nat) : (rowsK L what k).length ≤ k := by
  induction k with
  | zero => simp [rowsK]
  | succ k ih => rw [rowsK, List.length_append]; split <;> simp <;> omega

/-- A slice of numbers of the call's own is handed back. -/
def RetInts (w0 : World) (l : List Int) (e : Ending) (w' : World) : Prop :=
  ∃ A cap, e = .returned (.slice A l.length cap) ∧ l.length ≤ cap ∧ IntsAt w' A l ∧ (∀ ad, A = some ad → w0.heap.size ≤ ad.block) ∧ Below w0.heap.size w0 w'

theorem retInts_of_own {w0 w' : World} {T : TypeId} {v : Value} {l : List Int} (h : w'.ownsRow w0.heap.size T 1 v l.length (l.map (.int .i64))) (hb : Below w0.heap.size w0 w') : RetInts w0 l (.returned v) w' := by
  rcases h.2 with ⟨hv, hn⟩ | ⟨g, cap, cur, hv, hg, hh, hle, _, _, hcur⟩
  · refine ⟨none, 0, ?_, by omega, fun hl => by omega, (fun ad h => by cases h), hb⟩
    rw [hv, hn]
  · have hlt := lt_of_block hh
    refine ⟨some ⟨g, 0, none⟩, cap, ?_, hle, fun _ => ⟨_, rfl, hlt, fun i x hx => ?_⟩, (fun ad h => by cases h; exact hg), hb⟩
    · rw [hv]
    · have hi : i < l.length := by
        rcases Nat.lt_or_ge i l.length with h | h
        · exact h
        · rw [List.getElem?_eq_none h] at hx; cases hx
      have e1 : (⟨g, 0, none⟩ : Addr).add i = ⟨g, i, none⟩ := by unfold Addr.add; split <;> simp_all
      rw [e1, Joins.cell_of_block hh]
      have h2 := congrArg (fun z : List Value => z[i]?) hcur
      simp only [List.getElem?_take] at h2
      rw [if_pos (by omega)] at h2
      rw [Array.getElem?_toList] at h2
      rw [h2]
      simp [hx]

theorem infoInt : (Try.prog.info? 3).map (fun i => (i.zero, i.size, i.bytes)) = some (some (.int .i64 0), 1, 8) := by kernel_rfl

set_option maxHeartbeats 1600000 in
theorem rows_calls (m r : Nat) (L : List Int) (what : Int) (w : World) (h : MapAt w m r L) (hN : L.length ≤ 4096) :
    Calls Try.prog 22 #[.pointer (some ⟨m, 0, none⟩), .int .u8 what] w (RetInts w (rowsL L what)) := by
  obtain ⟨i0, hi, hz0, hz1, hz2⟩ := info_parts infoInt
  have h0 := h.c0
  go_enter Try.func22, Try.ntmps22
  go_wp2
  go_loopw [4, 14] (fun v iv wr => ∃ k : Nat, k ≤ L.length ∧ iv = .int .i64 k ∧ wr.ownsRow w.heap.size 3 1 v (rowsK L what k).length ((rowsK L what k).map (.int .i64)) ∧ Below w.heap.size w wr) (fun _ iv _ => L.length - (intOf iv).toNat)
  case atStart => exact ⟨0, by omega, rfl, World.ownsRow_nil _ _ _ _, Below.refl _ _⟩
  case round =>
    obtain ⟨k, hk, rfl, hown, hbr⟩ := hrel
    have hkl := rowsK_length_le L what k
    by_cases hlt : k < L.length
    · obtain ⟨x, hx⟩ : ∃ x, x = L[k] := ⟨_, rfl⟩
      have hcell := ((h.below hbr).row k x (by rw [hx]; exact List.getElem?_eq_getElem hlt)).1
      have hsucc : Hid (rowsK L what (k + 1) = rowsK L what k ++ (if x = what then [(k : Int)] else [])) := by
        show _ = _
        rw [rowsK, hx]; simp [List.getD, hlt]
      clear hx
      by_cases hw : x = what
      · subst hw
        go_wp2_with (at_builtin; refine wpList_append_own _ rfl _ _ 22 rfl w.heap.size 3 i0 (.int .i64 0) 1 8 Try.underlying22 hi hz0 hz1 hz2 rfl (by decide) _ _ _ rfl (hown.alloc _) ⟨wr.heap.size, 0, none⟩ 1 1 [.int .i64 k] rfl rfl ?c1 ?c2 ?c3 ?c4 ?c5 ?_)
        case c2 => rfl
        case c3 => unfold maxLen; omega
        case c4 => omega
        case c5 => have := hbr.size; simp; omega
        intro v' w1 hown' hgrow _
        have hb1 : Below w.heap.size w w1 := below_of_grown (below_alloc hbr _) hgrow (fun g hg => by
          rcases hown.2 with ⟨rfl, _⟩ | ⟨g', cap, cur, rfl, hg', _⟩
          · simp [Value.ownBlock] at hg
          · simp [Value.ownBlock] at hg; omega)
        go_wp2
        go_roundw
        case rel =>
          refine ⟨k + 1, by omega, by go_num, ?_, hb1⟩
          rw [hsucc.out, if_pos trivial, List.length_append, List.map_append]
          exact hown'
        case measure => simp [intOf]; omega
      · go_wp2
        go_roundw
        case rel =>
          refine ⟨k + 1, by omega, by go_num, ?_, hbr⟩
          rw [hsucc.out, if_neg hw, List.append_nil]
          exact hown
        case measure => simp [intOf]; omega
    · obtain rfl : k = L.length := by omega
      go_wp2
      go_ret
      exact retInts_of_own hown hbr

set_option maxHeartbeats 800000 in
theorem count_calls (m r : Nat) (L : List Int) (w : World) (h : MapAt w m r L) (hN : L.length ≤ 4096) :
    Calls Try.prog 18 #[.pointer (some ⟨m, 0, none⟩)] w fun e w' => e = .returned (.tuple #[.int .i64 ((rowsL L 1).length : Int), .int .i64 ((rowsL L 2).length : Int), .int .i64 ((rowsL L 3).length : Int)]) ∧ Below w.heap.size w w' := by
  go_enter Try.func18, Try.ntmps18
  go_wp2_with fail
  refine (rows_calls m r L 1 _ h hN).mono ?_
  rintro e w1 ⟨A1, c1, rfl, _, _, _, hb1⟩
  go_wp2_with fail
  refine (rows_calls m r L 2 _ (h.below hb1) hN).mono ?_
  rintro e w2 ⟨A2, c2, rfl, _, _, _, hb2⟩
  go_wp2_with fail
  refine (rows_calls m r L 3 _ ((h.below hb1).below hb2) hN).mono ?_
  rintro e w3 ⟨A3, c3, rfl, _, _, _, hb3⟩
  go_wp2_with fail
  go_ret3
  exact ⟨rfl, below_of (below_of hb1 hb2) hb3⟩

def ofL (L : List Int) (row : Int) : Int := if okRow L.length row = true then L.getD row.toNat 0 else 0

theorem intsAt_one (w : World) (x : Int) (t : TypeId) : IntsAt (w.alloc (.cells #[.int .i64 x] t)) (some ⟨w.heap.size, 0, none⟩) [x] := fun _ =>
  ⟨_, rfl, by simp, fun i y hy => by
    match i, hy with
    | 0, hy =>
      simp at hy
      subst hy
      show (w.alloc (.cells #[.int .i64 x] t)).cell? (Addr.add ⟨w.heap.size, 0, none⟩ 0) = _
      simp [Addr.add]⟩

set_option maxHeartbeats 800000 in
theorem of_calls (m r : Nat) (L : List Int) (row : Int) (w : World) (h : MapAt w m r L) :
    Calls Try.prog 21 #[.pointer (some ⟨m, 0, none⟩), .int .i64 row] w fun e w' => e = .returned (.int .u8 (ofL L row)) ∧ Below w.heap.size w w' := by
  have hA := h.below (below_one w (.cells #[.int .i64 row] 3))
  have hI := intsAt_one w row 3
  have HC := Lib.hid (are_calls m r L _ 1 [row] _ hA hI (by simp))
  have c0 := hA.c0
  cases hok : okRow L.length row
  · have hb : areB L.length [row] = false := by simp [areB, hok]
    go_enter Try.func21, Try.ntmps21
    go_wp2_with (go_at_call 24; refine (HC.out).mono ?_; rintro e w1 ⟨rfl, rfl⟩)
    go_ret
    exact ⟨ret_int (by simp [ofL, hok]), below_one _ _⟩
  · have hb : areB L.length [row] = true := by simp [areB, hok]
    have hr : 0 ≤ row ∧ row < L.length := by simpa [okRow] using hok
    obtain ⟨k, rfl⟩ := Int.eq_ofNat_of_zero_le hr.1
    have hk : k < L.length := by omega
    obtain ⟨x, hx⟩ : ∃ x, x = L[k] := ⟨_, rfl⟩
    have hcell := (hA.row k x (by rw [hx]; exact List.getElem?_eq_getElem hk)).1
    have HX := Lib.hid hx
    clear hx hr
    go_enter Try.func21, Try.ntmps21
    go_wp2_with (go_at_call 24; refine (HC.out).mono ?_; rintro e w1 ⟨rfl, rfl⟩)
    go_ret
    refine ⟨ret_int ?_, below_one _ _⟩
    rw [HX.out]
    simp [ofL, hok, List.getD, hk]

set_option maxHeartbeats 1600000 in
theorem same_calls (A B : Option Addr) (c d : Nat) (a b : List Int) (w : World) (ha : IntsAt w A a) (hb : IntsAt w B b) (hn : a.length ≤ 9223372036854775807) :
    Calls Try.prog 14 #[.slice A a.length c, .slice B b.length d] w fun e w' => e = .returned (.bool (decide (a = b))) ∧ Below w.heap.size w w' := by
  by_cases hl : a.length = b.length
  · have hb' := hb
    rw [hl] at hn
    rw [hl]
    go_enter Try.func14, Try.ntmps14
    go_wp2
    go_loopw [5] (fun iv wr => ∃ k q : Nat, k ≤ b.length ∧ iv = .int .i64 k ∧ Hid (a.take k = b.take k) ∧ wr = w.drewN q) (fun iv _ => b.length - (intOf iv).toNat)
    case atStart => exact ⟨0, 0, by omega, rfl, rfl, rfl⟩
    case round =>
      obtain ⟨k, q, hk, rfl, he, rfl⟩ := hrel
      by_cases hlt : k < b.length
      · obtain ⟨ad, rfl, _, hc1⟩ := ha.at_ (show k < a.length by omega)
        obtain ⟨ad2, rfl, _, hc2⟩ := hb.at_ hlt
        obtain ⟨x, hx⟩ : ∃ x, x = a[k] := ⟨_, rfl⟩
        obtain ⟨y, hy⟩ : ∃ y, y = b[k] := ⟨_, rfl⟩
        rw [← hx] at hc1
        rw [← hy] at hc2
        have hi0 : (0 : Int) ≤ (k : Int) := by omega
        have hi1 : (k : Int) < (b.length : Int) := by omega
        have HX := Lib.hid hx
        have HY := Lib.hid hy
        clear hx hy
        cases hxy : (x != y)
        · go_wp2
          go_quiet (fail)
          go_wp2
          go_roundw
          case rel =>
            refine ⟨k + 1, q + nq, by omega, by go_num, ?_, rfl⟩
            show a.take (k + 1) = b.take (k + 1)
            rw [List.take_succ_eq_append_getElem (show k < a.length by omega), List.take_succ_eq_append_getElem hlt, he.out, ← HX.out, ← HY.out]
            have : x = y := by simpa using hxy
            rw [this]
          case measure => simp [intOf]; omega
        · have hne : Hid (decide (a = b) = false) := by
            show _ = _
            rw [decide_eq_false_iff_not]
            intro e
            have h1 : x ≠ y := by simpa using hxy
            apply h1
            rw [HX.out, HY.out]
            exact List.getElem_of_eq e _
          go_wp2
          go_quiet (fail)
          go_wp2
          go_ret
          exact ⟨ret_bool hne.out.symm, below_drewN (below_drewN (Below.refl _ _) _) _⟩
      · obtain rfl : k = b.length := by omega
        go_wp2
        go_ret
        refine ⟨ret_bool ?_, below_drewN (Below.refl _ _) _⟩
        rw [Eq.comm, decide_eq_true_iff]
        have := he.out
        rw [List.take_length, List.take_of_length_le (by omega)] at this
        exact this
  · have hne : Hid (decide (a = b) = false) := by
      show _ = _
      rw [decide_eq_false_iff_not]
      exact fun e => hl (by rw [e])
    go_enter Try.func14, Try.ntmps14
    go_wp2
    go_ret
    exact ⟨ret_bool hne.out.symm, Below.refl _ _⟩

end Go.Proofs.Ytnmnecjelpglhaa.Alloc
