/- The walks of hoardref10's Is, Rows, Take, Load. -/
import Derived.Test.YtnmnecjelpglhaaAllocLoad
import Derived.Below
import Derived.Deep.AppendLies
import Derived.Laws.OwnMore
namespace Go.Proofs.Ytnmnecjelpglhaa.Alloc
open Go.RowKit

def rowAddr (o : Option Nat) : Option Addr := o.map fun g => ⟨g, 0, none⟩

/-- The document's map: its struct in block d, its rows in block o, or nil. -/
structure RefAt (w : World) (d : Nat) (o : Option Nat) (cap : Nat) (L : List Int) : Prop where
  c0 : w.cell? ⟨d, 0, none⟩ = some (.slice (rowAddr o) L.length cap)
  row : ∀ g, o = some g → RowI w g L ∧ g < w.heap.size ∧ g ≠ d
  non : o = none → L = []
  hd : d < w.heap.size
  hc : L.length ≤ cap

theorem RefAt.keep {w w' : World} {d cap : Nat} {o : Option Nat} {L : List Int} (h : RefAt w d o cap L) (hs : w.heap.size ≤ w'.heap.size) (hd : w'.heap[d]? = w.heap[d]?) (hr : ∀ g, o = some g → w'.heap[g]? = w.heap[g]?) : RefAt w' d o cap L :=
  ⟨(World.cell?_of_block (a := ⟨d, 0, none⟩) hd).trans h.c0, fun g hg => ⟨(h.row g hg).1.keep (hr g hg), Nat.lt_of_lt_of_le (h.row g hg).2.1 hs, (h.row g hg).2.2⟩, h.non, Nat.lt_of_lt_of_le h.hd hs, h.hc⟩
theorem RefAt.below {w w' : World} {d cap : Nat} {o : Option Nat} {L : List Int} (h : RefAt w d o cap L) (hb : Below w.heap.size w w') : RefAt w' d o cap L := h.keep hb.size (hb.block _ h.hd) (fun g hg => hb.block _ (h.row g hg).2.1)
theorem RefAt.grown {w w' : World} {d cap : Nat} {o : Option Nat} {L : List Int} {r : Nat} (h : RefAt w d o cap L) (hg : w.grownBy w' (some r)) (h1 : d ≠ r) (h2 : o ≠ some r) : RefAt w' d o cap L :=
  h.keep hg.size (hg.block _ h.hd (fun e => h1 (Option.some.inj e))) (fun g hg' => hg.block _ (h.row g hg').2.1 (fun e => h2 (hg'.trans e)))
theorem RefAt.set {w : World} {d cap g : Nat} {L : List Int} (h : RefAt w d (some g) cap L) (i : Nat) (hi : i < L.length) (x : Int) : RefAt (w.setCell ⟨g, i, none⟩ (.int .u8 x)) d (some g) cap (L.set i x) := by
  obtain ⟨h1, h2, h3⟩ := h.row g rfl
  refine ⟨?_, fun g' hg' => ?_, (fun e => by cases e), by simpa [World.setCell] using h.hd, by rw [List.length_set]; exact h.hc⟩
  · rw [World.cell?_setCell_other, h.c0, List.length_set]
    intro e; injection e with e1 _ _; exact h3 e1
  · obtain rfl := Option.some.inj hg'
    exact ⟨h1.set i hi x, by simpa [World.setCell] using h2, h3⟩
theorem RefAt.some_ {w : World} {d cap : Nat} {o : Option Nat} {L : List Int} (h : RefAt w d o cap L) (hL : 0 < L.length) : ∃ g, o = some g := by
  cases o with
  | none => rw [h.non rfl] at hL; cases hL
  | some g => exact ⟨g, rfl⟩

set_option maxHeartbeats 400000 in
theorem is_calls (d cap : Nat) (o : Option Nat) (L : List Int) (row : Int) (w : World) (h : RefAt w d o cap L) :
    Calls Try.prog 20 #[.pointer (some ⟨d, 0, none⟩), .int .i64 row] w fun e w' => e = .returned (.bool (okRow L.length row)) ∧ w = w' := by
  have c0 := h.c0
  by_cases h1 : 0 ≤ row
  · go_enter Try.func20, Try.ntmps20
    go_wp2
    go_ret
    exact ⟨ret_bool (by simp [okRow, h1]), rfl⟩
  · go_enter Try.func20, Try.ntmps20
    go_wp2
    go_ret
    exact ⟨ret_bool (by simp [okRow]; omega), rfl⟩

set_option maxHeartbeats 1600000 in
theorem refRows_calls (d cap : Nat) (o : Option Nat) (L : List Int) (what : Int) (w : World) (h : RefAt w d o cap L) (hN : L.length ≤ 4096) :
    Calls Try.prog 19 #[.pointer (some ⟨d, 0, none⟩), .int .u8 what] w (RetInts w (rowsL L what)) := by
  obtain ⟨i0, hi, hz0, hz1, hz2⟩ := info_parts infoInt
  go_enter Try.func19, Try.ntmps19
  go_wp2
  go_loopw [5, 6] (fun v iv wr => ∃ k : Nat, k ≤ L.length ∧ iv = .int .i64 k ∧ wr.ownsRow w.heap.size 3 1 v (rowsK L what k).length ((rowsK L what k).map (.int .i64)) ∧ Below w.heap.size w wr) (fun _ iv _ => L.length - (intOf iv).toNat)
  case atStart => exact ⟨0, by omega, rfl, World.ownsRow_nil _ _ _ _, Below.refl _ _⟩
  case round =>
    obtain ⟨k, hk, rfl, hown, hbr⟩ := hrel
    have hkl := rowsK_length_le L what k
    have hM := h.below hbr
    have c0 := hM.c0
    by_cases hlt : k < L.length
    · obtain ⟨g, rfl⟩ := hM.some_ (by omega)
      have c1 : wr.cell? ⟨d, 0, none⟩ = some (.slice (some ⟨g, 0, none⟩) L.length cap) := c0
      clear c0
      obtain ⟨x, hx⟩ : ∃ x, x = L[k] := ⟨_, rfl⟩
      have hcell := ((hM.row g rfl).1 k x (by rw [hx]; exact List.getElem?_eq_getElem hlt)).1
      have hsucc : Hid (rowsK L what (k + 1) = rowsK L what k ++ (if x = what then [(k : Int)] else [])) := by
        show _ = _
        rw [rowsK, hx]; simp [List.getD, hlt]
      clear hx
      by_cases hw : x = what
      · subst hw
        go_wp2_with (at_builtin; refine wpList_append_own _ rfl _ _ 22 rfl w.heap.size 3 i0 (.int .i64 0) 1 8 Try.underlying22 hi hz0 hz1 hz2 rfl (by decide) _ _ _ rfl (hown.alloc _) ⟨wr.heap.size, 0, none⟩ 1 1 [.int .i64 k] rfl rfl ?c1 ?c2 ?c3 ?c4 ?c5 ?_)
        case c2 => rfl
        case c3 => unfold maxLen; omega
        case c4 => omega
        case c5 => have := hbr.size; simp; omega
        intro v' w1 hown' hgrow _
        have hb1 : Below w.heap.size w w1 := below_of_grown (below_alloc hbr _) hgrow (fun g hg => by
          rcases hown.2 with ⟨rfl, _⟩ | ⟨g', cap, cur, rfl, hg', _⟩
          · simp [Value.ownBlock] at hg
          · simp [Value.ownBlock] at hg; omega)
        go_wp2
        go_roundw
        case rel =>
          refine ⟨k + 1, by omega, by go_num, ?_, hb1⟩
          rw [hsucc.out, if_pos trivial, List.length_append, List.map_append]
          exact hown'
        case measure => simp [intOf]; omega
      · go_wp2
        go_roundw
        case rel =>
          refine ⟨k + 1, by omega, by go_num, ?_, hbr⟩
          rw [hsucc.out, if_neg hw, List.append_nil]
          exact hown
        case measure => simp [intOf]; omega
    · obtain rfl : k = L.length := by omega
      go_wp2
      go_ret
      exact retInts_of_own hown hbr

/-- What the document's Take leaves. -/
def RefTaken (w : World) (d : Nat) (o : Option Nat) (cap : Nat) (R : List Int × Int × List Int) (e : Ending) (w' : World) : Prop :=
  ∃ A c, e = .returned (.tuple #[.slice A R.1.length c, .int .i64 R.2.1]) ∧ R.1.length ≤ c ∧ IntsAt w' A R.1 ∧ (∀ ad, A = some ad → w.heap.size ≤ ad.block) ∧ RefAt w' d o cap R.2.2 ∧ w.grownBy w' o
theorem refTaken_none (w w' : World) (d : Nat) (o : Option Nat) (cap : Nat) (L : List Int) (code : Int) (h : RefAt w d o cap L) (hb : Below w.heap.size w w') : RefTaken w d o cap ([], code, L) (.returned (.tuple #[.slice none 0 0, .int .i64 code])) w' :=
  ⟨none, 0, rfl, Nat.le_refl _, (fun h => absurd h (Nat.lt_irrefl _)), (fun ad h => by cases h), h.below hb, grown_of_below hb _⟩

set_option maxHeartbeats 3200000 in
set_option maxRecDepth 100000 in
theorem refTake_calls (d cap : Nat) (o : Option Nat) (L : List Int) (n : Int) (w : World) (h : RefAt w d o cap L) (hN : L.length ≤ 4096) :
    Calls Try.prog 13 #[.pointer (some ⟨d, 0, none⟩), .int .i64 n] w (RefTaken w d o cap (takeL L n)) := by
  have hfl := rowsK_length_le L 1 L.length
  by_cases h1 : n < 0
  · go_enter Try.func13, Try.ntmps13
    go_wp2
    go_ret2
    have := refTaken_none w w d o cap L 2 h (Below.refl _ _)
    unfold takeL
    rw [if_pos h1]
    exact this
  · by_cases h2 : ((rowsL L 1).length : Int) < n
    · go_enter Try.func13, Try.ntmps13
      go_wp2_with fail
      refine (refRows_calls d cap o L 1 _ h hN).mono ?_
      rintro e w1 ⟨A, c, rfl, hc, hI, hnew, hb1⟩
      go_wp2_with fail
      go_ret2
      have := refTaken_none w w1 d o cap L 6 h hb1
      unfold takeL
      rw [if_neg (by omega), if_pos h2]
      exact this
    · obtain ⟨n, rfl⟩ := Int.eq_ofNat_of_zero_le (show 0 ≤ n by omega)
      have hnf : n ≤ (rowsL L 1).length := by omega
      obtain ⟨l, hl⟩ : ∃ l, l = (rowsL L 1).take n := ⟨_, rfl⟩
      have hll : l.length = n := by rw [hl, List.length_take]; omega
      have ht : takeL L n = (l, 0, setAll L l 2) := by
        unfold takeL
        rw [if_neg (by omega), if_neg (by omega), Int.toNat_natCast, ← hl]
      have hmem : ∀ k (hk : k < l.length), 0 ≤ l[k] ∧ l[k] < (L.length : Int) := fun k hk => by
        have hs : ∀ y ∈ l, y ∈ rowsL L 1 := by rw [hl]; exact fun y hy => List.mem_of_mem_take hy
        have hm : l[k] ∈ rowsL L 1 := hs _ (List.getElem_mem hk)
        have := rowsK_mem L 1 L.length (Nat.le_refl _) _ hm
        exact ⟨this.1, this.2.1⟩
      have HT := Lib.hid ht
      have HLL := Lib.hid hll
      have HL := Lib.hid hl
      have HM := Lib.hid hmem
      have hn4 : n ≤ 4096 := by unfold rowsL at hnf; omega
      clear ht hll hl hmem
      go_enter Try.func13, Try.ntmps13
      go_wp2_with fail
      refine (refRows_calls d cap o L 1 _ h hN).mono ?_
      rintro e w2 ⟨A, c, rfl, hcap, hI, hnew, hb2⟩
      have hM2 := h.below hb2
      have hIl : IntsAt w2 A l := by rw [HL.out]; exact hI.take n
      have hnc : n ≤ c := by omega
      go_wp2
      go_loopw [7] (fun iv wr => ∃ k : Nat, k ≤ n ∧ iv = .int .i64 k ∧ RefAt wr d o cap (setAll L (l.take k) 2) ∧ w2.grownBy wr o) (fun iv _ => n - (intOf iv).toNat)
      case atStart => exact ⟨0, by omega, rfl, hM2, World.grownBy.refl _ _⟩
      case round =>
        obtain ⟨k, hk, rfl, hMk, hgk⟩ := hrel
        have hne : ∀ ad', A = some ad' → some ad'.block ≠ o := fun ad' e e2 => by
          have := hnew ad' e
          have := (h.row _ e2.symm).2.1
          omega
        have hIk := hIl.grown hgk hne
        have hsz : (setAll L (l.take k) 2).length = L.length := setAll_length _ _ _
        have d0 := hMk.c0
        rw [hsz] at d0
        by_cases hlt : k < n
        · have hkl : k < l.length := by rw [HLL.out]; exact hlt
          obtain ⟨ad, rfl, _, hcx⟩ := hIk.at_ hkl
          obtain ⟨x, hx⟩ : ∃ x, x = l[k] := ⟨_, rfl⟩
          have hxb := HM.out k hkl
          rw [← hx] at hcx hxb
          obtain ⟨i, rfl⟩ := Int.eq_ofNat_of_zero_le hxb.1
          have hi1 : i < L.length := by omega
          obtain ⟨g, rfl⟩ := h.some_ (by omega)
          have d1 : wr.cell? ⟨d, 0, none⟩ = some (.slice (some ⟨g, 0, none⟩) L.length cap) := d0
          clear d0
          obtain ⟨y, hy⟩ : ∃ y, (setAll L (l.take k) 2)[i]? = some y := ⟨_, List.getElem?_eq_getElem (by rw [hsz]; exact hi1)⟩
          obtain ⟨hcy, hfy⟩ := (hMk.row g rfl).1 i y hy
          have HX := Lib.hid hx
          have hk0 : (0 : Int) ≤ (k : Int) := by omega
          have hk1 : (k : Int) < (n : Int) := by omega
          have hi0 : (0 : Int) ≤ (i : Int) := by omega
          have hi2 : (i : Int) < (L.length : Int) := by omega
          clear hx hy hxb hsz hne hIl hM2
          go_wp2
          go_region
          go_wp2
          go_roundw
          case rel =>
            refine ⟨k + 1, by omega, by go_num, ?_, grown_trans hgk (grown_trans (grown_set _ _ _ _) (grown_of_below (below_drew (Below.refl _ _)) _))⟩
            rw [List.take_succ_eq_append_getElem hkl, setAll_snoc, ← HX.out]
            exact (hMk.set i (by rw [setAll_length]; exact hi1) 2).below (below_drew (Below.refl _ _))
          case measure => simp [intOf]; omega
        · obtain rfl : k = n := by omega
          clear hsz
          go_wp2
          go_ret2
          rw [HT.out]
          have hlk : l.take k = l := List.take_of_length_le (by rw [HLL.out]; exact Nat.le_refl _)
          rw [hlk] at hMk
          refine ⟨A, c, ?_, ?_, hIk, (fun ad h => hnew ad h), hMk, grown_trans (grown_of_below hb2 _) hgk⟩
          · show Ending.returned (.tuple #[.slice A k c, .int .i64 0]) = Ending.returned (.tuple #[.slice A l.length c, .int .i64 0])
            rw [HLL.out]
          · rw [HLL.out]; exact hnc

end Go.Proofs.Ytnmnecjelpglhaa.Alloc
