/- The walk of package alloc's Take. -/
import Derived.Test.YtnmnecjelpglhaaAllocTurn
namespace Go.Proofs.Ytnmnecjelpglhaa.Alloc
open Go.RowKit

theorem rowsK_mem (L : List Int) (what : Int) (k : Nat) (hk : k ≤ L.length) : ∀ x ∈ rowsK L what k, 0 ≤ x ∧ x < (L.length : Int) ∧ L[x.toNat]? = some what := by
  induction k with
  | zero => intro x hx; simp [rowsK] at hx
  | succ k ih =>
    intro x hx
    rw [rowsK, List.mem_append] at hx
    rcases hx with hx | hx
    · exact ih (by omega) x hx
    · split at hx
      · rename_i h
        simp at hx
        subst hx
        refine ⟨by omega, by omega, ?_⟩
        rw [Int.toNat_natCast, List.getElem?_eq_getElem (show k < L.length by omega)]
        rw [List.getD, List.getElem?_eq_getElem (show k < L.length by omega)] at h
        exact congrArg some h
      · simp at hx

/-- What Take answers, and what it leaves. -/
def takeL (L : List Int) (n : Int) : List Int × Int × List Int :=
  if n < 0 then ([], 2, L) else if ((rowsL L 1).length : Int) < n then ([], 6, L) else ((rowsL L 1).take n.toNat, 0, setAll L ((rowsL L 1).take n.toNat) 2)
def Taken (w : World) (m r : Nat) (R : List Int × Int × List Int) (e : Ending) (w' : World) : Prop :=
  ∃ A cap, e = .returned (.tuple #[.slice A R.1.length cap, .int .i64 R.2.1]) ∧ R.1.length ≤ cap ∧ IntsAt w' A R.1 ∧ (∀ ad, A = some ad → w.heap.size ≤ ad.block) ∧ MapAt w' m r R.2.2 ∧ w.grownBy w' (some r)

theorem taken_none (w w' : World) (m r : Nat) (L : List Int) (code : Int) (h : MapAt w m r L) (hb : Below w.heap.size w w') : Taken w m r ([], code, L) (.returned (.tuple #[.slice none 0 0, .int .i64 code])) w' :=
  ⟨none, 0, rfl, Nat.le_refl _, (fun h => absurd h (Nat.lt_irrefl _)), (fun ad h => by cases h), h.below hb, grown_of_below hb _⟩

set_option maxHeartbeats 3200000 in
set_option maxRecDepth 100000 in
theorem take_calls (m r : Nat) (L : List Int) (n : Int) (w : World) (h : MapAt w m r L) (hN : L.length ≤ 4096) :
    Calls Try.prog 12 #[.pointer (some ⟨m, 0, none⟩), .int .i64 n] w (Taken w m r (takeL L n)) := by
  have HC := Lib.hid (count_calls m r L w h hN)
  have hfl := rowsK_length_le L 1 L.length
  by_cases h1 : n < 0
  · go_enter Try.func12, Try.ntmps12
    go_wp2_with fail
    refine HC.out.mono ?_
    rintro e w1 ⟨rfl, hb1⟩
    have c1 := (h.below hb1).c1
    go_wp2_with fail
    go_ret2
    have := taken_none w w1 m r L 2 h hb1
    unfold takeL
    rw [if_pos h1]
    exact this
  · by_cases h2 : ((rowsL L 1).length : Int) < n
    · go_enter Try.func12, Try.ntmps12
      go_wp2_with fail
      refine HC.out.mono ?_
      rintro e w1 ⟨rfl, hb1⟩
      have c1 := (h.below hb1).c1
      go_wp2_with fail
      go_ret2
      have := taken_none w w1 m r L 6 h hb1
      unfold takeL
      rw [if_neg (by omega), if_pos h2]
      exact this
    · obtain ⟨n, rfl⟩ := Int.eq_ofNat_of_zero_le (show 0 ≤ n by omega)
      have hnf : n ≤ (rowsL L 1).length := by omega
      obtain ⟨l, hl⟩ : ∃ l, l = (rowsL L 1).take n := ⟨_, rfl⟩
      have hll : l.length = n := by rw [hl, List.length_take]; omega
      have ht : takeL L n = (l, 0, setAll L l 2) := by
        unfold takeL
        rw [if_neg (by omega), if_neg (by omega), Int.toNat_natCast, ← hl]
      have hmem : ∀ k (hk : k < l.length), 0 ≤ l[k] ∧ l[k] < (L.length : Int) := fun k hk => by
        have hs : ∀ y ∈ l, y ∈ rowsL L 1 := by rw [hl]; exact fun y hy => List.mem_of_mem_take hy
        have hm : l[k] ∈ rowsL L 1 := hs _ (List.getElem_mem hk)
        have := rowsK_mem L 1 L.length (Nat.le_refl _) _ hm
        exact ⟨this.1, this.2.1⟩
      have HT := Lib.hid ht
      have HLL := Lib.hid hll
      have HL := Lib.hid hl
      have HM := Lib.hid hmem
      have hn4 : n ≤ 4096 := by unfold rowsL at hnf; omega
      clear ht hll hl hmem
      go_enter Try.func12, Try.ntmps12
      go_wp2_with fail
      refine HC.out.mono ?_
      rintro e w1 ⟨rfl, hb1⟩
      have c1 := (h.below hb1).c1
      go_wp2_with fail
      refine (rows_calls m r L 1 _ (h.below hb1) hN).mono ?_
      rintro e w2 ⟨A, cap, rfl, hcap, hI, hnew, hb2⟩
      have hM2 := (h.below hb1).below hb2
      have hIl : IntsAt w2 A l := by rw [HL.out]; exact hI.take n
      by_cases hn0 : n = 0
      · subst hn0
        have h0c : (0 : Int) ≤ (cap : Int) := by omega
        go_wp2
        refine wp_loop_rounds 1 ?_; rw [rounds_succ]
        go_wp2
        go_ret2
        rw [HT.out]
        have hl0 : l = [] := List.eq_nil_of_length_eq_zero HLL.out
        subst hl0
        exact ⟨A, 0, rfl, Nat.le_refl _, hIl, (fun ad h => Nat.le_trans hb1.size (hnew ad h)), hM2, grown_of_below (below_of hb1 hb2) _⟩
      · have hnc : (n : Int) ≤ (cap : Int) := by omega
        obtain ⟨ad, rfl, hadb, _⟩ := hI (show 0 < (rowsL L 1).length by omega)
        go_wp2
        go_loopw [42] (fun iv wr => ∃ k : Nat, k ≤ n ∧ iv = .int .i64 k ∧ MapAt wr m r (setAll L (l.take k) 2) ∧ w2.grownBy wr (some r)) (fun iv _ => n - (intOf iv).toNat)
        case atStart => exact ⟨0, by omega, rfl, hM2, World.grownBy.refl _ _⟩
        case round =>
          obtain ⟨k, hk, rfl, hMk, hgk⟩ := hrel
          have hne : ∀ ad', some ad = some ad' → some ad'.block ≠ some r := fun ad' e e2 => by
            have := hnew ad' e
            have hr1 := (h.below hb1).hr
            have := Option.some.inj e2
            omega
          have hIk := hIl.grown hgk hne
          have hsz : (setAll L (l.take k) 2).length = L.length := setAll_length _ _ _
          have d0 := hMk.c0
          rw [hsz] at d0
          by_cases hlt : k < n
          · have hkl : k < l.length := by rw [HLL.out]; exact hlt
            obtain ⟨ad', hae, _, hcx⟩ := hIk.at_ hkl
            obtain rfl : ad' = ad := (Option.some.inj hae).symm
            clear hae
            obtain ⟨x, hx⟩ : ∃ x, x = l[k] := ⟨_, rfl⟩
            have hxb := HM.out k hkl
            rw [← hx] at hcx hxb
            obtain ⟨i, rfl⟩ := Int.eq_ofNat_of_zero_le hxb.1
            have hi1 : i < L.length := by omega
            obtain ⟨y, hy⟩ : ∃ y, (setAll L (l.take k) 2)[i]? = some y := ⟨_, List.getElem?_eq_getElem (by rw [hsz]; exact hi1)⟩
            obtain ⟨hcy, hfy⟩ := hMk.row i y hy
            have HX := Lib.hid hx
            clear hx hy hxb hsz c1 hne hIl hM2
            go_wp2
            go_roundw
            case rel =>
              refine ⟨k + 1, by omega, by go_num, ?_, grown_trans hgk (grown_set _ _ _ _)⟩
              rw [List.take_succ_eq_append_getElem hkl, setAll_snoc, ← HX.out]
              exact hMk.set i (by rw [setAll_length]; exact hi1) 2
            case measure => simp [intOf]; omega
          · obtain rfl : k = n := by omega
            clear hsz
            go_wp2
            go_ret2
            rw [HT.out]
            have hlk : l.take k = l := List.take_of_length_le (by rw [HLL.out]; exact Nat.le_refl _)
            rw [hlk] at hMk
            refine ⟨some ad, k, ?_, ?_, hIk, (fun ad h => Nat.le_trans hb1.size (hnew ad h)), hMk, grown_trans (grown_of_below (below_of hb1 hb2) _) hgk⟩
            · show Ending.returned (.tuple #[.slice (some ad) k k, .int .i64 0]) = Ending.returned (.tuple #[.slice (some ad) l.length k, .int .i64 0])
              rw [HLL.out]
            · rw [HLL.out]; exact Nat.le_refl _

end Go.Proofs.Ytnmnecjelpglhaa.Alloc
