/- What no map answers; the walks of hoardlaw10.works and AllocNone. -/
import Derived.Test.YtnmnecjelpglhaaAllocLoad
import Derived.Test.YtnmnecjelpglhaaLaw
namespace Go.Proofs.Ytnmnecjelpglhaa.Alloc
open Go.RowKit

set_option maxHeartbeats 400000 in
theorem rows_nil (what : Int) (w : World) : Calls Try.prog 22 #[.pointer none, .int .u8 what] w fun e w' => e = .returned (.slice none 0 0) ∧ w = w' := by
  go_enter Try.func22, Try.ntmps22
  go_wp2
  go_ret
  exact ⟨rfl, rfl⟩
set_option maxHeartbeats 400000 in
theorem count_nil (w : World) : Calls Try.prog 18 #[.pointer none] w fun e w' => e = .returned (.tuple #[.int .i64 0, .int .i64 0, .int .i64 0]) ∧ w = w' := by
  have R := Lib.hid rows_nil
  go_enter Try.func18, Try.ntmps18
  go_wp2_with (go_at_call 22; refine (R.out _ _).mono ?_; rintro e w1 ⟨rfl, rfl⟩)
  go_ret3
  exact ⟨rfl, rfl⟩
set_option maxHeartbeats 400000 in
theorem take_nil (n : Int) (w : World) : Calls Try.prog 12 #[.pointer none, .int .i64 n] w fun e w' => e = .returned (.tuple #[.slice none 0 0, .int .i64 1]) ∧ w = w' := by
  have R := Lib.hid count_nil
  go_enter Try.func12, Try.ntmps12
  go_wp2_with (go_at_call 18; refine (R.out _).mono ?_; rintro e w1 ⟨rfl, rfl⟩)
  go_ret2
  exact ⟨rfl, rfl⟩
set_option maxHeartbeats 400000 in
theorem turn_nil (A : Option Addr) (n c : Nat) (f t : Int) (w : World) : Calls Try.prog 25 #[.pointer none, .slice A n c, .int .u8 f, .int .u8 t] w fun e w' => e = .returned (.int .i64 1) ∧ w = w' := by
  go_enter Try.func25, Try.ntmps25
  go_wp2
  go_step3
  go_wp2
  rw [Exit.noGoto_ret]
  go_ret
  exact ⟨rfl, rfl⟩
set_option maxHeartbeats 400000 in
theorem drop_nil (A : Option Addr) (n c : Nat) (w : World) : Calls Try.prog 15 #[.pointer none, .slice A n c] w fun e w' => e = .returned (.int .i64 1) ∧ w = w' := by
  have R := Lib.hid turn_nil
  go_enter Try.func15, Try.ntmps15
  go_wp2_with (go_at_call 25; refine (R.out _ _ _ _ _ _).mono ?_; rintro e w1 ⟨rfl, rfl⟩)
  go_ret
  exact ⟨rfl, rfl⟩
set_option maxHeartbeats 400000 in
theorem clear_nil (A : Option Addr) (n c : Nat) (w : World) : Calls Try.prog 17 #[.pointer none, .slice A n c] w fun e w' => e = .returned (.int .i64 1) ∧ w = w' := by
  have R := Lib.hid turn_nil
  go_enter Try.func17, Try.ntmps17
  go_wp2_with (go_at_call 25; refine (R.out _ _ _ _ _ _).mono ?_; rintro e w1 ⟨rfl, rfl⟩)
  go_ret
  exact ⟨rfl, rfl⟩
set_option maxHeartbeats 400000 in
theorem of_nil (row : Int) (w : World) : Calls Try.prog 21 #[.pointer none, .int .i64 row] w fun e w' => e = .returned (.int .u8 0) ∧ w = w' := by
  go_enter Try.func21, Try.ntmps21
  go_wp2
  go_ret
  exact ⟨rfl, rfl⟩

theorem lload : loadR 4 [] [] = some [1, 1, 1, 1] := by decide
theorem ltake1 : takeL [1, 1, 1, 1] 2 = ([0, 1], 0, [2, 2, 1, 1]) := by decide
theorem ldrop1 : turnL [2, 2, 1, 1] [1] 2 3 (areB ([2, 2, 1, 1] : List Int).length [1]) = (0, [2, 3, 1, 1]) := by decide
theorem ltake2 : takeL [2, 3, 1, 1] 1 = ([2], 0, [2, 3, 2, 1]) := by decide
theorem lclear1 : turnL [2, 3, 2, 1] [1] 3 1 (areB ([2, 3, 2, 1] : List Int).length [1]) = (0, [2, 1, 2, 1]) := by decide
theorem ltake3 : takeL [2, 1, 2, 1] 2 = ([1, 3], 0, [2, 2, 2, 2]) := by decide

theorem intsAt_two (w : World) (x y : Int) (t : TypeId) : IntsAt (w.alloc (.cells #[.int .i64 x, .int .i64 y] t)) (some ⟨w.heap.size, 0, none⟩) [x, y] := fun _ =>
  ⟨_, rfl, by simp, fun i z hz => by
    match i, hz with
    | 0, hz =>
      simp at hz
      subst hz
      show (w.alloc (.cells #[.int .i64 x, .int .i64 y] t)).cell? (Addr.add ⟨w.heap.size, 0, none⟩ 0) = _
      simp [Addr.add]
    | 1, hz =>
      simp at hz
      subst hz
      show (w.alloc (.cells #[.int .i64 x, .int .i64 y] t)).cell? (Addr.add ⟨w.heap.size, 0, none⟩ 1) = _
      simp [Addr.add]⟩

set_option maxHeartbeats 3200000 in
set_option maxRecDepth 100000 in
theorem works_calls (w : World) : Calls Try.prog 8 #[] w fun e w' => e = .returned (.bool true) ∧ Below w.heap.size w w' := by
  have HN := Lib.hid (new_calls 4 w)
  rw [lload] at HN
  go_enter Try.func8, Try.ntmps8
  go_wp2_with fail
  refine HN.out.mono ?_
  rintro e w1 ⟨m, r, rfl, hm, hr, hM1, hb1⟩
  go_wp2_with fail
  refine (take_calls m r _ 2 _ hM1 (by decide)).mono ?_
  rw [ltake1]
  rintro e w2 ⟨A1, c1, rfl, hc1, hI1, hn1, hM2, hg2⟩
  have hr1 := hM1.hr
  have hs2 := hg2.size
  have hro : ∀ r', some r = some r' → w.heap.size ≤ r' := fun r' e => by cases e; exact hr
  have hb2 := below_of_grown hb1 hg2 hro
  have ne1 : ∀ ad, A1 = some ad → some ad.block ≠ some r := fun ad h e => by have := hn1 ad h; have := Option.some.inj e; omega
  go_wp2_with fail
  refine (drop_calls m r _ _ 1 [1] _ (hM2.below (below_one _ _)) (intsAt_one _ _ _) (by decide) (by decide) (fun ad h => by cases h; have := hM2.hr; simp; omega)).mono ?_
  rw [ldrop1]
  rintro e w3 ⟨rfl, hM3, hg3⟩
  have hI1 := (hI1.below (below_one _ _)).grown hg3 ne1
  have hb3 := below_of_grown (below_alloc hb2 _) hg3 hro
  have hs3 := hg3.size
  go_wp2_with fail
  refine (take_calls m r _ 1 _ hM3 (by decide)).mono ?_
  rw [ltake2]
  rintro e w4 ⟨A2, c2, rfl, hc2, hI2, hn2, hM4, hg4⟩
  have hs4 := hg4.size
  have hr3 := hM3.hr
  have ne2 : ∀ ad, A2 = some ad → some ad.block ≠ some r := fun ad h e => by have := hn2 ad h; have := Option.some.inj e; omega
  have hI1 := hI1.grown hg4 ne1
  have hb4 := below_of_grown hb3 hg4 hro
  go_wp2_with fail
  refine (clear_calls m r _ _ 1 [1] _ (hM4.below (below_one _ _)) (intsAt_one _ _ _) (by decide) (by decide) (fun ad h => by cases h; have := hM4.hr; simp; omega)).mono ?_
  rw [lclear1]
  rintro e w5 ⟨rfl, hM5, hg5⟩
  have hI1 := (hI1.below (below_one _ _)).grown hg5 ne1
  have hI2 := (hI2.below (below_one _ _)).grown hg5 ne2
  have hb5 := below_of_grown (below_alloc hb4 _) hg5 hro
  have hs5 := hg5.size
  go_wp2_with fail
  refine (take_calls m r _ 2 _ hM5 (by decide)).mono ?_
  rw [ltake3]
  rintro e w6 ⟨A3, c3, rfl, hc3, hI3, hn3, hM6, hg6⟩
  have hI1 := hI1.grown hg6 ne1
  have hI2 := hI2.grown hg6 ne2
  have hb6 := below_of_grown hb5 hg6 hro
  go_wp2_with fail
  refine (count_calls m r _ _ hM6 (by decide)).mono ?_
  rintro e w7 ⟨rfl, hb7⟩
  have hI1 := hI1.below hb7
  have hI2 := hI2.below hb7
  have hI3 := hI3.below hb7
  have hb7' := below_of hb6 hb7
  clear hM1 hM2 hM3 hM4 hM5 hM6 hg2 hg3 hg4 hg5 hg6 hb1 hb2 hb3 hb4 hb5 hb6 hb7 ne1 ne2 hn1 hn2 hn3 hs2 hs3 hs4 hs5 hr1 hr3
  have n1 : ((rowsL [2, 2, 2, 2] 1).length : Int) = 0 := by decide
  have n2 : ((rowsL [2, 2, 2, 2] 2).length : Int) = 4 := by decide
  have n3 : ((rowsL [2, 2, 2, 2] 3).length : Int) = 0 := by decide
  rw [n1, n2, n3]
  clear n1 n2 n3
  go_wp2_with fail
  refine (same_calls A1 _ c1 2 [0, 1] [0, 1] _ (hI1.below (below_one _ _)) (intsAt_two _ _ _ _) (by decide)).mono ?_
  rintro e w8 ⟨rfl, hb8⟩
  have hI2 := (hI2.below (below_one _ _)).below hb8
  have hI3 := (hI3.below (below_one _ _)).below hb8
  have hb8' := below_of (below_alloc hb7' _) hb8
  go_wp2_with fail
  refine (same_calls A2 _ c2 1 [2] [2] _ (hI2.below (below_one _ _)) (intsAt_one _ _ _) (by decide)).mono ?_
  rintro e w9 ⟨rfl, hb9⟩
  have hI3 := (hI3.below (below_one _ _)).below hb9
  have hb9' := below_of (below_alloc hb8' _) hb9
  go_wp2_with fail
  refine (same_calls A3 _ c3 2 [1, 3] [1, 3] _ (hI3.below (below_one _ _)) (intsAt_two _ _ _ _) (by decide)).mono ?_
  rintro e w10 ⟨rfl, hb10⟩
  have hb10' := below_of (below_alloc hb9' _) hb10
  go_wp2_with fail
  go_ret
  exact ⟨rfl, hb10'⟩

set_option maxHeartbeats 3200000 in
set_option maxRecDepth 100000 in
theorem none_calls (n : Int) (w : World) : Calls Try.prog 5 #[.int .i64 n] w fun e w' => e = .returned (.bool true) ∧ Below w.heap.size w w' := by
  have R := Lib.hid rows_nil
  have C := Lib.hid count_nil
  have T := Lib.hid take_nil
  have D := Lib.hid drop_nil
  have E := Lib.hid clear_nil
  have O := Lib.hid of_nil
  have W := Lib.hid works_calls
  go_enter Try.func5, Try.ntmps5
  go_wp2_with (first
    | (go_at_call 12; refine (T.out _ _).mono ?_; rintro e w1 ⟨rfl, rfl⟩)
    | (go_at_call 18; refine (C.out _).mono ?_; rintro e w1 ⟨rfl, rfl⟩)
    | (go_at_call 15; refine (D.out _ _ _ _).mono ?_; rintro e w1 ⟨rfl, rfl⟩)
    | (go_at_call 17; refine (E.out _ _ _ _).mono ?_; rintro e w1 ⟨rfl, rfl⟩)
    | (go_at_call 21; refine (O.out _ _).mono ?_; rintro e w1 ⟨rfl, rfl⟩)
    | (go_at_call 22; refine (R.out _ _).mono ?_; rintro e w1 ⟨rfl, rfl⟩)
    | (go_at_call 8; refine (W.out _).mono ?_; rintro e w1 ⟨rfl, hb⟩))
  go_ret
  exact ⟨rfl, below_of (below_alloc (below_one _ _) _) hb⟩

end Go.Proofs.Ytnmnecjelpglhaa.Alloc
