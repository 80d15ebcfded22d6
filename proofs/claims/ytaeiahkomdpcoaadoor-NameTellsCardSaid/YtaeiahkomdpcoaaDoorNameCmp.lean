/- The walks of cmp.Compare, cmp.Or, and package name's Compare. -/
import Derived.Test.YtaeiahkomdpcoaaDoorNameOrdP
namespace Go.Proofs.YtaeiahkomdpcoaaDoor.Name
open Go.RowKit Go.Shelf

theorem nan_u64 (x : Int) (w : World) : Calls Tryd.prog 64 #[.int .u64 x] w fun e w' => e = .returned (.bool false) ∧ w' = w := by
  go_enter Tryd.func64, Tryd.ntmps64
  go_wp2
  go_ret
  exact ⟨by simp, rfl⟩
theorem nan_u8 (x : Int) (w : World) : Calls Tryd.prog 65 #[.int .u8 x] w fun e w' => e = .returned (.bool false) ∧ w' = w := by
  go_enter Tryd.func65, Tryd.ntmps65
  go_wp2
  go_ret
  exact ⟨by simp, rfl⟩
theorem nan_int (x : Int) (w : World) : Calls Tryd.prog 67 #[.int .i64 x] w fun e w' => e = .returned (.bool false) ∧ w' = w := by
  go_enter Tryd.func67, Tryd.ntmps67
  go_wp2
  go_ret
  exact ⟨by simp, rfl⟩
theorem nan_str (x : ByteArray) (w : World) : Calls Tryd.prog 66 #[.string x] w fun e w' => e = .returned (.bool false) ∧ w' = w := by
  go_enter Tryd.func66, Tryd.ntmps66
  go_wp2
  go_ret
  exact ⟨by simp, rfl⟩

theorem cmpN_cast (a b : Nat) : cmpZ (a : Int) (b : Int) = cmpN a b := by
  unfold cmpZ cmpN
  rcases Nat.lt_trichotomy a b with h | h | h
  · rw [if_pos (by omega), if_pos h]
  · subst h; simp
  · rw [if_neg (by omega), if_pos (by omega), if_neg (by omega), if_pos h]
theorem cmpZ_lt {a b : Int} (h : a < b) : cmpZ a b = -1 := if_pos h
theorem cmpZ_gt {a b : Int} (h : b < a) : cmpZ a b = 1 := by unfold cmpZ; rw [if_neg (by omega), if_pos h]
theorem cmpZ_eq (a : Int) : cmpZ a a = 0 := by unfold cmpZ; simp

set_option maxHeartbeats 1000000 in
theorem compare_u64 (x y : Int) (w : World) : Calls Tryd.prog 41 #[.int .u64 x, .int .u64 y] w fun e w' => e = .returned (.int .i64 (cmpZ x y)) ∧ w' = w := by
  rcases Int.lt_trichotomy x y with h | h | h
  · rw [cmpZ_lt h]
    go_enter Tryd.func41, Tryd.ntmps41
    go_wp2_with (go_at_call 64; refine (nan_u64 _ _).mono ?_; rintro e w' ⟨rfl, hw⟩; rw [hw])
    go_ret
    exact ⟨rfl, rfl⟩
  · subst h
    rw [cmpZ_eq]
    have h1 : ¬ x < x := Int.lt_irrefl _
    go_enter Tryd.func41, Tryd.ntmps41
    go_wp2_with (go_at_call 64; refine (nan_u64 _ _).mono ?_; rintro e w' ⟨rfl, hw⟩; rw [hw])
    go_ret
    exact ⟨rfl, rfl⟩
  · rw [cmpZ_gt h]
    have h1 : ¬ x < y := by omega
    go_enter Tryd.func41, Tryd.ntmps41
    go_wp2_with (go_at_call 64; refine (nan_u64 _ _).mono ?_; rintro e w' ⟨rfl, hw⟩; rw [hw])
    go_ret
    exact ⟨rfl, rfl⟩

set_option maxHeartbeats 1000000 in
theorem compare_u8 (x y : Int) (w : World) : Calls Tryd.prog 43 #[.int .u8 x, .int .u8 y] w fun e w' => e = .returned (.int .i64 (cmpZ x y)) ∧ w' = w := by
  rcases Int.lt_trichotomy x y with h | h | h
  · rw [cmpZ_lt h]
    go_enter Tryd.func43, Tryd.ntmps43
    go_wp2_with (go_at_call 65; refine (nan_u8 _ _).mono ?_; rintro e w' ⟨rfl, hw⟩; rw [hw])
    go_ret
    exact ⟨rfl, rfl⟩
  · subst h
    rw [cmpZ_eq]
    have h1 : ¬ x < x := Int.lt_irrefl _
    go_enter Tryd.func43, Tryd.ntmps43
    go_wp2_with (go_at_call 65; refine (nan_u8 _ _).mono ?_; rintro e w' ⟨rfl, hw⟩; rw [hw])
    go_ret
    exact ⟨rfl, rfl⟩
  · rw [cmpZ_gt h]
    have h1 : ¬ x < y := by omega
    go_enter Tryd.func43, Tryd.ntmps43
    go_wp2_with (go_at_call 65; refine (nan_u8 _ _).mono ?_; rintro e w' ⟨rfl, hw⟩; rw [hw])
    go_ret
    exact ⟨rfl, rfl⟩

set_option maxHeartbeats 1000000 in
theorem compare_int (x y : Int) (w : World) : Calls Tryd.prog 45 #[.int .i64 x, .int .i64 y] w fun e w' => e = .returned (.int .i64 (cmpZ x y)) ∧ w' = w := by
  rcases Int.lt_trichotomy x y with h | h | h
  · rw [cmpZ_lt h]
    go_enter Tryd.func45, Tryd.ntmps45
    go_wp2_with (go_at_call 67; refine (nan_int _ _).mono ?_; rintro e w' ⟨rfl, hw⟩; rw [hw])
    go_ret
    exact ⟨rfl, rfl⟩
  · subst h
    rw [cmpZ_eq]
    have h1 : ¬ x < x := Int.lt_irrefl _
    go_enter Tryd.func45, Tryd.ntmps45
    go_wp2_with (go_at_call 67; refine (nan_int _ _).mono ?_; rintro e w' ⟨rfl, hw⟩; rw [hw])
    go_ret
    exact ⟨rfl, rfl⟩
  · rw [cmpZ_gt h]
    have h1 : ¬ x < y := by omega
    go_enter Tryd.func45, Tryd.ntmps45
    go_wp2_with (go_at_call 67; refine (nan_int _ _).mono ?_; rintro e w' ⟨rfl, hw⟩; rw [hw])
    go_ret
    exact ⟨rfl, rfl⟩

theorem cmpL_range : ∀ l r : Bs, cmpL l r = -1 ∨ cmpL l r = 0 ∨ cmpL l r = 1
  | [], [] => .inr (.inl rfl)
  | [], _ :: _ => .inl rfl
  | _ :: _, [] => .inr (.inr rfl)
  | a :: l, b :: r => by
    rw [cmpL_cons]
    split
    · exact .inl rfl
    · split
      · exact .inr (.inr rfl)
      · exact cmpL_range l r
theorem less_cmp (x y : ByteArray) : Op.bytesLess x.toList y.toList = decide (cmpL x.data.toList y.data.toList < 0) := by
  rw [ByteArray.toList_eq, ByteArray.toList_eq]; exact cmpL_less _ _

set_option maxHeartbeats 1000000 in
theorem compare_str (x y : ByteArray) (w : World) : Calls Tryd.prog 44 #[.string x, .string y] w fun e w' => e = .returned (.int .i64 (cmpL x.data.toList y.data.toList)) ∧ w' = w := by
  have h1 := less_cmp x y
  have h2 := less_cmp y x
  rw [cmpL_neg x.data.toList y.data.toList] at h2
  have h3 : (x.toList == y.toList) = decide (cmpL x.data.toList y.data.toList = 0) := by
    rw [ByteArray.toList_eq, ByteArray.toList_eq, Bool.eq_iff_iff, beq_iff_eq, decide_eq_true_iff, cmpL_zero]
  obtain ⟨c, hc⟩ : ∃ c, c = cmpL x.data.toList y.data.toList := ⟨_, rfl⟩
  have hr := cmpL_range x.data.toList y.data.toList
  rw [← hc] at h1 h2 h3 hr
  rw [← hc]
  clear hc
  rcases hr with rfl | rfl | rfl
  all_goals
    first
      | (replace h1 : Op.bytesLess x.toList y.toList = true := h1
         replace h2 : Op.bytesLess y.toList x.toList = false := h2
         replace h3 : (x.toList == y.toList) = false := h3)
      | (replace h1 : Op.bytesLess x.toList y.toList = false := h1
         replace h2 : Op.bytesLess y.toList x.toList = false := h2
         replace h3 : (x.toList == y.toList) = true := h3)
      | (replace h1 : Op.bytesLess x.toList y.toList = false := h1
         replace h2 : Op.bytesLess y.toList x.toList = true := h2
         replace h3 : (x.toList == y.toList) = false := h3)
    go_enter Tryd.func44, Tryd.ntmps44
    go_wp2_with (go_at_call 66; refine (nan_str _ _).mono ?_; rintro e w' ⟨rfl, hw⟩; rw [hw])
    go_ret
    exact ⟨rfl, rfl⟩

/-- The first that is not zero. -/
def orL : List Int → Int
  | [] => 0
  | a :: l => if a = 0 then orL l else a

set_option maxHeartbeats 1600000 in
set_option maxRecDepth 100000 in
theorem or_calls (A : Option Addr) (c : Nat) (t : List Int) (w : World) (h : ListAt w A (t.map (Value.int .i64))) (hn : t.length ≤ 1000) :
    Calls Tryd.prog 42 #[.slice A t.length c] w fun e w' => e = .returned (.int .i64 (orL t)) ∧ w' = w := by
  go_enter Tryd.func42, Tryd.ntmps42
  go_wp2
  go_loop [8] (fun iv => ∃ k : Nat, k ≤ t.length ∧ iv = .int .i64 (k : Int) ∧ Hid (orL t = orL (t.drop k))) (fun iv => t.length - (intOf iv).toNat)
  case atStart => exact ⟨0, by omega, rfl, Lib.hid rfl⟩
  case round =>
    obtain ⟨k, hk, rfl, hB⟩ := hrel
    by_cases hlt : k < t.length
    · obtain ⟨ad, rfl, _, hc⟩ := h (by rw [List.length_map]; omega)
      have hcx : w.cell? (ad.add k) = some (.int .i64 t[k]) := hc k _ (by simp [hlt])
      have HD := Lib.hid (List.drop_eq_getElem_cons hlt)
      obtain ⟨x, hxe⟩ : ∃ x, x = t[k] := ⟨_, rfl⟩
      rw [← hxe] at hcx HD
      clear hxe hc
      by_cases hx : x = 0
      · subst hx
        go_wp2
        go_round
        case rel => exact ⟨k + 1, by omega, by go_num, Lib.hid (by rw [hB.out, HD.out, orL, if_pos rfl])⟩
        case measure => simp [intOf]; omega
      · have hx' : (x != 0) = true := by rw [bne_iff_ne]; exact hx
        go_wp2
        go_ret
        exact ⟨by rw [hB.out, HD.out, orL, if_neg hx]; rfl, rfl⟩
    · have hk2 : k = t.length := by omega
      subst hk2
      go_wp2
      go_ret
      exact ⟨by rw [hB.out, List.drop_length]; rfl, rfl⟩

theorem cmpZ_range (a b : Int) : cmpZ a b = -1 ∨ cmpZ a b = 0 ∨ cmpZ a b = 1 := by
  unfold cmpZ
  split
  · exact .inl rfl
  · split
    · exact .inr (.inr rfl)
    · exact .inr (.inl rfl)
theorem or_five (a b c d e : Int) : orL [a, b, c, d, e] = orZ a (orZ b (orZ c (orZ d e))) := by
  simp only [orL, orZ]
  repeat' split
  all_goals simp_all

set_option maxHeartbeats 8000000 in
set_option maxRecDepth 100000 in
theorem cmpKey_calls (a b : Key) (w : World) : Calls Tryd.prog 15 #[a.val, b.val] w fun e w' => e = .returned (.int .i64 (cmpK a b)) ∧ Below w.heap.size w w' := by
  unfold cmpK
  obtain ⟨ak, ab, an, ann, ap⟩ := a
  obtain ⟨bk, bb, bn, bnn, bp⟩ := b
  unfold Key.val
  simp only
  rw [← cmpN_cast ak bk, ← cmpN_cast ann bnn]
  have H1 := fun W => compare_u8 (ak : Int) (bk : Int) W
  have H4 := fun W => compare_u64 (ann : Int) (bnn : Int) W
  have H5 := fun W => compare_int ap bp W
  obtain ⟨c1, e1⟩ : ∃ c, c = cmpZ (ak : Int) (bk : Int) := ⟨_, rfl⟩
  obtain ⟨c4, e4⟩ : ∃ c, c = cmpZ (ann : Int) (bnn : Int) := ⟨_, rfl⟩
  obtain ⟨c5, e5⟩ : ∃ c, c = cmpZ ap bp := ⟨_, rfl⟩
  have r4 := cmpZ_range (ann : Int) (bnn : Int)
  simp only [← e1] at H1 ⊢
  simp only [← e4] at H4 r4 ⊢
  simp only [← e5] at H5 ⊢
  clear e1 e4 e5
  have G1 := Lib.hid H1
  have G4 := Lib.hid H4
  have G5 := Lib.hid H5
  clear H1 H4 H5
  have hneg : IntKind.i64.wrap (-c4) = -c4 := IntWalk.i64_in _ (by omega)
  clear r4
  have hK0 : KeyAt ((w.alloc (.cells (Key.mk ak ab an ann ap).cells 24)).alloc (.cells (Key.mk bk bb bn bnn bp).cells 24)) w.heap.size ⟨ak, ab, an, ann, ap⟩ := KeyAt.below (w := w.alloc (.cells (Key.mk ak ab an ann ap).cells 24)) (MapKept.heap_alloc w _).1 (below_one _ _)
  have hK1 : KeyAt ((w.alloc (.cells (Key.mk ak ab an ann ap).cells 24)).alloc (.cells (Key.mk bk bb bn bnn bp).cells 24)) (w.heap.size + 1) ⟨bk, bb, bn, bnn, bp⟩ := by
    have := (MapKept.heap_alloc (w.alloc (.cells (Key.mk ak ab an ann ap).cells 24)) (.cells (Key.mk bk bb bn bnn bp).cells 24)).1
    rw [show (w.alloc (.cells (Key.mk ak ab an ann ap).cells 24)).heap.size = w.heap.size + 1 by simp] at this
    exact this
  have b1 := below_alloc (below_one w (.cells (Key.mk ak ab an ann ap).cells 24)) (.cells (Key.mk bk bb bn bnn bp).cells 24)
  obtain ⟨n, hn⟩ : ∃ n, n = (if ak = 3 then -c4 else c4) := ⟨_, rfl⟩
  rw [← hn]
  go_enter Tryd.func15, Tryd.ntmps15
  go_wp2_with fail
  refine (G4.out _).mono ?_
  rintro e w1 ⟨rfl, hw1⟩
  subst hw1
  go_upto_if 13 with fail
  go_cut [5] from 5 (fun s5 wx => s5 = .int .i64 n ∧ KeyAt wx w.heap.size ⟨ak, ab, an, ann, ap⟩ ∧ KeyAt wx (w.heap.size + 1) ⟨bk, bb, bn, bnn, bp⟩ ∧ Below w.heap.size w wx)
  case first =>
    by_cases h3 : ak = 3
    · have hn3 : n = -c4 := by rw [hn, if_pos h3]
      have h3' : ((ak : Int) == 3) = true := by rw [beq_iff_eq]; omega
      subst hn3
      clear hn h3
      go_wp2_with fail
      go_meet
      case rel => exact ⟨rfl, hK0, hK1, b1⟩
    · have hn3 : n = c4 := by rw [hn, if_neg h3]
      have h3' : ((ak : Int) == 3) = false := by rw [beq_eq_false_iff_ne]; omega
      subst hn3
      clear hn
      go_wp2_with fail
      go_meet
      case rel => exact ⟨rfl, hK0, hK1, b1⟩
  case rest =>
    obtain ⟨rfl, hA0, hA1, hb⟩ := hcut
    clear hK0 hK1 b1 hn hneg G4
    have hW : ∀ W : World, KeyAt W w.heap.size ⟨ak, ab, an, ann, ap⟩ → KeyAt W (w.heap.size + 1) ⟨bk, bb, bn, bnn, bp⟩ → W.cell? ⟨w.heap.size, 0, none⟩ = some (.int .u8 (ak : Int)) ∧ W.cell? ⟨w.heap.size, 1, none⟩ = some (.string ab) ∧ W.cell? ⟨w.heap.size, 2, none⟩ = some (.string an) ∧ W.cell? ⟨w.heap.size, 4, none⟩ = some (.int .i64 ap) ∧
        W.cell? ⟨w.heap.size + 1, 0, none⟩ = some (.int .u8 (bk : Int)) ∧ W.cell? ⟨w.heap.size + 1, 1, none⟩ = some (.string bb) ∧ W.cell? ⟨w.heap.size + 1, 2, none⟩ = some (.string bn) ∧ W.cell? ⟨w.heap.size + 1, 4, none⟩ = some (.int .i64 bp) := fun W h0 h1 =>
      ⟨h0.c.1, h0.c.2.1, h0.c.2.2.1, h0.c.2.2.2.2, h1.c.1, h1.c.2.1, h1.c.2.2.1, h1.c.2.2.2.2⟩
    have S0 := Lib.hid (hW wc.drew hA0.drew hA1.drew)
    have S1 := Lib.hid (hW (wc.alloc (.cells #[.int .i64 c1, .int .i64 (cmpL ab.data.toList bb.data.toList), .int .i64 (cmpL an.data.toList bn.data.toList), .int .i64 n, .int .i64 c5] 3)).drew (hA0.below (below_one _ _)).drew (hA1.below (below_one _ _)).drew)
    clear hW hA0 hA1
    have HO : Hid (Calls Tryd.prog 42 #[.slice (some ⟨wc.heap.size, 0, none⟩) 5 5] (wc.alloc (.cells #[.int .i64 c1, .int .i64 (cmpL ab.data.toList bb.data.toList), .int .i64 (cmpL an.data.toList bn.data.toList), .int .i64 n, .int .i64 c5] 3)).drew fun e w' => e = .returned (.int .i64 (orL [c1, cmpL ab.data.toList bb.data.toList, cmpL an.data.toList bn.data.toList, n, c5])) ∧ w' = (wc.alloc (.cells #[.int .i64 c1, .int .i64 (cmpL ab.data.toList bb.data.toList), .int .i64 (cmpL an.data.toList bn.data.toList), .int .i64 n, .int .i64 c5] 3)).drew) :=
      or_calls (some ⟨wc.heap.size, 0, none⟩) 5 [c1, cmpL ab.data.toList bb.data.toList, cmpL an.data.toList bn.data.toList, n, c5] (wc.alloc (.cells #[.int .i64 c1, .int .i64 (cmpL ab.data.toList bb.data.toList), .int .i64 (cmpL an.data.toList bn.data.toList), .int .i64 n, .int .i64 c5] 3)).drew (listAt_lit wc [.int .i64 c1, .int .i64 (cmpL ab.data.toList bb.data.toList), .int .i64 (cmpL an.data.toList bn.data.toList), .int .i64 n, .int .i64 c5] 3) (by simp)
    go_wp2_with fail
    go_region_held3 (fun W => W.cell? ⟨w.heap.size, 0, none⟩ = some (.int .u8 (ak : Int)) ∧ W.cell? ⟨w.heap.size, 1, none⟩ = some (.string ab) ∧ W.cell? ⟨w.heap.size, 2, none⟩ = some (.string an) ∧ W.cell? ⟨w.heap.size, 4, none⟩ = some (.int .i64 ap) ∧
        W.cell? ⟨w.heap.size + 1, 0, none⟩ = some (.int .u8 (bk : Int)) ∧ W.cell? ⟨w.heap.size + 1, 1, none⟩ = some (.string bb) ∧ W.cell? ⟨w.heap.size + 1, 2, none⟩ = some (.string bn) ∧ W.cell? ⟨w.heap.size + 1, 4, none⟩ = some (.int .i64 bp)) (first | assumption | exact S0.out | exact S1.out) (first | (go_at_call 43; refine (G1.out _).mono ?_; rintro e wN ⟨rfl, hwN⟩; subst hwN) | (go_at_call 45; refine (G5.out _).mono ?_; rintro e wN ⟨rfl, hwN⟩; subst hwN) | (go_at_call 44; refine (compare_str _ _ _).mono ?_; rintro e wN ⟨rfl, hwN⟩; subst hwN) | (go_at_call 42; refine HO.out.mono ?_; rintro e wN ⟨rfl, hwN⟩; subst hwN))
    go_wp2_with fail
    go_ret
    exact ⟨by rw [or_five]; rfl, below_drew (below_alloc hb _)⟩

end Go.Proofs.YtaeiahkomdpcoaaDoor.Name
