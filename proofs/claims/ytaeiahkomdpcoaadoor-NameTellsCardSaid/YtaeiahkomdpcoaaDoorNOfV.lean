/- The walk of the document's answer for what bytes are read as, of any bytes. -/
import Derived.Test.YtaeiahkomdpcoaaDoorNOfW
namespace Go.Proofs.YtaeiahkomdpcoaaDoor.Name
open Go.RowKit Go.Shelf

set_option maxHeartbeats 4000000 in
set_option maxRecDepth 100000 in
theorem of_calls (s : ByteArray) (w : World) (hv : Var0 w) (hs : s.size ≤ 4096) : Calls Tryd.prog 16 #[.string s] w fun e w' => e = .returned (ofR s.data.toList) ∧ Below w.heap.size w w' := by
  by_cases hse : s = ⟨#[]⟩
  · subst hse
    exact of_none w
  have h0 : 0 < s.size := by
    rcases Nat.eq_zero_or_pos s.size with h | h
    · exact absurd (ba_ext (List.eq_nil_of_length_eq_zero (by rw [size_list]; exact h))) hse
    · exact h
  have hne : s.toList.isEmpty = false := by rw [empty_iff, decide_eq_false hse]
  clear hse
  obtain ⟨K1, y1, j1, K2, y2, K3, y3, j3, K4, z1, z2, hf4, hkc, p1, p2, p3, p4, p5⟩ := oplan s hs h0
  have hHB := refHasB_calls s[0].toNat
  have hHN := refHasN_calls s[0].toNat
  obtain ⟨c, hc⟩ : ∃ c, s[0].toNat = c := ⟨_, rfl⟩
  rw [hc] at p1 p2 p3 p4 hHB hHN hkc
  have HKC := Lib.hid hkc
  clear hkc
  obtain ⟨hB, q1⟩ : ∃ x, x = hasB c := ⟨_, rfl⟩
  obtain ⟨hN, q2⟩ : ∃ x, x = hasN c := ⟨_, rfl⟩
  obtain ⟨k3, q3⟩ : ∃ x, x = decide (c = 3) := ⟨_, rfl⟩
  obtain ⟨k5, q5⟩ : ∃ x, x = decide (c = 5) := ⟨_, rfl⟩
  have e3 : ((c : Int) == 3) = k3 := by rw [q3, Bool.eq_iff_iff, beq_iff_eq, decide_eq_true_iff]; omega
  have e5 : ((c : Int) == 5) = k5 := by rw [q5, Bool.eq_iff_iff, beq_iff_eq, decide_eq_true_iff]; omega
  obtain ⟨out, qo⟩ : ∃ x, x = ofR s.data.toList := ⟨_, rfl⟩
  rw [← q1, ← qo] at p1
  simp only [← q1] at hHB
  simp only [← q2] at hHN
  rw [← q3] at p2
  rw [← q2, ← q3, ← qo] at p3
  rw [← q5] at p4
  rw [← qo] at p5 ⊢
  clear q1 q2 q3 q5 qo
  have P1 := Lib.hid p1
  have P2 := Lib.hid p2
  have P3 := Lib.hid p3
  have P4 := Lib.hid p4
  have P5 := Lib.hid p5
  have HB := Lib.hid hHB
  have HN := Lib.hid hHN
  have E3 := Lib.hid e3
  have E5 := Lib.hid e5
  have FT := Lib.hid hf4
  obtain ⟨R, hR⟩ : ∃ R, s.extract 1 s.size = R := ⟨_, rfl⟩
  rw [hR] at P1
  have hRz : R.size ≤ 4096 := by
    rw [← hR, str_drop, bs_size, List.length_drop, size_list]; omega
  clear p1 p2 p3 p4 p5 hHB hHN e3 e5 hf4
  have S0 : St w (K0 c) ((w.alloc (.cells zeroK.cells 24)).alloc (.cells (K0 c).cells 24)) := by
    refine ⟨KeyAt.below (w := w.alloc (.cells zeroK.cells 24)) (MapKept.heap_alloc w _).1 (below_one _ _), ?_, (hv.below (below_one w (.cells zeroK.cells 24))).below (below_one _ (.cells (K0 c).cells 24)), below_alloc (below_one w (.cells zeroK.cells 24)) (.cells (K0 c).cells 24)⟩
    have := (MapKept.heap_alloc (w.alloc (.cells zeroK.cells 24)) (.cells (K0 c).cells 24)).1
    rw [show (w.alloc (.cells zeroK.cells 24)).heap.size = w.heap.size + 1 by simp] at this
    exact this
  go_enter Tryd.func16, Tryd.ntmps16
  go_upto_region 5 with fail
  go_cut [18] from 8 (fun s18 wx => s18 = .bool hB ∧ St w (K0 c) wx)
  case first =>
    clear P1 P2 P3 P4 P5 HN E3 E5 FT
    go_wp2_with fail
    refine (HB.out _).mono ?_
    rintro e w1 ⟨rfl, hw1⟩
    subst hw1
    go_wp2_with fail
    go_meet
    case rel => exact ⟨rfl, S0⟩
  case rest =>
    obtain ⟨rfl, S1⟩ := hcut
    clear S0 HB hc hR h0
    go_upto_if 18 with fail
    go_cut [5, 6] from 8 (fun s5 s6 wx => s5 = .string y1 ∧ St w K1 wx ∧ j1 = true)
    case first =>
      rcases P1.out with ⟨he, hK, hy, hj⟩ | ⟨he, Z, hZ, hZl, hZe⟩
      · subst he hK hy hj
        clear P1 P2 P3 P4 P5 HN E3 E5 FT
        go_wp2_with fail
        go_meet
        case rel => exact ⟨rfl, S1, trivial⟩
      · subst he
        have HZE := Lib.hid hZe
        have HZL := Lib.hid hZl
        clear P1 P2 P3 P4 P5 HN E3 E5 FT hZe hZl
        go_wp2_with fail
        go_loop [6] (fun iv => ∃ k : Nat, k ≤ Z ∧ iv = .int .i64 (k : Int)) (fun iv => Z - (intOf iv).toNat)
        case atStart => exact ⟨0, by omega, rfl⟩
        case round =>
          obtain ⟨k, hk, rfl⟩ := hrel
          by_cases hlt : k < Z
          · have hkR : k < R.size := by omega
            have hnz := HZL.out k hkR hlt
            have i1 : ((R[k].toNat : Int) != 0) = true := by rw [bne_iff_ne]; omega
            clear hnz
            go_wp2_with fail
            go_round
            case rel => exact ⟨k + 1, by omega, by go_num⟩
            case measure => simp [intOf]; omega
          · obtain rfl : k = Z := by omega
            rcases HZE.out with ⟨hz, ho⟩ | ⟨hz, hz0, hK, hy, hj⟩
            · subst hz ho
              have g0 := S1.1.f 0
              have g1 := S1.1.f 1
              have g2 := S1.1.f 2
              have g3 := S1.1.f 3
              have g4 := S1.1.f 4
              have hG := S1.1.setAll zeroK
              obtain ⟨q0, q1, q2, q3, q4⟩ := S1.1.c
              have b4 := S1.2.2.2
              go_wp2_with fail
              refine bodyPost_ret (results_key rfl _ _ w.heap.size 24 (Key.cells zeroK) (0, 0) _ rfl hG Tryd.underlying24 rfl (by kernel_rfl)) rfl ?_
              exact ⟨rfl, below_key (below_key (below_key (below_key (below_key b4 ⟨w.heap.size, 0, none⟩ (Nat.le_refl _) _) ⟨w.heap.size, 1, none⟩ (Nat.le_refl _) _) ⟨w.heap.size, 2, none⟩ (Nat.le_refl _) _) ⟨w.heap.size, 3, none⟩ (Nat.le_refl _) _) ⟨w.heap.size, 4, none⟩ (Nat.le_refl _) _⟩
            · subst hK hy hj
              have i1 : ((R[k].toNat : Int) != 0) = false := by rw [bne_eq_false_iff_eq]; omega
              have i2 : ((k : Int) == (R.size : Int)) = false := by rw [beq_eq_false_iff_ne]; omega
              have i3 : (k : Int) ≤ (R.size : Int) := by omega
              have i4 : (0 : Int) ≤ (k : Int) := by omega
              have i5 : IntKind.i64.wrap ((k : Int) + 1) = (k : Int) + 1 := IntWalk.i64_in _ (by omega)
              have i6 : ((k : Int) + 1).toNat = k + 1 := by omega
              have i7 : (k : Int) + 1 ≤ (R.size : Int) := by omega
              have i8 : (0 : Int) ≤ (k : Int) + 1 := by omega
              have i9 : k ≤ R.size := by omega
              have ia : k + 1 ≤ R.size := by omega
              have f1 := S1.2.1.f 1
              obtain ⟨q0, q1, q2, q3, q4⟩ := S1.2.1.c
              clear hz0
              go_wp2_with fail
              go_meet
              case rel => exact ⟨rfl, S1.set1 _, trivial⟩
    case rest =>
      obtain ⟨rfl, S2, hj1⟩ := hcut
      have P2' := Lib.hid (P2.out hj1)
      have P3' := Lib.hid (P3.out hj1)
      clear S1 P1 P2 P3 hj1 hRz
      go_upto_region 13 with fail
      go_cut [46] from 8 (fun s46 wx => s46 = .bool k3 ∧ wx = wc)
      case first =>
        have e3 := E3.out
        have hc0 : K1.kind = c := HKC.out.1
        have p0 := S2.2.1.c.1
        rw [hc0] at p0
        clear P2' P3' P4 P5 HN E3 E5 FT
        go_wp2_with fail
        go_meet
        case rel => exact ⟨rfl, rfl⟩
      case rest =>
        obtain ⟨rfl, rfl⟩ := hcut
        go_upto_if 46 with fail
        go_cut [5, 7] from 8 (fun s5 s7 wx => s5 = .string y2 ∧ St w K2 wx)
        case first =>
          rcases P2'.out with ⟨he, hK, hy⟩ | ⟨he, hK, hy, hkn⟩
          · subst he hK hy
            clear P2' P3' P4 P5 HN E3 E5 FT
            go_wp2_with fail
            go_meet
            case rel => exact ⟨rfl, S2⟩
          · have HK := Lib.hid hK
            have HY := Lib.hid hy
            have SI : St w { K1 with name := bs [] } wc := by rw [hkn]; exact S2
            subst he
            clear P2' P3' P4 P5 HN E3 E5 FT hK hy hkn S2
            go_wp2_with fail
            go_loopw [7] (fun iv wr => ∃ (k : Nat) (acc : Bs), k ≤ y1.size ∧ acc.length ≤ k ∧ iv = .int .i64 (k : Int) ∧ St w { K1 with name := bs acc } wr ∧ Hid (nm y1.data.toList = (acc ++ (nm (y1.data.toList.drop k)).1, (nm (y1.data.toList.drop k)).2))) (fun iv _ => y1.size - (intOf iv).toNat)
            case atStart => exact ⟨0, [], by omega, by simp, rfl, SI, Lib.hid (by simp)⟩
            case round =>
              obtain ⟨k, acc, hk, hacc, rfl, SA, hU⟩ := hrel
              by_cases hlt : k + 1 < y1.size
              · have hlt1 : k < y1.size := by omega
                have hst := nm_step y1.data.toList k (by rw [size_list]; exact hlt)
                have hck : y1.data.toList[k]'(by rw [size_list]; exact hlt1) = y1[k] := rfl
                have hdk : y1.data.toList[k + 1]'(by rw [size_list]; exact hlt) = y1[k + 1] := rfl
                rw [hck, hdk] at hst
                have HST := Lib.hid hst
                have kw : IntKind.i64.wrap ((k : Int) + 1) = (k : Int) + 1 := IntWalk.i64_in _ (by omega)
                have kw2 : IntKind.i64.wrap ((k : Int) + 1 + 1) = (k : Int) + 1 + 1 := IntWalk.i64_in _ (by omega)
                have k2 : ((k : Int) + 1).toNat = k + 1 := by omega
                have k30 : (0 : Int) ≤ (k : Int) := by omega
                have k31 : (0 : Int) ≤ (k : Int) + 1 := by omega
                have k4 : (k : Int) ≤ (k : Int) + 1 := by omega
                have k5' : (k : Int) + 1 ≤ (y1.size : Int) := by omega
                have k5'' : (k : Int) + 1 < (y1.size : Int) := by omega
                have k6 : k + 1 ≤ y1.size := by omega
                have k7 : k ≤ k + 1 := by omega
                have o1 := str_one y1 k hlt1
                have hsz : ¬ 9223372036854775807 < (bs acc).size + (bs [y1[k]]).size := by
                  rw [bs_size, bs_size]
                  show ¬ 9223372036854775807 < acc.length + 1
                  omega
                have f2 := SA.2.1.f 2
                obtain ⟨q0, q1, q2, q3, q4⟩ := SA.2.1.c
                simp only at q0 q1 q2 q3 q4
                have SB : St w { K1 with name := bs acc ++ bs [y1[k]] } (wr.setCell ⟨w.heap.size + 1, 2, none⟩ (.string (bs acc ++ bs [y1[k]]))).drew := (SA.set2 _).drew
                rw [show ({ K1 with name := bs acc ++ bs [y1[k]] } : Key) = { K1 with name := bs (acc ++ [y1[k]]) } by rw [bs_append]] at SB
                have hc8 := y1[k].toNat_lt
                have hd8 := y1[k + 1].toNat_lt
                clear hst hck hdk
                by_cases hc0 : y1[k].toNat = 0
                · have hcB : ((y1[k].toNat : Int) == 0) = true := by rw [hc0]; rfl
                  have hcN : ((y1[k].toNat : Int) != 0) = false := by rw [hc0]; rfl
                  have hC0 : y1[k] = 0 := UInt8.toNat_inj.1 hc0
                  by_cases hd255 : y1[k + 1].toNat = 255
                  · have hdB : ((y1[k + 1].toNat : Int) == 255) = true := by rw [hd255]; rfl
                    have hD : y1[k + 1] = 255 := UInt8.toNat_inj.1 hd255
                    have HU2 := Lib.hid (show nm y1.data.toList = ((acc ++ [y1[k]]) ++ (nm (y1.data.toList.drop (k + 2))).1, (nm (y1.data.toList.drop (k + 2))).2) by
                      rw [hU.out, HST.out, if_neg (by rw [hC0]; simp), if_pos hD, hC0]; simp)
                    clear hc0 hd255 hC0 hD hc8 hd8
                    go_wp2_with fail
                    go_region
                    go_wp2_with fail
                    go_roundw
                    case rel => exact ⟨k + 2, acc ++ [y1[k]], by omega, by simp; omega, by go_num, SB, HU2⟩
                    case measure => simp [intOf]; omega
                  · have hdB : ((y1[k + 1].toNat : Int) == 255) = false := by rw [beq_eq_false_iff_ne]; omega
                    have hD : y1[k + 1] ≠ 255 := fun e => hd255 (by rw [e]; rfl)
                    have HU2 := Lib.hid (show nm y1.data.toList = (acc, y1.data.toList.drop (k + 2)) by
                      rw [hU.out, HST.out, if_neg (by rw [hC0]; simp), if_neg hD]; simp)
                    have m1 : IntKind.i64.wrap ((k : Int) + 2) = (k : Int) + 2 := IntWalk.i64_in _ (by omega)
                    have m2 : min ((k : Int) + 2) (y1.size : Int) = (k : Int) + 2 := Int.min_eq_left (by omega)
                    have m3 : (k : Int) + 2 ≤ (y1.size : Int) := by omega
                    have m4 : ¬ (y1.size : Int) < (k : Int) + 2 := by omega
                    have m5 : ((k : Int) + 2).toNat = k + 2 := by omega
                    have m6 : (0 : Int) ≤ (k : Int) + 2 := by omega
                    have m7 : k + 2 ≤ y1.size := by omega
                    clear hc0 hd255 hC0 hD hc8 hd8 SB f2 q0 q1 q2 q3 q4 o1 hsz
                    go_wp2_with fail
                    go_meet
                    case rel =>
                      have e := HU2.out
                      refine ⟨?_, ?_⟩
                      · rw [HY.out, e, str_drop]
                      · rw [HK.out, e]; exact SA
                · have hcB : ((y1[k].toNat : Int) == 0) = false := by rw [beq_eq_false_iff_ne]; omega
                  have hcN : ((y1[k].toNat : Int) != 0) = true := by rw [bne_iff_ne]; omega
                  have hC0 : y1[k] ≠ 0 := fun e => hc0 (by rw [e]; rfl)
                  have HU2 := Lib.hid (show nm y1.data.toList = ((acc ++ [y1[k]]) ++ (nm (y1.data.toList.drop (k + 1))).1, (nm (y1.data.toList.drop (k + 1))).2) by
                    rw [hU.out, HST.out, if_pos hC0]; simp)
                  clear hc0 hC0 hc8 hd8
                  go_wp2_with fail
                  go_region
                  go_wp2_with fail
                  go_roundw
                  case rel => exact ⟨k + 1, acc ++ [y1[k]], by omega, by simp; omega, by go_num, SB, HU2⟩
                  case measure => simp [intOf]; omega
              · have HE := Lib.hid (nm_end y1.data.toList k (by rw [size_list]; omega))
                have HU2 := Lib.hid (show nm y1.data.toList = (acc, []) by rw [hU.out, HE.out]; simp)
                have kw : IntKind.i64.wrap ((k : Int) + 1) = (k : Int) + 1 := IntWalk.i64_in _ (by omega)
                have k5'' : ¬ (k : Int) + 1 < (y1.size : Int) := by omega
                have m1 : IntKind.i64.wrap ((k : Int) + 2) = (k : Int) + 2 := IntWalk.i64_in _ (by omega)
                have m2 : min ((k : Int) + 2) (y1.size : Int) = (y1.size : Int) := Int.min_eq_right (by omega)
                have m3 : (y1.size : Int) < (k : Int) + 2 := by omega
                go_wp2_with fail
                go_meet
                case rel =>
                  have e := HU2.out
                  refine ⟨?_, ?_⟩
                  · rw [HY.out, e]; rfl
                  · rw [HK.out, e]; exact SA
        case rest =>
          obtain ⟨rfl, S3⟩ := hcut
          clear S2 P2'
          go_upto_region 21 with fail
          go_cut [91] from 8 (fun s91 wx => s91 = .bool hN ∧ wx = wc)
          case first =>
            have hc0 : K2.kind = c := HKC.out.2.1
            have p0 := S3.2.1.c.1
            rw [hc0] at p0
            clear P3' P4 P5 E3 E5 FT
            go_wp2_with fail
            refine (HN.out _).mono ?_
            rintro e w1 ⟨rfl, hw1⟩
            subst hw1
            go_wp2_with fail
            go_meet
            case rel => exact ⟨rfl, rfl⟩
          case rest =>
            obtain ⟨rfl, rfl⟩ := hcut
            clear HN
            go_upto_if 91 with fail
            go_cut [5] from 8 (fun s5 wx => s5 = .string y3 ∧ St w K3 wx ∧ j3 = true)
            case first =>
              rcases P3'.out with ⟨he, hK, hy, hj⟩ | ⟨he, h8, ho⟩ | ⟨he, h8, N0, hN0, hNt, hK, hy, hj⟩
              · subst he hK hy hj
                clear P3' P4 P5 E3 E5 FT
                go_wp2_with fail
                go_meet
                case rel => exact ⟨rfl, S3, trivial⟩
              · subst he ho
                have i1 : (y2.size : Int) < 8 := by omega
                clear P3' P4 P5 E3 E5 FT
                have g0 := S3.1.f 0
                have g1 := S3.1.f 1
                have g2 := S3.1.f 2
                have g3 := S3.1.f 3
                have g4 := S3.1.f 4
                have hG := S3.1.setAll zeroK
                obtain ⟨q0, q1, q2, q3, q4⟩ := S3.1.c
                have b4 := S3.2.2.2
                go_wp2_with fail
                refine bodyPost_ret (results_key rfl _ _ w.heap.size 24 (Key.cells zeroK) (0, 0) _ rfl hG Tryd.underlying24 rfl (by kernel_rfl)) rfl ?_
                exact ⟨rfl, below_key (below_key (below_key (below_key (below_key b4 ⟨w.heap.size, 0, none⟩ (Nat.le_refl _) _) ⟨w.heap.size, 1, none⟩ (Nat.le_refl _) _) ⟨w.heap.size, 2, none⟩ (Nat.le_refl _) _) ⟨w.heap.size, 3, none⟩ (Nat.le_refl _) _) ⟨w.heap.size, 4, none⟩ (Nat.le_refl _) _⟩
              · subst he hj
                have i1 : ¬ (y2.size : Int) < 8 := by omega
                have h8i : (8 : Int) ≤ (y2.size : Int) := by omega
                have HNU : Hid (∀ W, Calls Tryd.prog 48 #[.string y2] W fun e w' => e = .returned (.int .u64 (N0 : Int)) ∧ w' = W) := fun W => by
                  rw [hN0]; exact refNumber_calls y2 W h8
                have f3 := S3.2.1.f 3
                obtain ⟨q0, q1, q2, q3, q4⟩ := S3.2.1.c
                have SA := S3.set3 N0
                have f3b := SA.2.1.f 3
                obtain ⟨r0, r1, r2, r3, r4⟩ := SA.2.1.c
                have hc0 : K2.kind = c := HKC.out.2.1
                simp only [hc0] at r0
                have e3 := E3.out
                have hx : IntKind.u64.wrap ((18446744073709551615 : Int) - (N0 : Int)) = ((top - N0 : Nat) : Int) := by
                  have e : ((top - N0 : Nat) : Int) = (18446744073709551615 : Int) - (N0 : Int) := by unfold top at hNt ⊢; omega
                  rw [e]; exact IntWalk.u64_in _ (by unfold top at hNt; omega)
                obtain ⟨N1, hN1⟩ : ∃ N1, N1 = top - N0 := ⟨_, rfl⟩
                rw [← hN1] at hx
                have HY := Lib.hid hy
                cases k3
                · have hK' : K3 = { K2 with n := N0 } := by rw [hK]; rfl
                  subst hK'
                  clear P3' P4 P5 E3 E5 FT hy hK hN0 hNt hx hN1
                  go_wp2_with fail
                  refine (HNU.out _).mono ?_
                  rintro e wN ⟨rfl, hwN⟩
                  subst hwN
                  go_wp2_with fail
                  go_meet
                  case rel => exact ⟨by rw [HY.out], SA, trivial⟩
                · have hK' : K3 = { K2 with n := N1 } := by rw [hK, hN1]; rfl
                  subst hK'
                  have SB := SA.set3 N1
                  clear P3' P4 P5 E3 E5 FT hy hK hN0 hNt hN1
                  go_wp2_with fail
                  refine (HNU.out _).mono ?_
                  rintro e wN ⟨rfl, hwN⟩
                  subst hwN
                  go_wp2_with fail
                  go_meet
                  case rel => exact ⟨by rw [HY.out], SB, trivial⟩
            case rest =>
              obtain ⟨rfl, S4, hj3⟩ := hcut
              have P5' := Lib.hid (P5.out hj3)
              clear S3 P3' P5 hj3 E3
              have hc0 : K3.kind = c := HKC.out.2.2.1
              have p0 := S4.2.1.c.1
              rw [hc0] at p0
              go_upto_region 28 with fail
              go_cut [115] from 8 (fun s115 wx => s115 = .bool (k5 && decide (y3.size = 2)) ∧ wx = wc)
              case first =>
                have e5 := E5.out
                clear P4 P5' E5 FT
                by_cases h2 : y3.size = 2
                · have h2' : ((y3.size : Int) == 2) = true := by rw [beq_iff_eq]; omega
                  cases k5
                  all_goals
                    go_wp2_with fail
                    go_meet
                    case rel => exact ⟨by simp [h2], rfl⟩
                · have h2' : ((y3.size : Int) == 2) = false := by rw [beq_eq_false_iff_ne]; omega
                  cases k5
                  all_goals
                    go_wp2_with fail
                    go_meet
                    case rel => exact ⟨by simp [h2], rfl⟩
              case rest =>
                obtain ⟨rfl, rfl⟩ := hcut
                obtain ⟨t115, qt⟩ : ∃ t, t = (k5 && decide (y3.size = 2)) := ⟨_, rfl⟩
                rw [← qt]
                have QT := Lib.hid qt
                clear qt p0
                go_upto_if 115 with fail
                go_cut [] from 8 (fun wx => St w K4 wx)
                case first =>
                  rcases P4.out with ⟨ht, hK⟩ | ⟨ht, h2, hK⟩
                  · have q := QT.out
                    rw [ht] at q
                    subst q hK
                    clear P4 P5' E5 FT QT
                    go_wp2_with fail
                    go_meet
                    case rel => exact S4
                  · have q := QT.out
                    rw [ht, decide_eq_true h2] at q
                    simp only [Bool.and_self] at q
                    subst q
                    have s0 : 0 < y3.size := by omega
                    have s1 : 1 < y3.size := by omega
                    have s2 : (1 : Int) < (y3.size : Int) := by omega
                    have s3 : (0 : Int) < (y3.size : Int) := by omega
                    have HK : Hid (K4 = { K3 with part := (((y3[0]'s0).toNat * 256 + (y3[1]'s1).toNat : Nat) : Int) }) := hK
                    clear hK h2
                    have u0 := (y3[0]'s0).toNat_lt
                    have u1 := (y3[1]'s1).toNat_lt
                    have w0 : IntKind.i64.wrap (((y3[0]'s0).toNat : Int) * 256) = ((y3[0]'s0).toNat : Int) * 256 := IntWalk.i64_in _ (by omega)
                    have w1 : IntKind.i64.wrap (((y3[0]'s0).toNat : Int) * 256 + ((y3[1]'s1).toNat : Int)) = ((y3[0]'s0).toNat : Int) * 256 + ((y3[1]'s1).toNat : Int) := IntWalk.i64_in _ (by omega)
                    have j0 : IntKind.i64.wrap ((y3[0]'s0).toNat : Int) = ((y3[0]'s0).toNat : Int) := IntWalk.i64_in _ (by omega)
                    have j1' : IntKind.i64.wrap ((y3[1]'s1).toNat : Int) = ((y3[1]'s1).toNat : Int) := IntWalk.i64_in _ (by omega)
                    have f4 := S4.2.1.f 4
                    obtain ⟨q0, q1, q2, q3, q4⟩ := S4.2.1.c
                    have HW1 : Hid (wrap64 (((y3[0]'s0).toNat : Int) * (256 : Int) + ((y3[1]'s1).toNat : Int)) = (((y3[0]'s0).toNat * 256 + (y3[1]'s1).toNat : Nat) : Int)) := by
                      show _ = _
                      unfold wrap64
                      omega
                    clear P4 P5' E5 FT QT u0 u1 ht
                    go_wp2_with fail
                    go_region
                    go_wp2_with fail
                    go_meet
                    case rel =>
                      rw [HK.out, HW1.out]
                      exact (S4.set4 _).drew
                case rest =>
                  have S5 : St w K4 wc := hcut
                  clear hcut S4 P4 E5 QT
                  have hfit := FT.out
                  have HM := Lib.hid (fun W => refMay_calls K4 W hfit)
                  have HBY := Lib.hid (fun (h : mayB K4 = true) W => refBytes_calls K4 W hfit (by
                    obtain ⟨_, _, _, _, _, _, a6, a7⟩ := may_facts h
                    by_cases h5 : K4.kind = 5
                    · have := a6 h5; omega
                    · have := a7 h5; omega) (by
                    obtain ⟨_, _, _, _, _, _, a6, a7⟩ := may_facts h
                    by_cases h5 : K4.kind = 5
                    · have := a6 h5; omega
                    · have := a7 h5; omega))
                  clear FT hfit
                  obtain ⟨mb, qm⟩ : ∃ m, m = mayB K4 := ⟨_, rfl⟩
                  obtain ⟨T, qT⟩ : ∃ T, T = bs (encL K4) := ⟨_, rfl⟩
                  have P6 := P5'.out
                  unfold OPlan5 at P6
                  rw [← qm, ← qT] at P6
                  rw [← qm] at HM
                  rw [← qm, ← qT] at HBY
                  have HP6 := Lib.hid P6
                  clear P5' P6 qm qT
                  obtain ⟨kk, kb, kn, kN, kp⟩ := K4
                  unfold Key.val at HM HBY
                  simp only at HM HBY
                  obtain ⟨p0, p1, p2, p3, p4⟩ := S5.2.1.c
                  simp only at p0 p1 p2 p3 p4
                  rcases HP6.out with ⟨rfl, rfl⟩ | ⟨rfl, hTs, rfl⟩ | ⟨rfl, hTs, rfl⟩
                  · clear HP6 HBY
                    go_wp2_with fail
                    refine (HM.out _).mono ?_
                    rintro e w6 ⟨rfl, hb6⟩
                    have S6 := S5.below hb6
                    clear p0 p1 p2 p3 p4 S5 hb6 HM
                    have g0 := S6.1.f 0
                    have g1 := S6.1.f 1
                    have g2 := S6.1.f 2
                    have g3 := S6.1.f 3
                    have g4 := S6.1.f 4
                    have hG := S6.1.setAll zeroK
                    obtain ⟨q0, q1, q2, q3, q4⟩ := S6.1.c
                    have b4 := S6.2.2.2
                    go_wp2_with fail
                    refine bodyPost_ret (results_key rfl _ _ w.heap.size 24 (Key.cells zeroK) (0, 0) _ rfl hG Tryd.underlying24 rfl (by kernel_rfl)) rfl ?_
                    exact ⟨rfl, below_key (below_key (below_key (below_key (below_key b4 ⟨w.heap.size, 0, none⟩ (Nat.le_refl _) _) ⟨w.heap.size, 1, none⟩ (Nat.le_refl _) _) ⟨w.heap.size, 2, none⟩ (Nat.le_refl _) _) ⟨w.heap.size, 3, none⟩ (Nat.le_refl _) _) ⟨w.heap.size, 4, none⟩ (Nat.le_refl _) _⟩
                  · clear HP6
                    have HBY2 := Lib.hid (HBY.out rfl)
                    clear HBY
                    go_wp2_with fail
                    refine (HM.out _).mono ?_
                    rintro e w6 ⟨rfl, hb6⟩
                    have S6 := S5.below hb6
                    clear p0 p1 p2 p3 p4 S5 hb6 HM
                    obtain ⟨p0, p1, p2, p3, p4⟩ := S6.2.1.c
                    simp only at p0 p1 p2 p3 p4
                    go_wp2_with fail
                    refine (HBY2.out _).mono ?_
                    rintro e w7 ⟨rfl, hb7⟩
                    have S7 := S6.below hb7
                    clear p0 p1 p2 p3 p4 S6 hb7 HBY2
                    have g0 := S7.1.f 0
                    have g1 := S7.1.f 1
                    have g2 := S7.1.f 2
                    have g3 := S7.1.f 3
                    have g4 := S7.1.f 4
                    have hG := S7.1.setAll zeroK
                    obtain ⟨q0, q1, q2, q3, q4⟩ := S7.1.c
                    have b4 := S7.2.2.2
                    go_wp2_with fail
                    refine bodyPost_ret (results_key rfl _ _ w.heap.size 24 (Key.cells zeroK) (0, 0) _ rfl hG Tryd.underlying24 rfl (by kernel_rfl)) rfl ?_
                    exact ⟨rfl, below_key (below_key (below_key (below_key (below_key b4 ⟨w.heap.size, 0, none⟩ (Nat.le_refl _) _) ⟨w.heap.size, 1, none⟩ (Nat.le_refl _) _) ⟨w.heap.size, 2, none⟩ (Nat.le_refl _) _) ⟨w.heap.size, 3, none⟩ (Nat.le_refl _) _) ⟨w.heap.size, 4, none⟩ (Nat.le_refl _) _⟩
                  · clear HP6
                    have HBY2 := Lib.hid (HBY.out rfl)
                    clear HBY
                    go_wp2_with fail
                    refine (HM.out _).mono ?_
                    rintro e w6 ⟨rfl, hb6⟩
                    have S6 := S5.below hb6
                    clear p0 p1 p2 p3 p4 S5 hb6 HM
                    obtain ⟨p0, p1, p2, p3, p4⟩ := S6.2.1.c
                    simp only at p0 p1 p2 p3 p4
                    go_wp2_with fail
                    refine (HBY2.out _).mono ?_
                    rintro e w7 ⟨rfl, hb7⟩
                    have S7 := S6.below hb7
                    clear p0 p1 p2 p3 p4 S6 hb7 HBY2
                    obtain ⟨p0, p1, p2, p3, p4⟩ := S7.2.1.c
                    simp only at p0 p1 p2 p3 p4
                    have g0 := S7.1.f 0
                    have g1 := S7.1.f 1
                    have g2 := S7.1.f 2
                    have g3 := S7.1.f 3
                    have g4 := S7.1.f 4
                    have hG := S7.1.setAll ⟨kk, kb, kn, kN, kp⟩
                    obtain ⟨q0, q1, q2, q3, q4⟩ := S7.1.c
                    have b4 := S7.2.2.2
                    go_wp2_with fail
                    refine bodyPost_ret (results_key rfl _ _ w.heap.size 24 (Key.cells ⟨kk, kb, kn, kN, kp⟩) (0, 0) _ rfl hG Tryd.underlying24 rfl (by kernel_rfl)) rfl ?_
                    exact ⟨rfl, below_key (below_key (below_key (below_key (below_key b4 ⟨w.heap.size, 0, none⟩ (Nat.le_refl _) _) ⟨w.heap.size, 1, none⟩ (Nat.le_refl _) _) ⟨w.heap.size, 2, none⟩ (Nat.le_refl _) _) ⟨w.heap.size, 3, none⟩ (Nat.le_refl _) _) ⟨w.heap.size, 4, none⟩ (Nat.le_refl _) _⟩

end Go.Proofs.YtaeiahkomdpcoaaDoor.Name
