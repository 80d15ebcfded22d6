/- The walk of package name's Decode, of any bytes. -/
import Derived.Test.YtaeiahkomdpcoaaDoorNameDec
namespace Go.Proofs.YtaeiahkomdpcoaaDoor.Name
open Go.RowKit Go.Shelf

set_option maxHeartbeats 1000000 in
set_option maxRecDepth 100000 in
theorem decode_none (w : World) : Calls Tryd.prog 14 #[.string ⟨#[]⟩] w fun e w' => e = .returned (.tuple #[zeroK.val, .int .i64 8]) ∧ Below w.heap.size w w' := by
  go_enter Tryd.func14, Tryd.ntmps14
  go_upto_region 1 with fail
  go_cut [14] from 13 (fun s14 wx => s14 = .bool true ∧ KeyAt wx w.heap.size zeroK ∧ Below w.heap.size w wx)
  case first =>
    go_wp2_with fail
    go_meet
    case rel => exact ⟨rfl, (MapKept.heap_alloc w _).1, below_one _ _⟩
  case rest =>
    obtain ⟨rfl, hA, hb⟩ := hcut
    have g0 := hA.f 0
    have g1 := hA.f 1
    have g2 := hA.f 2
    have g3 := hA.f 3
    have g4 := hA.f 4
    obtain ⟨q0, q1, q2, q3, q4⟩ := hA.c
    have hG := hA.setAll zeroK
    go_wp2
    refine bodyPost_ret (results_key rfl _ _ w.heap.size 24 (Key.cells zeroK) (0, 0) _ rfl hG Tryd.underlying24 rfl (by kernel_rfl)) rfl ?_
    exact ⟨rfl, below_key (below_key (below_key (below_key (below_key hb ⟨w.heap.size, 0, none⟩ (Nat.le_refl _) _) ⟨w.heap.size, 1, none⟩ (Nat.le_refl _) _) ⟨w.heap.size, 2, none⟩ (Nat.le_refl _) _) ⟨w.heap.size, 3, none⟩ (Nat.le_refl _) _) ⟨w.heap.size, 4, none⟩ (Nat.le_refl _) _⟩

theorem k0_val (c : Nat) : (K0 c).val = .agg #[.int .u8 (c : Int), .string ⟨#[]⟩, .string ⟨#[]⟩, .int .u64 0, .int .i64 0] := rfl

set_option maxHeartbeats 2000000 in
set_option maxRecDepth 100000 in
theorem decode_calls (s : ByteArray) (w : World) (hv : Var0 w) (hs : s.size ≤ 4096) : Calls Tryd.prog 14 #[.string s] w fun e w' => e = .returned (decR s.data.toList) ∧ Below w.heap.size w w' := by
  by_cases hse : s = ⟨#[]⟩
  · subst hse
    exact decode_none w
  have h0 : 0 < s.size := by
    rcases Nat.eq_zero_or_pos s.size with h | h
    · exact absurd (ba_ext (List.eq_nil_of_length_eq_zero (by rw [size_list]; exact h))) hse
    · exact h
  have hne : s.toList.isEmpty = false := by rw [empty_iff, decide_eq_false hse]
  clear hse
  obtain ⟨K1, y1, i1, K2, y2, i2, K3, y3, K4, z1, z2, z3, p1, p2, p3, p4, p5⟩ := plan s hs h0
  have HH := has_calls s[0].toNat
  obtain ⟨c, hc⟩ : ∃ c, s[0].toNat = c := ⟨_, rfl⟩
  rw [hc] at p1 p2 p3 p4 HH
  unfold hasV at HH
  obtain ⟨hB, hBe⟩ : ∃ x, x = hasB c := ⟨_, rfl⟩
  obtain ⟨h3, h3e⟩ : ∃ x, x = decide (c = 3) := ⟨_, rfl⟩
  obtain ⟨hN, hNe⟩ : ∃ x, x = hasN c := ⟨_, rfl⟩
  obtain ⟨h5, h5e⟩ : ∃ x, x = decide (c = 5) := ⟨_, rfl⟩
  rw [← hBe, ← h3e, ← hNe, ← h5e] at HH
  unfold Plan1 at p1
  rw [← hBe] at p1
  unfold Plan2 at p2
  rw [← h3e] at p2
  unfold Plan3 at p3
  rw [← hNe] at p3
  unfold Plan4 at p4
  rw [← h5e] at p4
  obtain ⟨t40, q40⟩ : ∃ t, t = (i1 && h3) := ⟨_, rfl⟩
  rw [← q40] at p2
  obtain ⟨t56, q56⟩ : ∃ t, t = (i2 && (hN && decide (8 ≤ y2.size))) := ⟨_, rfl⟩
  rw [← q56] at p3
  obtain ⟨t76, q76⟩ : ∃ t, t = (i2 && (h5 && decide (y3.size = 2))) := ⟨_, rfl⟩
  rw [← q76] at p4
  have Q40 := Lib.hid q40
  have Q56 := Lib.hid q56
  have Q76 := Lib.hid q76
  clear q40 q56 q76
  have e3 : c = 3 → h3 = true := fun e => by rw [h3e, decide_eq_true e]
  have e5 : c = 5 → h5 = true := fun e => by rw [h5e, decide_eq_true e]
  have P1 := Lib.hid p1
  have P2 := Lib.hid p2
  have P3 := Lib.hid p3
  have P4 := Lib.hid p4
  have P5 := Lib.hid p5
  have HHH := Lib.hid HH
  have E3 := Lib.hid e3
  have E5 := Lib.hid e5
  have N3 := Lib.hid h3e
  clear p1 p2 p3 p4 p5 HH e3 e5 hBe h3e hNe h5e
  obtain ⟨R, hR⟩ : ∃ R, s.extract 1 s.size = R := ⟨_, rfl⟩
  rw [hR] at P1
  obtain ⟨out, hout⟩ : ∃ out, decR s.data.toList = out := ⟨_, rfl⟩
  rw [hout]
  unfold Plan5 at P5
  rw [hout] at P5
  clear hout
  have S0 : St w (K0 c) ((w.alloc (.cells zeroK.cells 24)).alloc (.cells (K0 c).cells 24)) := by
    refine ⟨KeyAt.below (w := w.alloc (.cells zeroK.cells 24)) (MapKept.heap_alloc w _).1 (below_one _ _), ?_, (hv.below (below_one w (.cells zeroK.cells 24))).below (below_one _ (.cells (K0 c).cells 24)), below_alloc (below_one w (.cells zeroK.cells 24)) (.cells (K0 c).cells 24)⟩
    have := (MapKept.heap_alloc (w.alloc (.cells zeroK.cells 24)) (.cells (K0 c).cells 24)).1
    rw [show (w.alloc (.cells zeroK.cells 24)).heap.size = w.heap.size + 1 by simp] at this
    exact this
  go_enter Tryd.func14, Tryd.ntmps14
  go_wp2_with fail
  refine (HHH.out _).mono ?_
  rintro e w1 ⟨rfl, hw1⟩
  subst hw1
  go_upto_if 29 with fail
  go_cut [9, 10] from 13 (fun s9 s10 wx => s9 = .string y1 ∧ s10 = .bool i1 ∧ St w K1 wx)
  case first =>
    rcases P1.out with ⟨he, zb, hK, HC⟩ | ⟨he, hK, hy, hi⟩
    · subst he hK
      obtain ⟨hA0, hA1, hv1, b1⟩ := S0
      clear P1 P2 P3 P4 P5 HHH E3 E5 N3
      go_wp2_with fail
      refine (HC.out _ hv1).mono ?_
      rintro e w2 ⟨rfl, hb2⟩
      have S1 : St w (K0 c) w2 := St.below ⟨hA0, hA1, hv1, b1⟩ hb2
      obtain ⟨p0, p1, p2, p3, p4⟩ := S1.2.1.c
      have f1 := S1.2.1.f 1
      go_wp2
      go_meet
      case rel => exact ⟨rfl, rfl, S1.set1 zb⟩
    · subst he hK hy hi
      clear P1 P2 P3 P4 P5 HHH E3 E5 N3
      go_wp2_with fail
      go_meet
      case rel => exact ⟨rfl, rfl, S0⟩
  case rest =>
    obtain ⟨rfl, rfl, S1⟩ := hcut
    clear hc
    clear S0 P1 HHH hR h0
    go_upto_region 8 with fail
    go_cut [40] from 13 (fun s40 wx => s40 = .bool t40 ∧ wx = wc)
    case first =>
      clear P2 P3 P4 P5 E3 E5 N3
      cases i1
      all_goals
        go_wp2_with fail
        go_meet
        case rel => exact ⟨by rw [Q40.out]; rfl, rfl⟩
    case rest =>
      obtain ⟨rfl, rfl⟩ := hcut
      go_upto_if 40 with fail
      go_cut [9, 10] from 13 (fun s9 s10 wx => s9 = .string y2 ∧ s10 = .bool i2 ∧ St w K2 wx)
      case first =>
        rcases P2.out with ⟨hi, hc3, zn, hK, HU⟩ | ⟨he, hK, hy, hi⟩
        · have ht := E3.out hc3
          have q := Q40.out
          rw [hi, ht] at q
          simp only [Bool.and_self] at q
          subst q hi hK ht
          clear Q40 P2 P3 P4 P5 E3 E5 N3 hc3
          go_wp2_with fail
          refine (HU.out _).mono ?_
          rintro e w2 ⟨rfl, hb2⟩
          have S2 := S1.below hb2
          obtain ⟨p0, p1, p2, p3, p4⟩ := S2.2.1.c
          have f1 := S2.2.1.f 2
          go_wp2
          go_meet
          case rel => exact ⟨rfl, rfl, S2.set2 zn⟩
        · subst he hK hy hi
          clear Q40 P2 P3 P4 P5 E3 E5 N3
          go_wp2_with fail
          go_meet
          case rel => exact ⟨rfl, rfl, S1⟩
      case rest =>
        obtain ⟨rfl, rfl, S2⟩ := hcut
        clear S1 P2
        go_upto_region 10 with fail
        go_cut [56] from 13 (fun s56 wx => s56 = .bool t56 ∧ wx = wc)
        case first =>
          clear P3 P4 P5 E3 E5 N3
          by_cases h8 : 8 ≤ y2.size
          · have h8' : (8 : Int) ≤ (y2.size : Int) := by omega
            cases i2 <;> cases hN
            all_goals
              go_wp2_with fail
              go_meet
              case rel => exact ⟨by rw [Q56.out]; simp [h8], rfl⟩
          · have h8' : ¬ (8 : Int) ≤ (y2.size : Int) := by omega
            cases i2 <;> cases hN
            all_goals
              go_wp2_with fail
              go_meet
              case rel => exact ⟨by rw [Q56.out]; simp [h8], rfl⟩
        case rest =>
          obtain ⟨rfl, rfl⟩ := hcut
          go_upto_if 56 with fail
          go_cut [9] from 13 (fun s9 wx => s9 = .string y3 ∧ St w K3 wx)
          case first =>
            rcases P3.out with ⟨⟨hi, hn, h8⟩, N0, hN0, hK, hy, HNum⟩ | ⟨he, hK, hy⟩
            · have q := Q56.out
              rw [hi, hn, decide_eq_true h8] at q
              simp only [Bool.and_self] at q
              subst q hi hn
              have HY := Lib.hid hy
              have h8i : (8 : Int) ≤ (y2.size : Int) := by omega
              have hd1 : decide (y2.size < 8) = false := by rw [decide_eq_false_iff_not]; omega
              obtain ⟨p0, p1, p2, p3, p4⟩ := S2.2.1.c
              have f3 := S2.2.1.f 3
              have SA := S2.set3 N0
              have n3 := N3.out
              clear Q56 P3 P4 P5 E3 E5 N3 hy
              cases h3
              · have hK' : K3 = { K2 with n := N0 } := by rw [hK, if_neg (by intro e; rw [decide_eq_true e] at n3; cases n3)]
                subst hK'
                clear hK n3
                go_wp2_with fail
                go_region_held3 (fun _ => True) (first | trivial) (first | (go_at_call 40; refine (HNum.out _).mono ?_; rintro e wN ⟨rfl, hwN⟩; subst hwN))
                all_goals
                  go_wp2_with fail
                  go_meet
                  case rel => exact ⟨by rw [HY.out], SA.drew⟩
              · have hx := comp_u64 N0 hN0
                obtain ⟨N1, hN1⟩ : ∃ N1, N1 = top - N0 := ⟨_, rfl⟩
                have hK' : K3 = { K2 with n := N1 } := by rw [hK, if_pos (by simpa using n3.symm), hN1]
                subst hK'
                rw [← hN1] at hx
                have SB := SA.set3 N1
                obtain ⟨r0, r1, r2, r3, r4⟩ := SA.2.1.c
                have f3b := SA.2.1.f 3
                clear hK n3 hN1
                go_wp2_with fail
                go_region_held3 (fun _ => True) (first | trivial) (first | (go_at_call 40; refine (HNum.out _).mono ?_; rintro e wN ⟨rfl, hwN⟩; subst hwN))
                all_goals
                  go_wp2_with fail
                  go_meet
                  case rel => exact ⟨by rw [HY.out], SB.drew⟩
            · subst he hK hy
              clear Q56 P3 P4 P5 E3 E5 N3
              go_wp2_with fail
              go_meet
              case rel => exact ⟨rfl, S2⟩
          case rest =>
            obtain ⟨rfl, S3⟩ := hcut
            clear S2 P3
            go_upto_region 14 with fail
            go_cut [76] from 13 (fun s76 wx => s76 = .bool t76 ∧ wx = wc)
            case first =>
              clear P4 P5 E3 E5 N3
              by_cases h2 : y3.size = 2
              · have h2' : ((y3.size : Int) == 2) = true := by rw [beq_iff_eq]; omega
                cases i2 <;> cases h5
                all_goals
                  go_wp2_with fail
                  go_meet
                  case rel => exact ⟨by rw [Q76.out]; simp [h2], rfl⟩
              · have h2' : ((y3.size : Int) == 2) = false := by rw [beq_eq_false_iff_ne]; omega
                cases i2 <;> cases h5
                all_goals
                  go_wp2_with fail
                  go_meet
                  case rel => exact ⟨by rw [Q76.out]; simp [h2], rfl⟩
            case rest =>
              obtain ⟨rfl, rfl⟩ := hcut
              go_upto_if 76 with fail
              go_cut [] from 13 (fun wx => St w K4 wx)
              case first =>
                rcases P4.out with ⟨⟨hi, hc5, h2⟩, N0, hN0, hK, HNum⟩ | ⟨he, hK⟩
                · have ht := E5.out hc5
                  have q := Q76.out
                  rw [hi, ht, decide_eq_true h2] at q
                  simp only [Bool.and_self] at q
                  subst q hi hK ht
                  have h2t : decide (y3.size = 2) = true := decide_eq_true h2
                  have hw0 : IntKind.i64.wrap (N0 : Int) = (N0 : Int) := IntWalk.i64_in _ (by omega)
                  obtain ⟨p0, p1, p2, p3, p4⟩ := S3.2.1.c
                  have f4 := S3.2.1.f 4
                  have S4 := S3.set4 (N0 : Int)
                  clear Q76 P4 P5 E3 E5 N3 hc5 h2
                  go_wp2_with fail
                  refine (HNum.out _).mono ?_
                  rintro e wN ⟨rfl, hwN⟩
                  subst hwN
                  go_wp2_with fail
                  go_meet
                  case rel => exact S4
                · subst he hK
                  clear Q76 P4 P5 E3 E5 N3
                  go_wp2_with fail
                  go_meet
                  case rel => exact S3
              case rest =>
                have S4 : St w K4 wc := hcut
                clear hcut S3 P4
                obtain ⟨T, E, HE, hcase⟩ := P5.out
                obtain ⟨k, kb, kn, kk, kp⟩ := K4
                unfold Key.val at HE
                have HC := Lib.hid hcase
                obtain ⟨p0, p1, p2, p3, p4⟩ := S4.2.1.c
                simp only at p0 p1 p2 p3 p4 HE
                clear P5 E3 E5 N3 hcase
                go_wp2_with fail
                refine (HE.out _ S4.2.2.1).mono ?_
                rintro e w5 ⟨rfl, hb5⟩
                have S5 := S4.below hb5
                clear p0 p1 p2 p3 p4 S4 hb5 HE
                obtain ⟨p0, p1, p2, p3, p4⟩ := S5.2.1.c
                obtain ⟨z0, z1, z2, z3, z4⟩ := S5.1.c
                have g0 := S5.1.f 0
                have g1 := S5.1.f 1
                have g2 := S5.1.f 2
                have g3 := S5.1.f 3
                have g4 := S5.1.f 4
                simp only at p0 p1 p2 p3 p4
                have b4 := S5.2.2.2
                rcases HC.out with ⟨rfl, rfl⟩ | ⟨rfl, hE0, rfl⟩ | ⟨rfl, rfl, hTs, rfl⟩ | ⟨rfl, rfl, hTs, rfl⟩
                iterate 3
                  · try (have hE1 : ¬ E = 0 := by intro e; rw [e] at hE0; exact absurd hE0 (by decide))
                    try clear hE0
                    have hG := S5.1.setAll zeroK
                    clear HC
                    go_wp2
                    refine bodyPost_ret (results_key rfl _ _ w.heap.size 24 (Key.cells zeroK) (0, 0) _ rfl hG Tryd.underlying24 rfl (by kernel_rfl)) rfl ?_
                    exact ⟨rfl, below_key (below_key (below_key (below_key (below_key b4 ⟨w.heap.size, 0, none⟩ (Nat.le_refl _) _) ⟨w.heap.size, 1, none⟩ (Nat.le_refl _) _) ⟨w.heap.size, 2, none⟩ (Nat.le_refl _) _) ⟨w.heap.size, 3, none⟩ (Nat.le_refl _) _) ⟨w.heap.size, 4, none⟩ (Nat.le_refl _) _⟩
                · have hG := S5.1.setAll ⟨k, kb, kn, kk, kp⟩
                  clear HC
                  go_wp2
                  refine bodyPost_ret (results_key rfl _ _ w.heap.size 24 (Key.cells ⟨k, kb, kn, kk, kp⟩) (0, 0) _ rfl hG Tryd.underlying24 rfl (by kernel_rfl)) rfl ?_
                  exact ⟨rfl, below_key (below_key (below_key (below_key (below_key b4 ⟨w.heap.size, 0, none⟩ (Nat.le_refl _) _) ⟨w.heap.size, 1, none⟩ (Nat.le_refl _) _) ⟨w.heap.size, 2, none⟩ (Nat.le_refl _) _) ⟨w.heap.size, 3, none⟩ (Nat.le_refl _) _) ⟨w.heap.size, 4, none⟩ (Nat.le_refl _) _⟩

end Go.Proofs.YtaeiahkomdpcoaaDoor.Name
