/- The walk of the document's answer for what keys begin with. -/
import Derived.Test.YtaeiahkomdpcoaaDoorNRefE
namespace Go.Proofs.YtaeiahkomdpcoaaDoor.Name
open Go.RowKit Go.Shelf

def prefB (k : Key) (d : Int) : Value := match prefL k d with
  | some l => .tuple #[.string (bs l), .bool true]
  | none => .tuple #[.string ⟨#[]⟩, .bool false]
theorem prefL_in (k : Key) (d : Int) (hd1 : 1 ≤ d) (hd4 : d ≤ 4) (h1 : 1 ≤ k.kind) (h6 : k.kind ≤ 6) (hB xb k3 k5 l2 en : Bool) (e1 : hasB k.kind = hB) (e2 : bucketL k.bucket.data.toList = xb) (e3 : decide (k.kind = 3) = k3) (e5 : decide (k.kind = 5) = k5) (el : decide (k.name.size ≤ 200) = l2) (en' : decide (k.name = ⟨#[]⟩) = en) :
    prefL k d = if d = 1 then some [UInt8.ofNat k.kind] else if (!hB || !xb) = true then none else if d = 2 then some (UInt8.ofNat k.kind :: (k.bucket.data.toList ++ [0])) else if (decide (d = 4) && k5) = true then some (UInt8.ofNat k.kind :: (k.bucket.data.toList ++ [0]) ++ be 8 k.n)
      else if (!k3 || (!l2 || (decide (d = 4) && en))) = true then none else if d = 4 then some (UInt8.ofNat k.kind :: (k.bucket.data.toList ++ [0]) ++ esc k.name.data.toList ++ [0, 1]) else some (UInt8.ofNat k.kind :: (k.bucket.data.toList ++ [0]) ++ esc k.name.data.toList) := by
  unfold prefL
  rw [if_neg (by omega)]
  have c2 : (hasB k.kind = false ∨ bucketL k.bucket.data.toList = false) ↔ (!hB || !xb) = true := by rw [e1, e2]; simp
  have c4 : (d = 4 ∧ k.kind = 5) ↔ (decide (d = 4) && k5) = true := by rw [← e5]; simp
  have c5 : (k.kind ≠ 3 ∨ 200 < k.name.size ∨ (d = 4 ∧ k.name = ⟨#[]⟩)) ↔ (!k3 || (!l2 || (decide (d = 4) && en))) = true := by
    rw [← e3, ← el, ← en']
    simp
  simp only [c2, c4, c5]

set_option maxHeartbeats 3200000 in
set_option maxRecDepth 100000 in
theorem refPre_out (kd : Nat) (kb kn : ByteArray) (nn : Nat) (pp d : Int) (w : World) (ho : d < 1 ∨ 4 < d ∨ kd < 1 ∨ 6 < kd) : Calls Tryd.prog 17 #[(Key.mk kd kb kn nn pp).val, .int .i64 d] w fun e w' => e = .returned (.tuple #[.string ⟨#[]⟩, .bool false]) ∧ Below w.heap.size w w' := by
  unfold Key.val
  simp only
  by_cases h1 : d < 1
  · go_enter Tryd.func17, Tryd.ntmps17
    go_wp2
    go_ret2
    exact ⟨rfl, below_one _ _⟩
  by_cases h4 : 4 < d
  · go_enter Tryd.func17, Tryd.ntmps17
    go_wp2
    go_ret2
    exact ⟨rfl, below_one _ _⟩
  by_cases hk : (kd : Int) < 1
  · go_enter Tryd.func17, Tryd.ntmps17
    go_wp2
    go_ret2
    exact ⟨rfl, below_one _ _⟩
  have h6 : (6 : Int) < (kd : Int) := by omega
  go_enter Tryd.func17, Tryd.ntmps17
  go_wp2
  go_ret2
  exact ⟨rfl, below_one _ _⟩

set_option maxHeartbeats 6400000 in
set_option maxRecDepth 100000 in
theorem refPre_calls (k : Key) (d : Int) (w : World) (hf : k.fits) : Calls Tryd.prog 17 #[k.val, .int .i64 d] w fun e w' => e = .returned (prefB k d) ∧ Below w.heap.size w w' := by
  by_cases ho : d < 1 ∨ 4 < d ∨ k.kind < 1 ∨ 6 < k.kind
  · have : prefB k d = .tuple #[.string ⟨#[]⟩, .bool false] := by unfold prefB prefL; rw [if_pos ho]
    rw [this]
    obtain ⟨kd, kb, kn, nn, pp⟩ := k
    exact refPre_out kd kb kn nn pp d w ho
  have hP := prefL_in k d (by omega) (by omega) (by omega) (by omega) _ _ _ _ _ _ rfl rfl rfl rfl rfl rfl
  have hK := key_one w k
  have hb1 := below_one w (.cells k.cells 24)
  have hcv := conv_one (w.alloc (.cells k.cells 24)) (k.kind : Int) (UInt8.ofNat k.kind) (kind_byte k.kind hf.2.2.1) 5
  rw [show (w.alloc (.cells k.cells 24)).heap.size = w.heap.size + 1 by simp] at hcv
  have HNM := Lib.hid (fun W => refName_calls k.name W (by have := hf.2.1; omega))
  have HHB := fun W => refHasB_calls k.kind W
  have HBK := fun W => refBucket_calls k.bucket W (by have := hf.1; omega)
  have HE8 := Lib.hid (fun W => eight_calls k.n W)
  have hNz := esc_length k.name.data.toList
  rw [size_list] at hNz
  obtain ⟨kd, kb, kn, nn, pp⟩ := k
  obtain ⟨hb4, hn4, hkl, hnt⟩ := hf
  unfold Key.val
  simp only at hb4 hn4 hkl hnt ho hP hNz HNM HHB HBK HE8 ⊢
  have hne := empty_iff kn
  obtain ⟨out, qo⟩ : ∃ x, x = prefB ⟨kd, kb, kn, nn, pp⟩ d := ⟨_, rfl⟩
  rw [← qo]
  unfold prefB at qo
  rw [hP] at qo
  clear hP
  obtain ⟨hb, q1⟩ : ∃ x, x = hasB kd := ⟨_, rfl⟩
  obtain ⟨xb, q2⟩ : ∃ x, x = bucketL kb.data.toList := ⟨_, rfl⟩
  obtain ⟨k3, q3⟩ : ∃ x, x = decide (kd = 3) := ⟨_, rfl⟩
  obtain ⟨k5, q5⟩ : ∃ x, x = decide (kd = 5) := ⟨_, rfl⟩
  obtain ⟨l2, q8⟩ : ∃ x, x = decide (kn.size ≤ 200) := ⟨_, rfl⟩
  obtain ⟨en, q4⟩ : ∃ x, x = decide (kn = ⟨#[]⟩) := ⟨_, rfl⟩
  rw [← q1, ← q2, ← q3, ← q5, ← q8, ← q4] at qo
  simp only [← q1] at HHB
  simp only [← q2] at HBK
  rw [← q4] at hne
  have e3 : ((kd : Int) != 3) = !k3 := by rw [q3, Bool.eq_iff_iff, bne_iff_ne, Bool.not_eq_true', decide_eq_false_iff_not]; omega
  have e5 : ((kd : Int) == 5) = k5 := by rw [q5, Bool.eq_iff_iff, beq_iff_eq, decide_eq_true_iff]; omega
  have el : decide ((200 : Int) < (kn.size : Int)) = !l2 := by rw [q8, Bool.eq_iff_iff, decide_eq_true_iff, Bool.not_eq_true', decide_eq_false_iff_not]; omega
  obtain ⟨kc, qc⟩ : ∃ x, x = UInt8.ofNat kd := ⟨_, rfl⟩
  rw [← qc] at hcv qo
  have i1 : ¬ (kd : Int) < 1 := by omega
  have i2 : ¬ (6 : Int) < (kd : Int) := by omega
  have j1 : ¬ d < 1 := by omega
  have j2 : ¬ 4 < d := by omega
  clear q1 q2 q3 q5 q8 q4 qc hkl hnt
  -- the strings
  obtain ⟨S1, s1⟩ : ∃ x, x = bs [kc] := ⟨_, rfl⟩
  obtain ⟨NM, qN⟩ : ∃ x, x = bs (esc kn.data.toList) := ⟨_, rfl⟩
  obtain ⟨E8, q8⟩ : ∃ x, x = bs (be 8 nn) := ⟨_, rfl⟩
  have y1 : S1.size = 1 := by rw [s1]; rfl
  have yN : NM.size ≤ 8192 := by rw [qN, bs_size]; omega
  have y8 : E8.size = 8 := by rw [q8, bs_size, be_length]
  have u2 : bs (kc :: (kb.data.toList ++ [0])) = S1 ++ kb ++ ⟨#[0]⟩ := by
    rw [s1, show bs [kc] ++ kb = bs [kc] ++ bs kb.data.toList from rfl, show (⟨#[0]⟩ : ByteArray) = bs [0] from rfl, bs_append, bs_append]; rfl
  have u3 : bs (kc :: (kb.data.toList ++ [0]) ++ esc kn.data.toList) = S1 ++ kb ++ ⟨#[0]⟩ ++ NM := by rw [← u2, qN, bs_append]
  have u4 : bs (kc :: (kb.data.toList ++ [0]) ++ esc kn.data.toList ++ [0, 1]) = S1 ++ kb ++ ⟨#[0]⟩ ++ NM ++ ⟨#[0, 1]⟩ := by rw [← u3, show (⟨#[0, 1]⟩ : ByteArray) = bs [0, 1] from rfl, bs_append]
  have u5 : bs (kc :: (kb.data.toList ++ [0]) ++ be 8 nn) = S1 ++ kb ++ ⟨#[0]⟩ ++ E8 := by rw [← u2, q8, bs_append]
  rw [← s1] at hcv
  rw [← qN] at HNM
  rw [← q8] at HE8
  have z1 : ¬ 9223372036854775807 < S1.size + kb.size := by omega
  have z2 : ¬ 9223372036854775807 < (S1 ++ kb).size + (⟨#[0]⟩ : ByteArray).size := by rw [ByteArray.size_append]; show ¬ 9223372036854775807 < S1.size + kb.size + 1; omega
  have z3 : ¬ 9223372036854775807 < (S1 ++ kb ++ ⟨#[0]⟩).size + NM.size := by rw [ByteArray.size_append, ByteArray.size_append]; show ¬ 9223372036854775807 < S1.size + kb.size + 1 + NM.size; omega
  have z4 : ¬ 9223372036854775807 < (S1 ++ kb ++ ⟨#[0]⟩ ++ NM).size + (⟨#[0, 1]⟩ : ByteArray).size := by rw [ByteArray.size_append, ByteArray.size_append, ByteArray.size_append]; show ¬ 9223372036854775807 < S1.size + kb.size + 1 + NM.size + 2; omega
  have z5 : ¬ 9223372036854775807 < (S1 ++ kb ++ ⟨#[0]⟩).size + E8.size := by rw [ByteArray.size_append, ByteArray.size_append]; show ¬ 9223372036854775807 < S1.size + kb.size + 1 + E8.size; omega
  have QO := Lib.hid qo
  have U1 := Lib.hid s1
  have U2 := Lib.hid u2
  have U3 := Lib.hid u3
  have U4 := Lib.hid u4
  have U5 := Lib.hid u5
  have G1 := Lib.hid HHB
  have G2 := Lib.hid HBK
  have F3 := Lib.hid e3
  have F5 := Lib.hid e5
  have FL := Lib.hid el
  have FN := Lib.hid hne
  have Z := Lib.hid (And.intro z1 (And.intro z2 (And.intro z3 (And.intro z4 z5))))
  have hd : d = 1 ∨ d = 2 ∨ d = 3 ∨ d = 4 := by omega
  clear qo s1 u2 u3 u4 u5 HHB HBK e3 e5 el hne z1 z2 z3 z4 z5 y1 yN y8 qN q8 ho hNz
  go_enter Tryd.func17, Tryd.ntmps17
  go_upto_region 3 with fail
  go_cut [6] from 7 (fun s6 wx => s6 = .string S1 ∧ KeyAt wx w.heap.size ⟨kd, kb, kn, nn, pp⟩ ∧ Below w.heap.size w wx)
  case first =>
    unfold Key.cells at hcv
    simp only at hcv
    clear QO U1 U2 U3 U4 U5 G1 G2 F3 F5 FL FN HNM HE8 Z hd
    go_wp2_with fail
    go_meet
    case rel => exact ⟨rfl, hK.below (below_one _ _), below_alloc hb1 _⟩
  case rest =>
    obtain ⟨rfl, hA, hbw⟩ := hcut
    clear hK hb1 hcv j1 j2
    obtain ⟨p0, p1, p2, p3, p4⟩ := hA.c
    simp only at p0 p1 p2 p3 p4
    rcases hd with rfl | rfl | rfl | rfl
    · have HO : Hid (out = .tuple #[.string S1, .bool true]) := by
        show _ = _
        rw [QO.out]; rw [U1.out]; rfl
      obtain ⟨z1, z2, z3, z4, z5⟩ := Z.out
      clear QO U1 U2 U3 U4 U5 F3 F5 FL FN Z
      go_wp2_with fail
      go_ret2
      exact ⟨by rw [HO.out]; rfl, hbw⟩
    · cases hb
      case false =>
        have HO : Hid (out = .tuple #[.string ⟨#[]⟩, .bool false]) := by
          show _ = _
          rw [QO.out]; rfl
        obtain ⟨z1, z2, z3, z4, z5⟩ := Z.out
        clear QO U1 U2 U3 U4 U5 F3 F5 FL FN Z
        go_wp2_with fail
        refine (G1.out _).mono ?_
        rintro e wN ⟨rfl, hwN⟩
        subst hwN
        go_wp2_with fail
        go_ret2
        exact ⟨by rw [HO.out]; rfl, hbw⟩
      case true =>
        cases xb
        case false =>
          have HO : Hid (out = .tuple #[.string ⟨#[]⟩, .bool false]) := by
            show _ = _
            rw [QO.out]; rfl
          obtain ⟨z1, z2, z3, z4, z5⟩ := Z.out
          clear QO U1 U2 U3 U4 U5 F3 F5 FL FN Z
          go_wp2_with fail
          refine (G1.out _).mono ?_
          rintro e wN ⟨rfl, hwN⟩
          subst hwN
          go_wp2_with fail
          refine (G2.out _).mono ?_
          rintro e wN ⟨rfl, hwN⟩
          subst hwN
          go_wp2_with fail
          go_ret2
          exact ⟨by rw [HO.out]; rfl, hbw⟩
        case true =>
          have HO : Hid (out = .tuple #[.string (S1 ++ kb ++ ⟨#[0]⟩), .bool true]) := by
            show _ = _
            rw [QO.out]; rw [← U2.out]; rfl
          obtain ⟨z1, z2, z3, z4, z5⟩ := Z.out
          clear QO U1 U2 U3 U4 U5 F3 F5 FL FN Z
          go_wp2_with fail
          refine (G1.out _).mono ?_
          rintro e wN ⟨rfl, hwN⟩
          subst hwN
          go_wp2_with fail
          refine (G2.out _).mono ?_
          rintro e wN ⟨rfl, hwN⟩
          subst hwN
          go_wp2_with fail
          go_ret2
          exact ⟨by rw [HO.out]; rfl, hbw⟩
    · cases hb
      case false =>
        have HO : Hid (out = .tuple #[.string ⟨#[]⟩, .bool false]) := by
          show _ = _
          rw [QO.out]; rfl
        obtain ⟨z1, z2, z3, z4, z5⟩ := Z.out
        clear QO U1 U2 U3 U4 U5 F3 F5 FL FN Z
        go_wp2_with fail
        refine (G1.out _).mono ?_
        rintro e wN ⟨rfl, hwN⟩
        subst hwN
        go_wp2_with fail
        go_ret2
        exact ⟨by rw [HO.out]; rfl, hbw⟩
      case true =>
        cases xb
        case false =>
          have HO : Hid (out = .tuple #[.string ⟨#[]⟩, .bool false]) := by
            show _ = _
            rw [QO.out]; rfl
          obtain ⟨z1, z2, z3, z4, z5⟩ := Z.out
          clear QO U1 U2 U3 U4 U5 F3 F5 FL FN Z
          go_wp2_with fail
          refine (G1.out _).mono ?_
          rintro e wN ⟨rfl, hwN⟩
          subst hwN
          go_wp2_with fail
          refine (G2.out _).mono ?_
          rintro e wN ⟨rfl, hwN⟩
          subst hwN
          go_wp2_with fail
          go_ret2
          exact ⟨by rw [HO.out]; rfl, hbw⟩
        case true =>
          cases k3
          case false =>
            cases k5
            all_goals
              have HO : Hid (out = .tuple #[.string ⟨#[]⟩, .bool false]) := by
                show _ = _
                rw [QO.out]; rfl
              obtain ⟨z1, z2, z3, z4, z5⟩ := Z.out
              have f0 : ((kd : Int) != 3) = true := F3.out
              have f1 := F5.out
              clear QO U1 U2 U3 U4 U5 F3 F5 FL FN Z
              go_wp2_with fail
              refine (G1.out _).mono ?_
              rintro e wN ⟨rfl, hwN⟩
              subst hwN
              go_wp2_with fail
              refine (G2.out _).mono ?_
              rintro e wN ⟨rfl, hwN⟩
              subst hwN
              go_wp2_with fail
              go_ret2
              exact ⟨by rw [HO.out]; rfl, hbw⟩
          case true =>
            cases k5
            all_goals
              cases l2
              case false =>
                have HO : Hid (out = .tuple #[.string ⟨#[]⟩, .bool false]) := by
                  show _ = _
                  rw [QO.out]; rfl
                obtain ⟨z1, z2, z3, z4, z5⟩ := Z.out
                have f0 : ((kd : Int) != 3) = false := F3.out
                have f1 : (200 : Int) < (kn.size : Int) := of_decide_eq_true FL.out
                have f2 := F5.out
                clear QO U1 U2 U3 U4 U5 F3 F5 FL FN Z
                go_wp2_with fail
                refine (G1.out _).mono ?_
                rintro e wN ⟨rfl, hwN⟩
                subst hwN
                go_wp2_with fail
                refine (G2.out _).mono ?_
                rintro e wN ⟨rfl, hwN⟩
                subst hwN
                go_wp2_with fail
                go_ret2
                exact ⟨by rw [HO.out]; rfl, hbw⟩
              case true =>
                have HO : Hid (out = .tuple #[.string (S1 ++ kb ++ ⟨#[0]⟩ ++ NM), .bool true]) := by
                  show _ = _
                  rw [QO.out]; rw [← U3.out]; rfl
                obtain ⟨z1, z2, z3, z4, z5⟩ := Z.out
                have f0 : ((kd : Int) != 3) = false := F3.out
                have f1 : ¬ (200 : Int) < (kn.size : Int) := of_decide_eq_false FL.out
                have f2 := F5.out
                clear QO U1 U2 U3 U4 U5 F3 F5 FL FN Z
                go_wp2_with fail
                refine (G1.out _).mono ?_
                rintro e wN ⟨rfl, hwN⟩
                subst hwN
                go_wp2_with fail
                refine (G2.out _).mono ?_
                rintro e wN ⟨rfl, hwN⟩
                subst hwN
                go_wp2_with fail
                refine (HNM.out _).mono ?_
                rintro e wN ⟨rfl, hwN⟩
                subst hwN
                go_wp2_with fail
                go_ret2
                exact ⟨by rw [HO.out]; rfl, hbw⟩
    · cases hb
      case false =>
        have HO : Hid (out = .tuple #[.string ⟨#[]⟩, .bool false]) := by
          show _ = _
          rw [QO.out]; rfl
        obtain ⟨z1, z2, z3, z4, z5⟩ := Z.out
        clear QO U1 U2 U3 U4 U5 F3 F5 FL FN Z
        go_wp2_with fail
        refine (G1.out _).mono ?_
        rintro e wN ⟨rfl, hwN⟩
        subst hwN
        go_wp2_with fail
        go_ret2
        exact ⟨by rw [HO.out]; rfl, hbw⟩
      case true =>
        cases xb
        case false =>
          have HO : Hid (out = .tuple #[.string ⟨#[]⟩, .bool false]) := by
            show _ = _
            rw [QO.out]; rfl
          obtain ⟨z1, z2, z3, z4, z5⟩ := Z.out
          clear QO U1 U2 U3 U4 U5 F3 F5 FL FN Z
          go_wp2_with fail
          refine (G1.out _).mono ?_
          rintro e wN ⟨rfl, hwN⟩
          subst hwN
          go_wp2_with fail
          refine (G2.out _).mono ?_
          rintro e wN ⟨rfl, hwN⟩
          subst hwN
          go_wp2_with fail
          go_ret2
          exact ⟨by rw [HO.out]; rfl, hbw⟩
        case true =>
          cases k5
          case false =>
            cases k3
            case false =>
              have HO : Hid (out = .tuple #[.string ⟨#[]⟩, .bool false]) := by
                show _ = _
                rw [QO.out]; rfl
              obtain ⟨z1, z2, z3, z4, z5⟩ := Z.out
              have f0 : ((kd : Int) != 3) = true := F3.out
              have f1 := F5.out
              clear QO U1 U2 U3 U4 U5 F3 F5 FL FN Z
              go_wp2_with fail
              refine (G1.out _).mono ?_
              rintro e wN ⟨rfl, hwN⟩
              subst hwN
              go_wp2_with fail
              refine (G2.out _).mono ?_
              rintro e wN ⟨rfl, hwN⟩
              subst hwN
              go_wp2_with fail
              go_ret2
              exact ⟨by rw [HO.out]; rfl, hbw⟩
            case true =>
              cases l2
              case false =>
                have HO : Hid (out = .tuple #[.string ⟨#[]⟩, .bool false]) := by
                  show _ = _
                  rw [QO.out]; rfl
                obtain ⟨z1, z2, z3, z4, z5⟩ := Z.out
                have f0 : ((kd : Int) != 3) = false := F3.out
                have f1 : (200 : Int) < (kn.size : Int) := of_decide_eq_true FL.out
                have f2 := F5.out
                clear QO U1 U2 U3 U4 U5 F3 F5 FL FN Z
                go_wp2_with fail
                refine (G1.out _).mono ?_
                rintro e wN ⟨rfl, hwN⟩
                subst hwN
                go_wp2_with fail
                refine (G2.out _).mono ?_
                rintro e wN ⟨rfl, hwN⟩
                subst hwN
                go_wp2_with fail
                go_ret2
                exact ⟨by rw [HO.out]; rfl, hbw⟩
              case true =>
                cases en
                case false =>
                  have HO : Hid (out = .tuple #[.string (S1 ++ kb ++ ⟨#[0]⟩ ++ NM ++ ⟨#[0, 1]⟩), .bool true]) := by
                    show _ = _
                    rw [QO.out]; rw [← U4.out]; rfl
                  obtain ⟨z1, z2, z3, z4, z5⟩ := Z.out
                  have f0 : ((kd : Int) != 3) = false := F3.out
                  have f1 : ¬ (200 : Int) < (kn.size : Int) := of_decide_eq_false FL.out
                  have f2 := F5.out
                  have f3 := FN.out
                  clear QO U1 U2 U3 U4 U5 F3 F5 FL FN Z
                  go_wp2_with fail
                  refine (G1.out _).mono ?_
                  rintro e wN ⟨rfl, hwN⟩
                  subst hwN
                  go_wp2_with fail
                  refine (G2.out _).mono ?_
                  rintro e wN ⟨rfl, hwN⟩
                  subst hwN
                  go_wp2_with fail
                  refine (HNM.out _).mono ?_
                  rintro e wN ⟨rfl, hwN⟩
                  subst hwN
                  go_wp2_with fail
                  go_ret2
                  exact ⟨by rw [HO.out]; rfl, hbw⟩
                case true =>
                  have HO : Hid (out = .tuple #[.string ⟨#[]⟩, .bool false]) := by
                    show _ = _
                    rw [QO.out]; rfl
                  obtain ⟨z1, z2, z3, z4, z5⟩ := Z.out
                  have f0 : ((kd : Int) != 3) = false := F3.out
                  have f1 : ¬ (200 : Int) < (kn.size : Int) := of_decide_eq_false FL.out
                  have f2 := F5.out
                  have f3 := FN.out
                  clear QO U1 U2 U3 U4 U5 F3 F5 FL FN Z
                  go_wp2_with fail
                  refine (G1.out _).mono ?_
                  rintro e wN ⟨rfl, hwN⟩
                  subst hwN
                  go_wp2_with fail
                  refine (G2.out _).mono ?_
                  rintro e wN ⟨rfl, hwN⟩
                  subst hwN
                  go_wp2_with fail
                  go_ret2
                  exact ⟨by rw [HO.out]; rfl, hbw⟩
          case true =>
            have HO : Hid (out = .tuple #[.string (S1 ++ kb ++ ⟨#[0]⟩ ++ E8), .bool true]) := by
              show _ = _
              rw [QO.out]; rw [← U5.out]; rfl
            obtain ⟨z1, z2, z3, z4, z5⟩ := Z.out
            have f0 := F5.out
            clear QO U1 U2 U3 U4 U5 F3 F5 FL FN Z
            go_wp2_with fail
            refine (G1.out _).mono ?_
            rintro e wN ⟨rfl, hwN⟩
            subst hwN
            go_wp2_with fail
            refine (G2.out _).mono ?_
            rintro e wN ⟨rfl, hwN⟩
            subst hwN
            go_wp2_with fail
            refine (HE8.out _).mono ?_
            rintro e wN ⟨rfl, hb9⟩
            have hbw := below_of hbw hb9
            go_wp2_with fail
            go_ret2
            exact ⟨by rw [HO.out]; rfl, hbw⟩

end Go.Proofs.YtaeiahkomdpcoaaDoor.Name
