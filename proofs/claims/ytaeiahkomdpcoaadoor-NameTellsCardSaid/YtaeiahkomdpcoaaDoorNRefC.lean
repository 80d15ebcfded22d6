/- The walks of the document's answers for names: Compare, Name, number. -/
import Derived.Test.YtaeiahkomdpcoaaDoorNRefB
namespace Go.Proofs.YtaeiahkomdpcoaaDoor.Name
open Go.RowKit Go.Shelf

theorem orZ_assoc (a b c : Int) : orZ (orZ a b) c = orZ a (orZ b c) := by
  unfold orZ
  by_cases h : a = 0
  · subst h; simp
  · rw [if_neg h, if_neg h, if_neg h]
theorem cmpK_ref (a b : Key) : cmpK a b = orZ (cmpN a.kind b.kind) (orZ (orZ (orZ (orZ (cmpL a.bucket.data.toList b.bucket.data.toList) (cmpL a.name.data.toList b.name.data.toList)) (if a.kind = 3 then cmpZ (b.n : Int) (a.n : Int) else 0)) (cmpZ (a.n : Int) (b.n : Int))) (cmpZ a.part b.part)) := by
  unfold cmpK
  rw [orZ_assoc, orZ_assoc, orZ_assoc]
  congr 3
  rw [cmpN_cast, cmpN_cast, cmpN_neg a.n b.n]
  split
  · rw [← orZ_assoc]
    congr 1
    unfold orZ
    split <;> omega
  · exact (zero_orZ _).symm

set_option maxHeartbeats 3200000 in
set_option maxRecDepth 100000 in
theorem refCmp_calls (a b : Key) (w : World) (ha : a.bucket.size ≤ 4096 ∧ a.name.size ≤ 4096) (hb : b.bucket.size ≤ 4096 ∧ b.name.size ≤ 4096) (hak : a.kind < 256) (hbk : b.kind < 256) : Calls Tryd.prog 24 #[a.val, b.val] w fun e w' => e = .returned (.int .i64 (cmpK a b)) ∧ Below w.heap.size w w' := by
  rw [cmpK_ref]
  have hK0 : KeyAt ((w.alloc (.cells a.cells 24)).alloc (.cells b.cells 24)) w.heap.size a := KeyAt.below (w := w.alloc (.cells a.cells 24)) (key_one w a) (below_one _ _)
  have hK1 : KeyAt ((w.alloc (.cells a.cells 24)).alloc (.cells b.cells 24)) (w.heap.size + 1) b := by
    have := key_one (w.alloc (.cells a.cells 24)) b
    rw [show (w.alloc (.cells a.cells 24)).heap.size = w.heap.size + 1 by simp] at this
    exact this
  have b1 := below_alloc (below_one w (.cells a.cells 24)) (.cells b.cells 24)
  have T1 := Lib.hid (fun W => texts_calls a.bucket b.bucket W (by omega) (by omega))
  have T2 := Lib.hid (fun W => texts_calls a.name b.name W (by omega) (by omega))
  obtain ⟨ak, ab, an, ann, ap⟩ := a
  obtain ⟨bk, bb, bn, bnn, bp⟩ := b
  unfold Key.val
  simp only at hak hbk T1 T2 ⊢
  by_cases hk : ak = bk
  case neg =>
    have h0 : cmpN ak bk ≠ 0 := fun h => hk ((cmpN_zero _ _).1 h)
    rw [orZ, if_neg h0, ← cmpN_cast]
    have wa : IntKind.u64.wrap (ak : Int) = (ak : Int) := IntWalk.u64_in _ (by omega)
    have wb : IntKind.u64.wrap (bk : Int) = (bk : Int) := IntWalk.u64_in _ (by omega)
    have hne : ((ak : Int) != (bk : Int)) = true := by rw [bne_iff_ne]; omega
    clear hK0 hK1 T1 T2 h0 hk
    go_enter Tryd.func24, Tryd.ntmps24
    go_wp2_with fail
    refine (numbers_calls _ _ _).mono ?_
    rintro e w' ⟨rfl, hw⟩
    subst hw
    go_wp2
    go_ret
    exact ⟨rfl, b1⟩
  subst hk
  obtain ⟨k3, qk⟩ : ∃ x, x = decide (ak = 3) := ⟨_, rfl⟩
  have e3 : ((ak : Int) == 3) = k3 := by rw [qk, Bool.eq_iff_iff, beq_iff_eq, decide_eq_true_iff]; omega
  have ei : (if ak = 3 then cmpZ (bnn : Int) (ann : Int) else 0) = (if k3 = true then cmpZ (bnn : Int) (ann : Int) else 0) := by rw [qk]; simp
  rw [ei]
  clear ei
  rw [show cmpN ak ak = 0 from (cmpN_zero _ _).2 rfl, zero_orZ]
  obtain ⟨c1, q1⟩ : ∃ c, c = cmpL ab.data.toList bb.data.toList := ⟨_, rfl⟩
  obtain ⟨c2, q2⟩ : ∃ c, c = cmpL an.data.toList bn.data.toList := ⟨_, rfl⟩
  obtain ⟨c3, q3⟩ : ∃ c, c = (if k3 = true then cmpZ (bnn : Int) (ann : Int) else 0) := ⟨_, rfl⟩
  obtain ⟨c4, q4⟩ : ∃ c, c = cmpZ (ann : Int) (bnn : Int) := ⟨_, rfl⟩
  obtain ⟨c5, q5⟩ : ∃ c, c = cmpZ ap bp := ⟨_, rfl⟩
  rw [← q1] at T1
  rw [← q2] at T2
  rw [← q1, ← q2, ← q3, ← q4, ← q5]
  have T4 : Hid (∀ W, Calls Tryd.prog 53 #[.int .u64 (ann : Int), .int .u64 (bnn : Int)] W fun e w' => e = .returned (.int .i64 c4) ∧ w' = W) := by
    rw [q4]; exact fun W => numbers_calls _ _ W
  have E3 := Lib.hid e3
  have Q3 := Lib.hid q3
  have Q5 := Lib.hid q5
  clear q1 q2 q3 q4 q5 ha hb hak hbk e3 qk
  go_enter Tryd.func24, Tryd.ntmps24
  go_wp2_with fail
  refine (T1.out _).mono ?_
  rintro e w1 ⟨rfl, hb1⟩
  have hA0 := hK0.below hb1
  have hA1 := hK1.below hb1
  have bw := below_of b1 hb1
  clear hK0 hK1 b1 hb1 T1
  go_upto_if 24 with fail
  go_cut [5] from 6 (fun s5 wx => s5 = .int .i64 (orZ c1 c2) ∧ KeyAt wx w.heap.size ⟨ak, ab, an, ann, ap⟩ ∧ KeyAt wx (w.heap.size + 1) ⟨ak, bb, bn, bnn, bp⟩ ∧ Below w.heap.size w wx)
  case first =>
    obtain ⟨p0, p1, p2, p3, p4⟩ := hA0.c
    obtain ⟨r0, r1, r2, r3, r4⟩ := hA1.c
    clear E3 T4
    by_cases h1 : c1 = 0
    · subst h1
      go_wp2_with fail
      refine (T2.out _).mono ?_
      rintro e w2 ⟨rfl, hb2⟩
      go_wp2_with fail
      go_meet
      case rel => exact ⟨rfl, hA0.below hb2, hA1.below hb2, below_of bw hb2⟩
    · have hx : (c1 == 0) = false := by rw [beq_eq_false_iff_ne]; exact h1
      go_wp2_with fail
      go_meet
      case rel => exact ⟨by rw [orZ, if_neg h1], hA0, hA1, bw⟩
  case rest =>
    obtain ⟨rfl, hB0, hB1, bw2⟩ := hcut
    clear hA0 hA1 bw T2
    obtain ⟨d1, qd1⟩ : ∃ d, d = orZ c1 c2 := ⟨_, rfl⟩
    rw [← qd1]
    have QD1 := Lib.hid qd1
    clear qd1
    obtain ⟨p0, p1, p2, p3, p4⟩ := hB0.c
    obtain ⟨r0, r1, r2, r3, r4⟩ := hB1.c
    go_upto_region 6 with fail
    go_cut [36] from 6 (fun s36 wx => s36 = .bool (decide (d1 = 0) && k3) ∧ wx = wc)
    case first =>
      have e3 := E3.out
      clear E3 T4
      by_cases h1 : d1 = 0
      · subst h1
        go_wp2_with fail
        go_meet
        case rel => exact ⟨by simp, rfl⟩
      · have hx : (d1 == 0) = false := by rw [beq_eq_false_iff_ne]; exact h1
        go_wp2_with fail
        go_meet
        case rel => exact ⟨by simp [h1], rfl⟩
    case rest =>
      obtain ⟨rfl, rfl⟩ := hcut
      go_upto_if 36 with fail
      go_cut [5] from 6 (fun s5 wx => s5 = .int .i64 (orZ d1 c3) ∧ wx = wc)
      case first =>
        clear E3 T4
        have q3 := Q3.out
        by_cases h1 : d1 = 0
        · subst h1
          cases k3
          case true =>
            rw [if_pos rfl] at q3
            go_wp2_with fail
            refine (numbers_calls _ _ _).mono ?_
            rintro e w' ⟨rfl, hw⟩
            subst hw
            go_wp2_with fail
            go_meet
            case rel => exact ⟨by rw [zero_orZ, q3], rfl⟩
          case false =>
            rw [if_neg (by decide)] at q3
            go_wp2_with fail
            go_meet
            case rel => exact ⟨by rw [q3]; rfl, rfl⟩
        · have hx : decide (d1 = 0) = false := decide_eq_false h1
          go_wp2_with fail
          go_meet
          case rel => exact ⟨by rw [orZ, if_neg h1], rfl⟩
      case rest =>
        obtain ⟨rfl, rfl⟩ := hcut
        obtain ⟨d2, qd2⟩ : ∃ d, d = orZ d1 c3 := ⟨_, rfl⟩
        rw [← qd2]
        have QD2 := Lib.hid qd2
        clear qd2 E3 Q3
        go_upto_if 43 with fail
        go_cut [5] from 6 (fun s5 wx => s5 = .int .i64 (orZ d2 c4) ∧ wx = wc)
        case first =>
          by_cases h1 : d2 = 0
          · subst h1
            go_wp2_with fail
            refine (T4.out _).mono ?_
            rintro e w' ⟨rfl, hw⟩
            subst hw
            go_wp2_with fail
            go_meet
            case rel => exact ⟨rfl, rfl⟩
          · have hx : (d2 == 0) = false := by rw [beq_eq_false_iff_ne]; exact h1
            go_wp2_with fail
            go_meet
            case rel => exact ⟨by rw [orZ, if_neg h1], rfl⟩
        case rest =>
          obtain ⟨rfl, rfl⟩ := hcut
          obtain ⟨d3, qd3⟩ : ∃ d, d = orZ d2 c4 := ⟨_, rfl⟩
          rw [← qd3]
          have QD3 := Lib.hid qd3
          clear qd3 T4
          have q5 := Q5.out
          by_cases h1 : d3 = 0
          · subst h1
            rcases Int.lt_trichotomy ap bp with h | h | h
            · rw [cmpZ_lt h] at q5
              have i1 : (ap != bp) = true := by rw [bne_iff_ne]; omega
              subst q5
              clear Q5
              go_wp2_with fail
              go_ret
              exact ⟨by rw [← QD1.out, ← QD2.out, ← QD3.out]; rfl, bw2⟩
            · subst h
              rw [cmpZ_eq] at q5
              subst q5
              clear Q5
              go_wp2_with fail
              go_ret
              exact ⟨by rw [← QD1.out, ← QD2.out, ← QD3.out]; rfl, bw2⟩
            · rw [cmpZ_gt h] at q5
              have i1 : (ap != bp) = true := by rw [bne_iff_ne]; omega
              have i2 : ¬ ap < bp := by omega
              subst q5
              clear Q5
              go_wp2_with fail
              go_ret
              exact ⟨by rw [← QD1.out, ← QD2.out, ← QD3.out]; rfl, bw2⟩
          · have hx : (d3 == 0) = false := by rw [beq_eq_false_iff_ne]; exact h1
            clear Q5 q5
            go_wp2_with fail
            go_ret
            exact ⟨by rw [← QD1.out, ← QD2.out, ← QD3.out, orZ, if_neg h1]; rfl, bw2⟩

theorem str_one (s : ByteArray) (k : Nat) (h : k < s.size) : s.extract k (k + 1) = bs [s[k]] := by
  apply ByteArray.ext
  apply Array.toList_inj.1
  rw [Lib.extract_data]
  show (s.data.toList.drop k).take (k + 1 - k) = [s[k]]
  have hl : k < s.data.toList.length := by rw [size_list]; exact h
  rw [show k + 1 - k = 1 by omega, List.drop_eq_getElem_cons hl]
  rfl
theorem esc_app : ∀ a b : Bs, esc (a ++ b) = esc a ++ esc b
  | [], _ => rfl
  | c :: a, b => by
    rw [List.cons_append, esc_one, esc_one, esc_app a b]
    split <;> rfl

set_option maxHeartbeats 1600000 in
set_option maxRecDepth 100000 in
theorem refName_calls (s : ByteArray) (w : World) (hs : s.size ≤ 10000) : Calls Tryd.prog 50 #[.string s] w fun e w' => e = .returned (.string (bs (esc s.data.toList))) ∧ w' = w := by
  go_enter Tryd.func50, Tryd.ntmps50
  go_wp2
  go_loop [3, 4] (fun tv iv => ∃ (k : Nat) (t : ByteArray), k ≤ s.size ∧ t.size ≤ 2 * k ∧ tv = .string t ∧ iv = .int .i64 (k : Int) ∧ Hid (t = bs (esc (s.data.toList.take k)))) (fun _ iv => s.size - (intOf iv).toNat)
  case atStart => exact ⟨0, ⟨#[]⟩, by omega, by decide, rfl, rfl, Lib.hid rfl⟩
  case round =>
    obtain ⟨k, t, hk, ht, rfl, rfl, hB⟩ := hrel
    by_cases hlt : k < s.size
    · have hkl : k < s.data.toList.length := by rw [size_list]; exact hlt
      have HT := Lib.hid (List.take_succ_eq_append_getElem hkl)
      have HE := Lib.hid (show s.data.toList[k] = s[k] from rfl)
      have HO := Lib.hid (str_one s k hlt)
      have o1 := str_one s k hlt
      have kw : IntKind.i64.wrap ((k : Int) + 1) = (k : Int) + 1 := IntWalk.i64_in _ (by omega)
      have k2 : ((k : Int) + 1).toNat = k + 1 := by omega
      have k3 : (0 : Int) ≤ (k : Int) := by omega
      have k4 : (k : Int) ≤ (k : Int) + 1 := by omega
      have k5 : (k : Int) + 1 ≤ (s.size : Int) := by omega
      have k6 : k + 1 ≤ s.size := by omega
      have k7 : k ≤ k + 1 := by omega
      have sz1 : (bs [s[k]]).size = 1 := rfl
      have hsz : ¬ 9223372036854775807 < t.size + (bs [s[k]]).size := by rw [sz1]; omega
      have hsz2 : (t ++ bs [s[k]]).size = t.size + 1 := by rw [ByteArray.size_append, sz1]
      have hsz3 : ¬ 9223372036854775807 < (t ++ bs [s[k]]).size + (⟨#[255]⟩ : ByteArray).size := by
        rw [hsz2]; show ¬ 9223372036854775807 < t.size + 1 + 1; omega
      have HZ := Lib.hid hsz2
      by_cases hc : s[k].toNat = 0
      · have hcB : ((s[k].toNat : Int) == 0) = true := by rw [hc]; rfl
        have h0 : s[k] = 0 := UInt8.toNat_inj.1 hc
        have HN := Lib.hid (show t ++ bs [s[k]] ++ ⟨#[255]⟩ = bs (esc (s.data.toList.take (k + 1))) by
          rw [hB.out, HT.out, HE.out, h0, esc_app, show (⟨#[255]⟩ : ByteArray) = bs [255] from rfl, bs_append, bs_append, List.append_assoc]; rfl)
        clear hc h0 sz1 hsz2
        go_wp2
        go_round
        case rel => exact ⟨k + 1, _, by omega, by rw [ByteArray.size_append, HZ.out]; show t.size + 1 + 1 ≤ _; omega, rfl, by go_num, HN⟩
        case measure => simp [intOf]; omega
      · have hcB : ((s[k].toNat : Int) == 0) = false := by rw [beq_eq_false_iff_ne]; omega
        have h0 : s[k] ≠ 0 := fun e => hc (by rw [e]; rfl)
        have HN := Lib.hid (show t ++ bs [s[k]] = bs (esc (s.data.toList.take (k + 1))) by
          rw [hB.out, HT.out, HE.out, esc_app, bs_append, esc_one, if_neg h0]; rfl)
        clear hc h0 sz1 hsz2 hsz3
        go_wp2
        go_round
        case rel => exact ⟨k + 1, _, by omega, by rw [HZ.out]; omega, rfl, by go_num, HN⟩
        case measure => simp [intOf]; omega
    · obtain rfl : k = s.size := by omega
      have HN := Lib.hid (show t = bs (esc s.data.toList) by
        have := hB.out
        rwa [List.take_of_length_le (by rw [size_list]; exact Nat.le_refl _)] at this)
      go_wp2
      go_ret
      exact ⟨by rw [← HN.out]; rfl, rfl⟩

set_option maxHeartbeats 800000 in
set_option maxRecDepth 100000 in
theorem refNumber_calls (t : ByteArray) (w : World) (ht : 8 ≤ t.size) : Calls Tryd.prog 48 #[.string t] w fun e w' => e = .returned (.int .u64 (val (t.data.toList.take 8) : Int)) ∧ w' = w := by
  go_enter Tryd.func48, Tryd.ntmps48
  go_wp2
  go_loop [3, 4] (fun xv iv => ∃ k : Nat, k ≤ 8 ∧ xv = .int .u64 (val (t.data.toList.take k) : Int) ∧ iv = .int .i64 (k : Int)) (fun _ iv => 8 - (intOf iv).toNat)
  case atStart => exact ⟨0, by omega, rfl, rfl⟩
  case round =>
    obtain ⟨k, hk, rfl, rfl⟩ := hrel
    by_cases hlt : k < 8
    · have hlt2 : k < t.size := by omega
      have hkl : k < t.data.toList.length := by rw [size_list]; exact hlt2
      obtain ⟨e, he⟩ : ∃ e, e = t[k] := ⟨_, rfl⟩
      obtain ⟨v, hv⟩ : ∃ v, v = val (t.data.toList.take k) := ⟨_, rfl⟩
      rw [← hv]
      have hvb : v < 72057594037927936 := by
        have h := val_lt (t.data.toList.take k)
        rw [← hv, List.length_take, Nat.min_eq_left (by omega)] at h
        have hp : 256 ^ k ≤ 256 ^ 7 := Nat.pow_le_pow_right (by omega) (by omega)
        have : (256 : Nat) ^ 7 = 72057594037927936 := by decide
        omega
      have he8 := e.toNat_lt
      have hel : Hid (t.data.toList[k] = e) := by
        show _ = _
        rw [he]; rfl
      have hwr := Lib.hid (show IntKind.u64.wrap (t[k].toNat : Int) = (t[k].toNat : Int) from IntWalk.u64_in _ (by have := t[k].toNat_lt; omega))
      have HV := Lib.hid hv
      have i8 : (k : Int) < 8 := by omega
      clear hv
      go_wp2
      go_round
      case rel => exact ⟨k + 1, by omega, by rw [List.take_succ_eq_append_getElem hkl, val_snoc, ← HV.out, hel.out, ← or_byte v e hvb, hwr.out, he], by go_num⟩
      case measure => simp [intOf]; omega
    · obtain rfl : k = 8 := by omega
      go_wp2
      go_ret
      exact ⟨rfl, rfl⟩

end Go.Proofs.YtaeiahkomdpcoaaDoor.Name
