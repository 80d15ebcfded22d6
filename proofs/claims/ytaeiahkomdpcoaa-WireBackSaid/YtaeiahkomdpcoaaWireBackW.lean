/- The walk of hoardlaw03.WireBack. -/
import Derived.Test.YtaeiahkomdpcoaaWireAlive
namespace Go.Proofs.Ytaeiahkomdpcoaa.Wire
open Go.RowKit Go.Proofs.Ytaeiahkomdpcoaa.Num

theorem numR_len (m : Nat) (st : St) : (numR m st).2.1.length ≤ st.1.length := by
  unfold numR
  split
  · exact Nat.le_refl _
  · split
    · exact Nat.le_refl _
    · split
      · exact Nat.le_refl _
      · simp
theorem textR_len (m : Int) (st : St) : (textR m st).2.1.length ≤ st.1.length := by
  unfold textR
  split
  · exact Nat.le_refl _
  · split
    · exact Nat.le_refl _
    · simp

theorem num0 (p x : Nat) (R : Bs) (hx : Hid (x < 18446744073709551616)) (hR : (up x ++ R).length ≤ 1000000) : Hid (∀ W, RdAt W p (up x ++ R, 0) → Calls Try.prog 16 #[.pointer (some ⟨p, 0, none⟩), .int .u64 18446744073709551615] W fun e w' => e = .returned (.int .u64 (x : Int)) ∧ RdAt w' p (R, 0) ∧ W.grownBy w' (some p)) := fun W h => by
  have := num_calls p 18446744073709551615 _ W h (by show (up x ++ R).length ≤ _; omega)
  rw [numR_whole x hx.out] at this
  exact this
theorem text0 (p : Nat) (x : ByteArray) (R : Bs) (hx : x.size ≤ 1024) (hR : (textW x.data.toList ++ R).length ≤ 1000000) : Hid (∀ W, RdAt W p (textW x.data.toList ++ R, 0) → Calls Try.prog 17 #[.pointer (some ⟨p, 0, none⟩), .int .i64 (x.size : Int)] W fun e w' => e = .returned (.string x) ∧ RdAt w' p (R, 0) ∧ W.grownBy w' (some p)) := fun W h => by
  have := text_calls p (x.size : Int) _ W h (by show (textW x.data.toList ++ R).length ≤ _; omega) (by omega)
  have e := textR_whole x.data.toList R (by rw [size_list]; omega)
  rw [size_list] at e
  rw [e] at this
  exact this
theorem bool0 (p : Nat) (b : Bool) : Hid (∀ W, RdAt W p (boolW b, 0) → Calls Try.prog 18 #[.pointer (some ⟨p, 0, none⟩)] W fun e w' => e = .returned (.bool b) ∧ RdAt w' p ([], 0) ∧ W.grownBy w' (some p)) := fun W h => by
  have := boolR_calls p _ W h (by cases b <;> decide)
  have e := boolR_whole b []
  rw [List.append_nil] at e
  rw [e] at this
  exact this
theorem end0 (p : Nat) : Hid (∀ W, RdAt W p ([], 0) → Calls Try.prog 19 #[.pointer (some ⟨p, 0, none⟩)] W fun e w' => e = .returned (.int .i64 0) ∧ RdAt w' p ([], 0) ∧ W.grownBy w' (some p)) := fun W h => end_calls p _ W h
theorem bool1 (p : Nat) (b : Bool) (st : St) (hc : Cut (boolW b) st) (hl : st.1.length ≤ 1000000) : Hid (∀ W, RdAt W p st → Calls Try.prog 18 #[.pointer (some ⟨p, 0, none⟩)] W fun e w' => ∃ r l, e = .returned (.bool r) ∧ RdAt w' p (l, 10) ∧ W.grownBy w' (some p)) := fun W h => by
  refine (boolR_calls p st W h (by omega)).mono ?_
  rintro e w' ⟨rfl, h1, h2⟩
  have h3 := cut_bool hc
  refine ⟨_, (boolR st).2.1, rfl, ?_, h2⟩
  rw [← h3]
  exact h1
theorem err1 (p : Nat) (l : Bs) : Hid (∀ W, RdAt W p (l, 10) → Calls Try.prog 20 #[.pointer (some ⟨p, 0, none⟩)] W fun e w' => e = .returned (.int .i64 10) ∧ w' = W) := fun W h => err_calls p _ W h

theorem bs_take (l : Bs) (n : Nat) : (bs l).extract 0 n = bs (l.take n) := by
  have := bs_slice l 0 n
  rwa [Nat.zero_add, List.drop_zero] at this

set_option maxHeartbeats 6400000 in
set_option maxRecDepth 100000 in
theorem back_calls (A B : Option Addr) (c d : Nat) (u : List Nat) (t : List ByteArray) (b : Bool) (x : Nat) (w : World) (hA : ListAt w A (numsV u)) (hu : ∀ x ∈ u, x < 18446744073709551616) (hB : ListAt w B (textsV t)) (hul : u.length ≤ 9223372036854775807) (htl : t.length ≤ 9223372036854775807) (hts : ∀ s ∈ t, s.size ≤ maxLen) (hx : Hid (x < 65536)) :
    Calls Try.prog 4 #[.slice A u.length c, .slice B t.length d, .bool b, .int .u16 (x : Int)] w fun e w' => e = .returned (.bool true) ∧ Below w.heap.size w w' := by
  by_cases h1 : 100 < u.length
  · go_enter Try.func4, Try.ntmps4
    go_wp2_with fail
    refine (alive_calls _).mono ?_
    rintro e w1 ⟨rfl, hb⟩
    go_wp2
    go_ret
    exact ⟨rfl, hb⟩
  by_cases h2 : 100 < t.length
  · go_enter Try.func4, Try.ntmps4
    go_wp2_with fail
    refine (alive_calls _).mono ?_
    rintro e w1 ⟨rfl, hb⟩
    go_wp2
    go_ret
    exact ⟨rfl, hb⟩
  go_enter Try.func4, Try.ntmps4
  go_wp2
  go_loopw [9] (fun iv wr => ∃ k : Nat, k ≤ t.length ∧ iv = .int .i64 k ∧ Hid (∀ s ∈ t.take k, s.size ≤ 1024) ∧ Below w.heap.size w wr) (fun iv _ => t.length - (intOf iv).toNat)
  case atStart => exact ⟨0, by omega, rfl, Lib.hid (by simp), Below.refl _ _⟩
  case round =>
    obtain ⟨k, hk, rfl, hall, hb⟩ := hrel
    by_cases hlt : k < t.length
    · obtain ⟨ad, rfl, _, hcx⟩ := (hB.below hb).text hlt
      have hst := hts t[k] (List.getElem_mem hlt)
      unfold maxLen at hst
      have HN := Lib.hid (List.take_succ_eq_append_getElem hlt)
      obtain ⟨x, hxe⟩ : ∃ x, x = t[k] := ⟨_, rfl⟩
      rw [← hxe] at hcx hst HN
      clear hxe
      by_cases hx4 : 1024 < x.size
      · go_wp2_with fail
        refine (alive_calls _).mono ?_
        rintro e w1 ⟨rfl, hb1⟩
        go_wp2
        go_ret
        exact ⟨rfl, below_of hb hb1⟩
      · go_wp2
        go_roundw
        case rel =>
          refine ⟨k + 1, by omega, by go_num, Lib.hid (fun s hs => ?_), hb⟩
          rw [HN.out, List.mem_append] at hs
          rcases hs with hs | hs
          · exact hall.out s hs
          · simp at hs; subst hs; omega
        case measure => simp [intOf]; omega
    · obtain rfl : k = t.length := by omega
      rw [List.take_length] at hall
      have hl1 : (numsW u).length ≤ 900 := by have := numsW_len u; omega
      have hl2 : (textsW (dt t)).length ≤ 104000 := by
        have h1 := textsW_len (dt t) 1024 (dt_len _ _ hall.out)
        rw [List.length_map] at h1; omega
      have hl3 : (boolW b).length = 1 := rfl
      obtain ⟨L, hL⟩ : ∃ L, L = numsW u ++ (textsW (dt t) ++ boolW b) := ⟨_, rfl⟩
      have hLl : L.length ≤ 105000 := by rw [hL, List.length_append, List.length_append]; omega
      have hL0 : 0 < L.length := by rw [hL, List.length_append, List.length_append]; omega
      obtain ⟨S, hS⟩ : ∃ S, S = bs L := ⟨_, rfl⟩
      have hSz : S.size = L.length := by rw [hS, bs_size]
      have HT := Lib.hid (fun W (h : ListAt W B (textsV t)) => texts_calls B d t W h (fun s hs => Nat.le_trans (hall.out s hs) (by decide)) (by omega))
      have HU := Lib.hid (fun W (h : ListAt W A (numsV u)) => nums_calls A c u W h hu (by omega))
      have HBo := Lib.hid (bool_calls b)
      obtain ⟨y1, hy1⟩ : ∃ y, y = bs (numsW u) := ⟨_, rfl⟩
      obtain ⟨y2, hy2⟩ : ∃ y, y = bs (textsW (dt t)) := ⟨_, rfl⟩
      obtain ⟨y3, hy3⟩ : ∃ y, y = bs (boolW b) := ⟨_, rfl⟩
      have hcat : y1 ++ y2 ++ y3 = S := by rw [hy1, hy2, hy3, hS, hL, bs_append, bs_append, List.append_assoc]
      have hz1 : ¬ 9223372036854775807 < y1.size + y2.size := by rw [hy1, hy2, bs_size, bs_size]; omega
      have hz2 : ¬ 9223372036854775807 < (y1 ++ y2).size + y3.size := by rw [hy1, hy2, hy3, bs_append, bs_size, bs_size, List.length_append]; omega
      simp only [← hy1] at HU
      simp only [← hy2] at HT
      simp only [← hy3] at HBo
      have hne := not_empty S (by omega)
      have HS := Lib.hid hS
      have HLe := Lib.hid hL
      have HA := Lib.hid hA
      have HB := Lib.hid hB
      have HUU := Lib.hid hu
      clear hy1 hy2 hy3 hS hL hl3 hA hB hu hts hlt hul htl
      go_wp2_with fail
      refine (HU.out _ (HA.out.below hb)).mono ?_
      rintro e w1 ⟨rfl, b1⟩
      have c1 := below_of hb b1
      go_wp2_with fail
      refine (HT.out _ (HB.out.below c1)).mono ?_
      rintro e w2 ⟨rfl, b2⟩
      have c2 := below_of c1 b2
      go_wp2_with fail
      refine (HBo.out _).mono ?_
      rintro e w3 ⟨rfl, b3⟩
      have c3 := below_of c2 b3
      clear c1 c2 b1 b2 b3 hb HU HT HBo
      go_wp2
      go_loopw [11] (fun iv wr => ∃ q : Nat, q ≤ 2 ∧ iv = .int .i64 q ∧ Below w.heap.size w wr) (fun iv _ => 2 - (intOf iv).toNat)
      case atStart => exact ⟨0, by omega, rfl, c3⟩
      case round =>
        obtain ⟨q, hq, rfl, hb⟩ := hrel
        have hbs := hb.size
        obtain rfl | rfl | rfl : q = 0 ∨ q = 1 ∨ q = 2 := by omega
        · skip
          have HNew := Lib.hid (new_calls L)
          simp only [← HS.out] at HNew
          go_wp2_with fail
          refine (HNew.out _).mono ?_
          rintro e w4 ⟨rfl, h4, b4⟩
          have hp : w.heap.size ≤ wr.heap.size := hbs
          have hpp : ∀ r', some wr.heap.size = some r' → w.heap.size ≤ r' := fun r' e => by cases e; exact hp
          have HPP := Lib.hid hpp
          have c4 := below_of hb b4
          clear hb b4 hpp hbs HNew
          generalize wr.heap.size = p at *
          go_wp2
          go_loopw [14, 15] (fun sv kv wz => ∃ k : Nat, k ≤ u.length ∧ kv = .int .i64 k ∧ sv = .bool true ∧ RdAt wz p (numsW (u.drop k) ++ (textsW (dt t) ++ boolW b), 0) ∧ Below w.heap.size w wz) (fun _ kv _ => u.length - (intOf kv).toNat)
          case atStart => exact ⟨0, by omega, rfl, rfl, by rw [HLe.out] at h4; exact h4, c4⟩
          case round =>
            obtain ⟨k, hk, rfl, rfl, hR, hb⟩ := hrel
            by_cases hlt : k < u.length
            · obtain ⟨ad, rfl, _, hcx⟩ := (HA.out.below hb).num hlt
              have hx' : Hid (u[k] < 18446744073709551616) := HUU.out _ (List.getElem_mem hlt)
              have hlk : (numsW (u.drop k)).length ≤ 900 := by have := numsW_len (u.drop k); rw [List.length_drop] at this; omega
              rw [numsW_drop u k hlt] at hR hlk
              rw [List.append_assoc] at hR
              have HC := num0 p u[k] (numsW (u.drop (k + 1)) ++ (textsW (dt t) ++ boolW b)) hx' (by simp only [List.length_append] at hlk ⊢; have : (boolW b).length = 1 := rfl; omega)
              obtain ⟨v, hv⟩ : ∃ v, v = u[k] := ⟨_, rfl⟩
              rw [← hv] at hcx hR HC
              have HV := Lib.hid hv
              clear hv hx' hlk
              go_wp2_with fail
              refine (HC.out _ hR).mono ?_
              rintro e w5 ⟨rfl, hR5, g5⟩
              have hb5 := below_of_grown hb g5 HPP.out
              obtain ⟨ad5, hae, _, hcx5⟩ := (HA.out.below hb5).num hlt
              rw [← HV.out] at hcx5
              clear hcx
              cases hae
              go_wp2
              go_roundw
              case rel => exact ⟨k + 1, by omega, by go_num, rfl, hR5, hb5⟩
              case measure => simp [intOf]; omega
            · obtain rfl : k = u.length := by omega
              rw [List.drop_length] at hR
              clear c4 h4
              go_wp2
              go_loopw [14, 17] (fun sv kv wz => ∃ k : Nat, k ≤ t.length ∧ kv = .int .i64 k ∧ sv = .bool true ∧ RdAt wz p (textsW ((dt t).drop k) ++ boolW b, 0) ∧ Below w.heap.size w wz) (fun _ kv _ => t.length - (intOf kv).toNat)
              case atStart => exact ⟨0, by omega, rfl, rfl, hR, hb⟩
              case round =>
                obtain ⟨k, hk, rfl, rfl, hR, hb⟩ := hrel
                by_cases hlt2 : k < t.length
                · obtain ⟨ad, rfl, _, hcx⟩ := (HB.out.below hb).text hlt2
                  have hkl : k < (dt t).length := by rw [List.length_map]; exact hlt2
                  have hx' := hall.out t[k] (List.getElem_mem hlt2)
                  have hlk : (textsW ((dt t).drop k)).length ≤ 104000 := by
                    have h1 := textsW_len ((dt t).drop k) 1024 (fun s hs => dt_len _ _ hall.out s (List.mem_of_mem_drop hs))
                    have h3 : ((dt t).drop k).length ≤ t.length := by rw [List.length_drop, List.length_map]; omega
                    have h4 : (9 + 1024) * ((dt t).drop k).length ≤ (9 + 1024) * 100 := Nat.mul_le_mul_left _ (by omega)
                    omega
                  rw [textsW_drop (dt t) k hkl, List.getElem_map] at hR hlk
                  rw [List.append_assoc] at hR
                  have HC := text0 p t[k] (textsW ((dt t).drop (k + 1)) ++ boolW b) hx' (by simp only [List.length_append] at hlk ⊢; have : (boolW b).length = 1 := rfl; omega)
                  obtain ⟨v, hv⟩ : ∃ v, v = t[k] := ⟨_, rfl⟩
                  rw [← hv] at hcx hR HC hx'
                  have HV := Lib.hid hv
                  clear hv hlk hkl
                  go_wp2_with fail
                  refine (HC.out _ hR).mono ?_
                  rintro e w5 ⟨rfl, hR5, g5⟩
                  have hb5 := below_of_grown hb g5 HPP.out
                  obtain ⟨ad5, hae, _, hcx5⟩ := (HB.out.below hb5).text hlt2
                  rw [← HV.out] at hcx5
                  clear hcx
                  cases hae
                  go_wp2
                  go_roundw
                  case rel => exact ⟨k + 1, by omega, by go_num, rfl, hR5, hb5⟩
                  case measure => simp [intOf]; omega
                · obtain rfl : k = t.length := by omega
                  rw [List.drop_eq_nil_of_le (by rw [List.length_map]; exact Nat.le_refl _)] at hR
                  have HBo := bool0 p b
                  have HE := end0 p
                  go_wp2_with fail
                  refine (HBo.out _ hR).mono ?_
                  rintro e w5 ⟨rfl, hR5, g5⟩
                  have hb5 := below_of_grown hb g5 HPP.out
                  go_wp2_with fail
                  refine (HE.out _ hR5).mono ?_
                  rintro e w6 ⟨rfl, hR6, g6⟩
                  have hb6 := below_of_grown hb5 g6 HPP.out
                  go_wp2
                  go_roundw
                  case rel => exact ⟨1, by omega, rfl, hb6⟩
                  case measure => simp [intOf]
        · have hmod : (x : Int).tmod (S.size : Int) = ((x % L.length : Nat) : Int) := by
            rw [hSz, Int.tmod_eq_emod_of_nonneg (by omega)]; simp
          have hm1 : x % L.length < L.length := Nat.mod_lt _ hL0
          have hx16 : x < 65536 := hx.out
          have hm2 : x % L.length ≤ S.size := by omega
          have hS1 : (S.size : Int) ≠ 0 := by omega
          have hw16 : IntKind.i64.wrap (x : Int) = (x : Int) := IntWalk.i64_in _ (by omega)
          have HNew := Lib.hid (new_calls (L.take (x % L.length)))
          simp only [← bs_take, ← HS.out] at HNew
          go_wp2_with fail
          refine (HNew.out _).mono ?_
          rintro e w4 ⟨rfl, h4, b4⟩
          have hp : w.heap.size ≤ wr.heap.size := hbs
          have hpp : ∀ r', some wr.heap.size = some r' → w.heap.size ≤ r' := fun r' e => by cases e; exact hp
          have HPP := Lib.hid hpp
          have c4 := below_of hb b4
          clear hb b4 hpp hbs HNew
          generalize wr.heap.size = p at *
          go_wp2
          go_loopw [14, 15] (fun sv kv wz => ∃ (k : Nat) (sm : Bool) (st : St), k ≤ u.length ∧ kv = .int .i64 k ∧ sv = .bool sm ∧ RdAt wz p st ∧ st.1.length ≤ 105000 ∧ Cut (numsW (u.drop k) ++ (textsW (dt t) ++ boolW b)) st ∧ Below w.heap.size w wz) (fun _ kv _ => u.length - (intOf kv).toNat)
          case atStart => exact ⟨0, true, _, by omega, rfl, rfl, h4, by show (L.take _).length ≤ _; rw [List.length_take]; omega, .inl ⟨x % L.length, by rw [List.drop_zero, ← HLe.out]; exact Nat.mod_lt _ hL0, by rw [List.drop_zero, ← HLe.out]⟩, c4⟩
          case round =>
            obtain ⟨k, sm, st, hk, rfl, rfl, hR, hsl, hC, hb⟩ := hrel
            by_cases hlt : k < u.length
            · obtain ⟨ad, rfl, _, hcx⟩ := (HA.out.below hb).num hlt
              have hx' : Hid (u[k] < 18446744073709551616) := HUU.out _ (List.getElem_mem hlt)
              rw [numsW_drop u k hlt, List.append_assoc] at hC
              have HC' := Lib.hid (cut_num hx'.out hC)
              have HL' := numR_len 18446744073709551615 st
              have HC : Hid (∀ W, RdAt W p st → Calls Try.prog 16 #[.pointer (some ⟨p, 0, none⟩), .int .u64 18446744073709551615] W fun e w' => e = .returned (.int .u64 ((numR 18446744073709551615 st).1 : Int)) ∧ RdAt w' p (numR 18446744073709551615 st).2 ∧ W.grownBy w' (some p)) := fun W h => num_calls p _ st W h (by omega)
              obtain ⟨R, hRR⟩ : ∃ R, R = numR 18446744073709551615 st := ⟨_, rfl⟩
              rw [← hRR] at HC HC' HL'
              clear hRR hx' hC
              obtain ⟨n, st'⟩ := R
              have HL2 : st'.1.length ≤ 105000 := Nat.le_trans HL' hsl
              clear HL' hsl
              go_wp2_with fail
              refine (HC.out _ hR).mono ?_
              rintro e w5 ⟨rfl, hR5, g5⟩
              have hb5 := below_of_grown hb g5 HPP.out
              obtain ⟨ad5, hae, _, hcx5⟩ := (HA.out.below hb5).num hlt
              clear hcx HC
              cases hae
              cases sm
              · go_wp2
                go_roundw
                case rel => exact ⟨k + 1, _, _, by omega, by go_num, rfl, hR5, HL2, HC'.out, hb5⟩
                case measure => simp [intOf]; omega
              · go_wp2
                go_roundw
                case rel => exact ⟨k + 1, _, _, by omega, by go_num, rfl, hR5, HL2, HC'.out, hb5⟩
                case measure => simp [intOf]; omega
            · obtain rfl : k = u.length := by omega
              rw [List.drop_length] at hC
              clear c4 h4
              go_wp2
              go_loopw [14, 17] (fun sv kv wz => ∃ (k : Nat) (sm : Bool) (st : St), k ≤ t.length ∧ kv = .int .i64 k ∧ sv = .bool sm ∧ RdAt wz p st ∧ st.1.length ≤ 105000 ∧ Cut (textsW ((dt t).drop k) ++ boolW b) st ∧ Below w.heap.size w wz) (fun _ kv _ => t.length - (intOf kv).toNat)
              case atStart => exact ⟨0, sm, st, by omega, rfl, rfl, hR, hsl, hC, hb⟩
              case round =>
                obtain ⟨k, sm, st, hk, rfl, rfl, hR, hsl, hC, hb⟩ := hrel
                by_cases hlt2 : k < t.length
                · obtain ⟨ad, rfl, _, hcx⟩ := (HB.out.below hb).text hlt2
                  have hkl : k < (dt t).length := by rw [List.length_map]; exact hlt2
                  have hx' := hall.out t[k] (List.getElem_mem hlt2)
                  rw [textsW_drop (dt t) k hkl, List.getElem_map, List.append_assoc] at hC
                  have HC' := Lib.hid (cut_text (by rw [size_list]; omega) hC)
                  rw [size_list] at HC'
                  have HL' := textR_len (t[k].size : Int) st
                  have HC : Hid (∀ W, RdAt W p st → Calls Try.prog 17 #[.pointer (some ⟨p, 0, none⟩), .int .i64 (t[k].size : Int)] W fun e w' => e = .returned (.string (bs (textR (t[k].size : Int) st).1)) ∧ RdAt w' p (textR (t[k].size : Int) st).2 ∧ W.grownBy w' (some p)) := fun W h => text_calls p _ st W h (by omega) (by omega)
                  obtain ⟨R, hRR⟩ : ∃ R, R = textR (t[k].size : Int) st := ⟨_, rfl⟩
                  rw [← hRR] at HC HC' HL'
                  obtain ⟨v, hv⟩ : ∃ v, v = t[k] := ⟨_, rfl⟩
                  rw [← hv] at hcx HC hx'
                  have HV := Lib.hid hv
                  clear hRR hC hv hkl
                  obtain ⟨n, st'⟩ := R
                  have HL2 : st'.1.length ≤ 105000 := Nat.le_trans HL' hsl
                  clear HL' hsl
                  go_wp2_with fail
                  refine (HC.out _ hR).mono ?_
                  rintro e w5 ⟨rfl, hR5, g5⟩
                  have hb5 := below_of_grown hb g5 HPP.out
                  obtain ⟨ad5, hae, _, hcx5⟩ := (HB.out.below hb5).text hlt2
                  rw [← HV.out] at hcx5
                  clear hcx HC
                  cases hae
                  cases sm
                  · go_wp2
                    go_roundw
                    case rel => exact ⟨k + 1, _, _, by omega, by go_num, rfl, hR5, HL2, HC'.out, hb5⟩
                    case measure => simp [intOf]; omega
                  · go_wp2
                    go_roundw
                    case rel => exact ⟨k + 1, _, _, by omega, by go_num, rfl, hR5, HL2, HC'.out, hb5⟩
                    case measure => simp [intOf]; omega
                · obtain rfl : k = t.length := by omega
                  rw [List.drop_eq_nil_of_le (by rw [List.length_map]; exact Nat.le_refl _)] at hC
                  have HBo := bool1 p b st hC (by omega)
                  go_wp2_with fail
                  refine (HBo.out _ hR).mono ?_
                  rintro e w5 ⟨rv', l', rfl, hR5, g5⟩
                  have hb5 := below_of_grown hb g5 HPP.out
                  have HE := err1 p l'
                  go_wp2_with fail
                  refine (HE.out _ hR5).mono ?_
                  rintro e w6 ⟨rfl, rfl⟩
                  go_wp2
                  go_roundw
                  case rel => exact ⟨2, by omega, rfl, hb5⟩
                  case measure => simp [intOf]
        · go_wp2_with fail
          refine (alive_calls _).mono ?_
          rintro e w4 ⟨rfl, b4⟩
          go_wp2
          go_ret
          exact ⟨rfl, below_of hb b4⟩

end Go.Proofs.Ytaeiahkomdpcoaa.Wire
