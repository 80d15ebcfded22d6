/- The walk of hoardlaw03.WireWrites. -/
import Derived.Test.YtaeiahkomdpcoaaWireAlive
namespace Go.Proofs.Ytaeiahkomdpcoaa.Wire
open Go.RowKit Go.Proofs.Ytaeiahkomdpcoaa.Num

set_option maxHeartbeats 3200000 in
set_option maxRecDepth 100000 in
theorem writes_calls (A B : Option Addr) (c d : Nat) (u : List Nat) (t : List ByteArray) (b : Bool) (w : World) (hA : ListAt w A (numsV u)) (hu : ∀ x ∈ u, x < 18446744073709551616) (hB : ListAt w B (textsV t)) (hul : u.length ≤ 9223372036854775807) (htl : t.length ≤ 9223372036854775807) (hts : ∀ s ∈ t, s.size ≤ maxLen) :
    Calls Try.prog 3 #[.slice A u.length c, .slice B t.length d, .bool b] w fun e w' => e = .returned (.bool true) ∧ Below w.heap.size w w' := by
  by_cases h1 : 200 < u.length
  · go_enter Try.func3, Try.ntmps3
    go_wp2_with fail
    refine (alive_calls _).mono ?_
    rintro e w1 ⟨rfl, hb⟩
    go_wp2
    go_ret
    exact ⟨rfl, hb⟩
  by_cases h2 : 200 < t.length
  · go_enter Try.func3, Try.ntmps3
    go_wp2_with fail
    refine (alive_calls _).mono ?_
    rintro e w1 ⟨rfl, hb⟩
    go_wp2
    go_ret
    exact ⟨rfl, hb⟩
  go_enter Try.func3, Try.ntmps3
  go_wp2
  go_loopw [7, 9] (fun xv iv wr => ∃ k : Nat, k ≤ u.length ∧ iv = .int .i64 k ∧ xv = .string (bs (numsW (u.take k))) ∧ Below w.heap.size w wr) (fun _ iv _ => u.length - (intOf iv).toNat)
  case atStart => exact ⟨0, by omega, rfl, rfl, Below.refl _ _⟩
  case round =>
    obtain ⟨k, hk, rfl, rfl, hb⟩ := hrel
    by_cases hlt : k < u.length
    · obtain ⟨ad, rfl, _, hcx⟩ := (hA.below hb).num hlt
      have hx : Hid (u[k] < 18446744073709551616) := hu _ (List.getElem_mem hlt)
      have HK := Lib.hid (numsW_take u k hlt)
      have hl2 : (numsW (u.take k)).length ≤ 9000 := by
        have := numsW_len (u.take k); rw [List.length_take] at this; omega
      obtain ⟨x, hxe⟩ : ∃ x, x = u[k] := ⟨_, rfl⟩
      rw [← hxe] at hcx hx HK
      clear hxe
      have hx9 := up_length_le x
      obtain ⟨y, hy⟩ : ∃ y, y = numsW (u.take k) := ⟨_, rfl⟩
      rw [← hy] at HK hl2
      rw [← hy]
      clear hy
      have hsz : ¬ 9223372036854775807 < (bs y).size + (bs (up x)).size := by rw [bs_size, bs_size]; omega
      go_wp2_with fail
      refine (refNum_calls x _ hx).mono ?_
      rintro e w1 ⟨rfl, hb1⟩
      go_wp2
      go_roundw
      case rel => exact ⟨k + 1, by omega, by go_num, by rw [HK.out, ← bs_append], below_of hb hb1⟩
      case measure => simp [intOf]; omega
    · obtain rfl : k = u.length := by omega
      rw [List.take_length]
      obtain ⟨y, hy⟩ : ∃ y, y = bs (numsW u) := ⟨_, rfl⟩
      rw [← hy]
      have HY := Lib.hid hy
      clear hy hlt
      go_wp2
      go_loopw [8, 10] (fun xv iv wr => ∃ k : Nat, k ≤ t.length ∧ iv = .int .i64 k ∧ xv = .string (bs (textsW (dt (t.take k)))) ∧ Hid (∀ s ∈ t.take k, s.size ≤ 4096) ∧ Below w.heap.size w wr) (fun _ iv _ => t.length - (intOf iv).toNat)
      case atStart => exact ⟨0, by omega, rfl, rfl, Lib.hid (by simp), hb⟩
      case round =>
        obtain ⟨k, hk, rfl, rfl, hall, hb⟩ := hrel
        by_cases hlt : k < t.length
        · obtain ⟨ad, rfl, _, hcx⟩ := (hB.below hb).text hlt
          have hkl : k < (dt t).length := by rw [List.length_map]; exact hlt
          have HK := Lib.hid (textsW_take (dt t) k hkl)
          rw [List.getElem_map, ← List.map_take, ← List.map_take] at HK
          have hl2 : (textsW (dt (t.take k))).length ≤ 4105000 := by
            have h1 := textsW_len (dt (t.take k)) 4096 (dt_len _ _ hall.out)
            rw [List.length_map, List.length_take] at h1; omega
          have hst := hts t[k] (List.getElem_mem hlt)
          unfold maxLen at hst
          have HN := Lib.hid (List.take_succ_eq_append_getElem hlt)
          obtain ⟨x, hxe⟩ : ∃ x, x = t[k] := ⟨_, rfl⟩
          rw [← hxe] at hcx HK hst HN
          clear hxe hkl
          obtain ⟨y2, hy2⟩ : ∃ y2, y2 = textsW (dt (t.take k)) := ⟨_, rfl⟩
          rw [← hy2] at HK hl2
          rw [← hy2]
          clear hy2
          by_cases hx4 : 4096 < x.size
          · go_wp2_with fail
            refine (alive_calls _).mono ?_
            rintro e w1 ⟨rfl, hb1⟩
            go_wp2
            go_ret
            exact ⟨rfl, below_of hb hb1⟩
          · have hxl : (textW x.data.toList).length ≤ 9 + x.size := by have := textW_len x.data.toList; rwa [size_list] at this
            have hsz : ¬ 9223372036854775807 < (bs y2).size + (bs (textW x.data.toList)).size := by rw [bs_size, bs_size]; omega
            go_wp2_with fail
            refine (refText_calls x _ (by omega)).mono ?_
            rintro e w1 ⟨rfl, hb1⟩
            go_wp2
            go_roundw
            case rel =>
              refine ⟨k + 1, by omega, by go_num, by rw [HK.out, ← bs_append], Lib.hid (fun s hs => ?_), below_of hb hb1⟩
              rw [HN.out, List.mem_append] at hs
              rcases hs with hs | hs
              · exact hall.out s hs
              · simp at hs; subst hs; omega
            case measure => simp [intOf]; omega
        · obtain rfl : k = t.length := by omega
          rw [List.take_length] at hall ⊢
          have HT := Lib.hid (fun W (h : ListAt W B (textsV t)) => texts_calls B d t W h hall.out (by omega))
          have HU := Lib.hid (fun W (h : ListAt W A (numsV u)) => nums_calls A c u W h hu (by omega))
          obtain ⟨y2, hy2⟩ : ∃ y2, y2 = bs (textsW (dt t)) := ⟨_, rfl⟩
          rw [← hy2]
          simp only [← hy2] at HT
          simp only [← HY.out] at HU
          have HA := Lib.hid hA
          have HB := Lib.hid hB
          clear hy2 HY hall hA hB hlt
          go_wp2_with fail
          refine (HU.out _ (HA.out.below hb)).mono ?_
          rintro e w1 ⟨rfl, b1⟩
          have c1 := below_of hb b1
          go_wp2_with fail
          refine (HT.out _ (HB.out.below c1)).mono ?_
          rintro e w2 ⟨rfl, b2⟩
          have c2 := below_of c1 b2
          go_wp2_with fail
          refine (bool_calls b _).mono ?_
          rintro e w3 ⟨rfl, b3⟩
          have c3 := below_of c2 b3
          go_wp2_with fail
          refine (refBool_calls b _).mono ?_
          rintro e w4 ⟨rfl, b4⟩
          have c4 := below_of c3 b4
          go_wp2_with fail
          refine (alive_calls _).mono ?_
          rintro e w5 ⟨rfl, b5⟩
          go_wp2
          go_ret
          exact ⟨rfl, below_of c4 b5⟩

end Go.Proofs.Ytaeiahkomdpcoaa.Wire
