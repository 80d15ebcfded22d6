/- The walks of the document's answers for names: Eight, Behind. -/
import Derived.Test.YtaeiahkomdpcoaaDoorNRefC
namespace Go.Proofs.YtaeiahkomdpcoaaDoor.Name
open Go.RowKit Go.Shelf

set_option maxHeartbeats 3200000 in
set_option maxRecDepth 100000 in
theorem eight_calls (n : Nat) (w : World) : Calls Tryd.prog 49 #[.int .u64 (n : Int)] w fun e w' => e = .returned (.string (bs (be 8 n))) ∧ Below w.heap.size w w' := by
  obtain ⟨i0, hi, hz0, hz1, hz2⟩ := info_parts infoByte
  go_enter Tryd.func49, Tryd.ntmps49
  go_wp2
  go_loopw [3, 4] (fun v iv wr => ∃ (m : Nat) (acc : Bs), m ≤ 8 ∧ Hid (acc.length + m = 8) ∧ iv = .int .i64 ((m : Int) - 1) ∧ wr.ownsRow w.heap.size 5 1 v acc.length (cellsOf acc) ∧ Hid (be 8 n = acc ++ be m n) ∧ Below w.heap.size w wr) (fun _ iv _ => (intOf iv + 1).toNat)
  case atStart => exact ⟨8, [], by omega, Lib.hid rfl, rfl, World.ownsRow_nil _ _ _ _, Lib.hid rfl, Below.refl _ _⟩
  case round =>
    obtain ⟨m, acc, hm, hlm, rfl, hown, hU, hb⟩ := hrel
    cases m with
    | zero =>
      have hne : acc ≠ [] := fun e => by have := hlm.out; rw [e] at this; simp at this
      obtain ⟨g, cap, rfl, hcap, hrow⟩ := own_row hown hne
      have hcv := conv_row wr g acc acc.length cap rfl hrow
      have HA := Lib.hid (show be 8 n = acc by rw [hU.out]; simp [be])
      clear hown hrow hne
      go_wp2
      go_ret
      exact ⟨by rw [HA.out]; rfl, hb⟩
    | succ k =>
      have e1 : ((k + 1 : Nat) : Int) - 1 = (k : Int) := by omega
      rw [e1]
      have hbs := hb.size
      have q3 : IntKind.i64.wrap (8 * (k : Int)) = 8 * (k : Int) := IntWalk.i64_in _ (by omega)
      have hka : acc.length + (k + 1) = 8 := hlm.out
      have hB := be_cons k n
      have eN : (2 : Int) ^ (8 * k) = ((256 ^ k : Nat) : Int) := by
        have e2 : ((2 ^ (8 * k) : Nat) : Int) = (2 : Int) ^ (8 * k) := by simp
        rw [← e2, Nat.pow_mul]
      obtain ⟨c, hc⟩ : ∃ c, c = UInt8.ofNat (n / 256 ^ k % 256) := ⟨_, rfl⟩
      have e3 : (n : Int) / 2 ^ (8 * k) % 256 = (c.toNat : Int) := by
        rw [eN, hc]; simp [UInt8.toNat_ofNat']
      rw [← hc] at hB
      have HB := Lib.hid hB
      have hla : acc.length < 9 := by omega
      have HKA := Lib.hid hka
      clear hB hc eN e1 hka
      go_wp2_with (at_builtin; refine wpList_append_own _ rfl _ _ 71 rfl w.heap.size 5 i0 (.int .u8 0) 1 1 Tryd.underlying71 hi hz0 hz1 hz2 rfl (by decide) _ _ _ rfl (hown.alloc _) ⟨wr.heap.size, 0, none⟩ 1 1 [.int .u8 _] rfl rfl (World.news_of_block (MapKept.heap_alloc wr _).1) ?c2 ?c3 ?c4 ?c5 ?_)
      case c2 => intro u hu; simp at hu; subst hu; rfl
      case c3 => unfold maxLen; omega
      case c4 => omega
      case c5 => simp; omega
      intro v' wn hown' hgrow _
      have hbn : Below w.heap.size w wn := (hb.alloc hbs _).grown hgrow (by simp; omega) (fun g hg => (hown.lt _ hg).1)
      have hlen : (acc ++ [c]).length = acc.length + 1 := by simp
      have hown2 : wn.ownsRow w.heap.size 5 1 v' (acc ++ [c]).length (cellsOf (acc ++ [c])) := by
        rw [hlen]
        have e : cellsOf (acc ++ [c]) = cellsOf acc ++ [.int .u8 (c.toNat : Int)] := by simp only [cellsOf, List.map_append, List.map_cons, List.map_nil]
        rw [e]; exact hown'
      have HL := Lib.hid hlen
      clear hown' hgrow hown hlen e3
      go_wp2
      go_roundw
      case rel => exact ⟨k, acc ++ [c], by omega, Lib.hid (by rw [HL.out]; have := HKA.out; omega), by go_num, hown2, Lib.hid (by rw [hU.out, HB.out]; simp), hbn⟩
      case measure => simp [intOf]

set_option maxHeartbeats 1600000 in
set_option maxRecDepth 100000 in
theorem refBehind_calls (s : ByteArray) (w : World) (hs : s.size ≤ 10000) : Calls Tryd.prog 25 #[.string s] w fun e w' => e = .returned (.string (bs (behindL s.data.toList))) ∧ Below w.heap.size w w' := by
  go_enter Tryd.func25, Tryd.ntmps25
  go_wp2
  go_loopw [3] (fun iv wr => ∃ k : Nat, k ≤ s.size ∧ iv = .int .i64 (k : Int) ∧ Hid (behindL s.data.toList = behindR (s.data.toList.take k).reverse) ∧ Below w.heap.size w wr) (fun iv _ => (intOf iv).toNat)
  case atStart => exact ⟨s.size, Nat.le_refl _, rfl, (by show _ = _; rw [List.take_of_length_le (by rw [size_list]; exact Nat.le_refl _)]; rfl), Below.refl _ _⟩
  case round =>
    obtain ⟨k, hk, rfl, hB, hb⟩ := hrel
    cases k with
    | zero =>
      go_wp2
      go_ret
      refine ⟨?_, hb⟩
      rw [hB.out]; rfl
    | succ k =>
      have hkl : k < s.data.toList.length := by rw [size_list]; omega
      have hk2 : k < s.size := by omega
      have e1 : ((k + 1 : Nat) : Int) = (k : Int) + 1 := by omega
      rw [e1]
      have hw1 : IntKind.i64.wrap ((k : Int) + 1 - 1) = (k : Int) := by rw [show (k : Int) + 1 - 1 = (k : Int) by omega]; exact IntWalk.i64_in _ (by omega)
      have hw2 : IntKind.i64.wrap (k : Int) = (k : Int) := IntWalk.i64_in _ (by omega)
      have hp : (0 : Int) < (k : Int) + 1 := by omega
      have hz : ((k : Int) + 1 == 0) = false := by rw [beq_eq_false_iff_ne]; omega
      have hst := behind_end s.data.toList k hkl
      have hck : s.data.toList[k] = s[k] := rfl
      rw [hck] at hst
      have hc8 := s[k].toNat_lt
      by_cases hc : s[k].toNat < 255
      · have hcB : ((s[k].toNat : Int) == 255) = false := by rw [beq_eq_false_iff_ne]; omega
        have hcw : IntKind.u8.wrap ((s[k].toNat : Int) + 1) = (s[k].toNat : Int) + 1 := IntWalk.u8_in _ (by omega)
        have hadd : (s[k].toNat : Int) + 1 = ((s[k] + 1).toNat : Int) := by
          rw [UInt8.toNat_add]
          have : (1 : UInt8).toNat = 1 := rfl
          rw [this]
          omega
        have hcv := fun W => conv_one W ((s[k].toNat : Int) + 1) (s[k] + 1) hadd 5
        have hcv2 := fun W => conv_one_drew W ((s[k].toNat : Int) + 1) (s[k] + 1) hadd 5
        rw [if_neg (by intro e; rw [e] at hc; exact absurd hc (by decide))] at hst
        have HST := Lib.hid hst
        have hk3 : (k : Int) ≤ (s.size : Int) := by omega
        have hk4 : (0 : Int) ≤ (k : Int) := by omega
        have hsz : ¬ 9223372036854775807 < min k s.size + (bs [s[k] + 1]).size := by
          have h1 : (bs [s[k] + 1]).size = 1 := rfl
          rw [h1]; omega
        clear hst hadd hck e1
        go_wp2
        go_region
        go_wp2
        go_ret
        refine ⟨?_, below_drew (below_alloc hb _)⟩
        rw [hB.out, HST.out, str_take, bs_append]
        rfl
      · have hcB : ((s[k].toNat : Int) == 255) = true := by rw [beq_iff_eq]; omega
        have h255 : s[k] = 255 := UInt8.toNat_inj.1 (by show _ = 255; omega)
        rw [if_pos h255] at hst
        have HST := Lib.hid hst
        clear hst hck e1 h255
        go_wp2
        go_roundw
        case rel => exact ⟨k, by omega, by go_num, (by show _ = _; rw [hB.out, HST.out]), hb⟩
        case measure => simp [intOf]

end Go.Proofs.YtaeiahkomdpcoaaDoor.Name
