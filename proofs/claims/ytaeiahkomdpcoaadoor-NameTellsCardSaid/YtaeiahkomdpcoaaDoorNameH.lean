/- The walk of package name's unname. -/
import Derived.Test.YtaeiahkomdpcoaaDoorNameG
import Derived.WalkMore
import Derived.Deep.RegionHeld3
namespace Go.Proofs.YtaeiahkomdpcoaaDoor.Name
open Go.RowKit Go.Shelf

def unV : Option (Bs × Bs) → Value
  | some p => .tuple #[.string (bs p.1), .string (bs p.2), .bool true]
  | none => .tuple #[.string ⟨#[]⟩, .string ⟨#[]⟩, .bool false]
def cellsOf (l : Bs) : List Value := l.map fun c => .int .u8 (c.toNat : Int)

theorem own_row {w : World} {B : Nat} {v : Value} {acc : Bs} (h : w.ownsRow B 5 1 v acc.length (cellsOf acc)) (hne : acc ≠ []) : ∃ g cap, v = .slice (some ⟨g, 0, none⟩) acc.length cap ∧ acc.length ≤ cap ∧ RowAt w g acc := by
  rcases h.2 with ⟨_, h0⟩ | ⟨g, cap, cur, rfl, hB, hg, hc, hm, hs, ht⟩
  · exact absurd (List.length_eq_zero_iff.1 h0) hne
  · refine ⟨g, cap, rfl, hc, fun i c hi => ⟨?_, Lib.frozen_of_heap hg i⟩⟩
    have := h.cells (g := g) rfl i (.int .u8 (c.toNat : Int)) (by simp [cellsOf, hi])
    have e : (⟨g, 0, none⟩ : Addr).add i = ⟨g, i, none⟩ := by unfold Addr.add; split <;> simp_all
    rwa [e] at this
theorem RowAt.take {w : World} {B : Nat} {l : Bs} (h : RowAt w B l) (k : Nat) : RowAt w B (l.take k) := fun i c hi => by
  rw [List.getElem?_take] at hi
  split at hi
  · exact h i c hi
  · cases hi
theorem RowAt.drew {w : World} {B : Nat} {l : Bs} (h : RowAt w B l) : RowAt w.drew B l := h

theorem str_drop (s : ByteArray) (n : Nat) : s.extract n s.size = bs (s.data.toList.drop n) := by
  apply ByteArray.ext
  apply Array.toList_inj.1
  rw [Lib.extract_data]
  show (s.data.toList.drop n).take (s.size - n) = s.data.toList.drop n
  rw [List.take_of_length_le]
  rw [List.length_drop, size_list]; exact Nat.le_refl _
theorem str_take (s : ByteArray) (n : Nat) : s.extract 0 n = bs (s.data.toList.take n) := by
  apply ByteArray.ext
  apply Array.toList_inj.1
  rw [Lib.extract_data]
  rfl

theorem un_step (s : Bs) (k : Nat) (h : k + 1 < s.length) : un (s.drop k) = if s[k] ≠ 0 then (un (s.drop (k + 1))).map fun p => (s[k] :: p.1, p.2) else if s[k + 1] = 255 then (un (s.drop (k + 2))).map fun p => (0 :: p.1, p.2) else if s[k + 1] = 1 then some ([], s.drop (k + 2)) else none := by
  rw [List.drop_eq_getElem_cons (show k < s.length by omega), List.drop_eq_getElem_cons h, un]
theorem un_end (s : Bs) (k : Nat) (h : s.length ≤ k + 1) : un (s.drop k) = none := by
  rcases Nat.lt_or_ge k s.length with h1 | h1
  · rw [List.drop_eq_getElem_cons h1, List.drop_eq_nil_of_le (by omega)]; rfl
  · rw [List.drop_eq_nil_of_le h1]; rfl

def withP (acc : Bs) (o : Option (Bs × Bs)) : Option (Bs × Bs) := o.map fun p => (acc ++ p.1, p.2)

set_option maxHeartbeats 3200000 in
set_option maxRecDepth 100000 in
theorem unname_calls (s : ByteArray) (w : World) (hs : s.size ≤ 10000) : Calls Tryd.prog 39 #[.string s] w fun e w' => e = .returned (unV (un s.data.toList)) ∧ Below w.heap.size w w' := by
  obtain ⟨i0, hi, hz0, hz1, hz2⟩ := info_parts infoByte
  go_enter Tryd.func39, Tryd.ntmps39
  go_wp2
  go_step3
  go_wp2
  go_step3
  go_wp2
  go_loopw [5, 6] (fun v iv wr => ∃ (k : Nat) (acc : Bs), k ≤ s.size ∧ acc.length ≤ k ∧ iv = .int .i64 k ∧ wr.ownsRow w.heap.size 5 1 v acc.length (cellsOf acc) ∧ Hid (un s.data.toList = withP acc (un (s.data.toList.drop k))) ∧ Below w.heap.size w wr) (fun _ iv _ => s.size - (intOf iv).toNat)
  case atStart => exact ⟨0, [], by omega, by simp, rfl, World.ownsRow_nil _ _ _ _, (by show _ = _; simp [withP]), Below.refl _ _⟩
  case round =>
    obtain ⟨k, acc, hk, hacc, rfl, hown, hU, hb⟩ := hrel
    by_cases hlt : k + 1 < s.size
    · have hlt1 : k < s.size := by omega
      have hst := un_step s.data.toList k (by rw [size_list]; exact hlt)
      obtain ⟨c, hc⟩ : ∃ c, c = s[k].toNat := ⟨_, rfl⟩
      obtain ⟨d, hd⟩ : ∃ d, d = s[k + 1].toNat := ⟨_, rfl⟩
      have hck : s.data.toList[k]'(by rw [size_list]; exact hlt1) = UInt8.ofNat c := by rw [hc]; simp; rfl
      have hdk : s.data.toList[k + 1]'(by rw [size_list]; exact hlt) = UInt8.ofNat d := by rw [hd]; simp; rfl
      have hc8 : c < 256 := by rw [hc]; exact s[k].toNat_lt
      have hd8 : d < 256 := by rw [hd]; exact s[k + 1].toNat_lt
      rw [hck, hdk] at hst
      have HST := Lib.hid hst
      have hbs := hb.size
      have hcc : Hid ((.int .u8 (c : Int) : Value) = .int .u8 ((UInt8.ofNat c).toNat : Int)) := by
        show _ = _
        rw [UInt8.toNat_ofNat', Nat.mod_eq_of_lt hc8]
      clear hst hck hdk
      go_wp2_with (at_builtin; refine wpList_append_own _ rfl _ _ 71 rfl w.heap.size 5 i0 (.int .u8 0) 1 1 Tryd.underlying71 hi hz0 hz1 hz2 rfl (by decide) _ _ _ rfl (hown.alloc _) ⟨wr.heap.size, 0, none⟩ 1 1 [.int .u8 (s[k].toNat : Int)] rfl rfl (World.news_of_block (MapKept.heap_alloc wr _).1) ?c2 ?c3 ?c4 ?c5 ?_)
      case c2 => intro u hu; simp at hu; subst hu; rfl
      case c3 => unfold maxLen; omega
      case c4 => omega
      case c5 => simp; omega
      intro v' wn hown' hgrow _
      have hbn : Below w.heap.size w wn := (hb.alloc hbs _).grown hgrow (by simp; omega) (fun g hg => (hown.lt _ hg).1)
      have hlen : (acc ++ [UInt8.ofNat c]).length = acc.length + 1 := by simp
      have hown2 : wn.ownsRow w.heap.size 5 1 v' (acc ++ [UInt8.ofNat c]).length (cellsOf (acc ++ [UInt8.ofNat c])) := by
        rw [hlen]
        have e : cellsOf (acc ++ [UInt8.ofNat c]) = cellsOf acc ++ [.int .u8 (c : Int)] := by simp only [cellsOf, List.map_append, List.map_cons, List.map_nil, hcc.out]
        rw [e, hc]; exact hown'
      clear hown'
      have hC0 : c = 0 → UInt8.ofNat c = 0 := fun e => by rw [e]; rfl
      have hC1 : c ≠ 0 → UInt8.ofNat c ≠ 0 := fun h e => h (by have := congrArg UInt8.toNat e; rw [UInt8.toNat_ofNat', Nat.mod_eq_of_lt hc8] at this; exact this)
      have hD255 : d ≠ 255 → UInt8.ofNat d ≠ 255 := fun h e => h (by have := congrArg UInt8.toNat e; rw [UInt8.toNat_ofNat', Nat.mod_eq_of_lt hd8] at this; exact this)
      have hD1 : d ≠ 1 → UInt8.ofNat d ≠ 1 := fun h e => h (by have := congrArg UInt8.toNat e; rw [UInt8.toNat_ofNat', Nat.mod_eq_of_lt hd8] at this; exact this)
      have HC0 := Lib.hid hC0
      have HC1 := Lib.hid hC1
      have HD255 := Lib.hid hD255
      have HD1 := Lib.hid hD1
      clear hC0 hC1 hD255 hD1 hcc hgrow hown
      by_cases hc0 : c = 0
      · have hcB : ((s[k].toNat : Int) == 0) = true := by rw [← hc, hc0]; rfl
        have hkw : IntKind.i64.wrap ((k : Int) + 1) = (k : Int) + 1 := IntWalk.i64_in _ (by omega)
        have hk2 : ((k : Int) + 1).toNat = k + 1 := by omega
        have hk3 : (0 : Int) ≤ (k : Int) + 1 := by omega
        by_cases hd255 : d = 255
        · have hdB : ((s[k + 1].toNat : Int) == 255) = true := by rw [← hd, hd255]; rfl
          have HU2 := Lib.hid (show un s.data.toList = withP (acc ++ [UInt8.ofNat c]) (un (s.data.toList.drop (k + 2))) by
            rw [hU.out, HST.out, if_neg (by rw [HC0.out hc0]; simp), if_pos (by rw [hd255]; rfl), HC0.out hc0]
            simp [withP, Function.comp_def])
          have HL := Lib.hid hlen
          clear hc hd hlen hc0 hd255
          go_wp2
          go_roundw
          case rel => exact ⟨k + 2, acc ++ [UInt8.ofNat c], by omega, by rw [HL.out]; omega, by go_num, hown2, HU2.out, hbn⟩
          case measure => simp [intOf]; omega
        · have hdB : ((s[k + 1].toNat : Int) == 255) = false := by rw [← hd, beq_eq_false_iff_ne]; omega
          by_cases hd1 : d = 1
          · have hdB1 : ((s[k + 1].toNat : Int) == 1) = true := by rw [← hd, hd1]; rfl
            have HU2 := Lib.hid (show un s.data.toList = some (acc, s.data.toList.drop (k + 2)) by
              rw [hU.out, HST.out, if_neg (by rw [HC0.out hc0]; simp), if_neg (HD255.out hd255), if_pos (by rw [hd1]; rfl)]
              simp [withP])
            obtain ⟨g, cap, rfl, hcap, hrow⟩ := own_row hown2 (by simp)
            rw [hlen] at hcap
            have hrow2 : RowAt wn g acc := by
              have := hrow.take acc.length
              rwa [List.take_left' rfl] at this
            have hcv := conv_row wn g acc acc.length cap rfl hrow2
            have hcv2 := conv_row wn.drew g acc acc.length cap rfl hrow2.drew
            have hl1 : IntKind.i64.wrap ((acc.length : Int) + 1 - 1) = (acc.length : Int) := by rw [show (acc.length : Int) + 1 - 1 = (acc.length : Int) by omega]; exact IntWalk.i64_in _ (by omega)
            have hk4 : IntKind.i64.wrap ((k : Int) + 2) = (k : Int) + 2 := IntWalk.i64_in _ (by omega)
            have hk5 : ((k : Int) + 2).toNat = k + 2 := by omega
            have hk6 : (0 : Int) ≤ (k : Int) + 2 := by omega
            have hk7 : k + 2 ≤ s.size := by omega
            have hk8 : (k : Int) + 2 ≤ (s.size : Int) := by omega
            have hl2 : IntKind.i64.wrap (acc.length : Int) = (acc.length : Int) := IntWalk.i64_in _ (by omega)
            have hl3 : acc.length ≤ cap := by omega
            have hl4 : (0 : Int) ≤ (acc.length : Int) := by omega
            have hl5 : (acc.length : Int) ≤ (cap : Int) := by omega
            have hl6 : acc.length ≤ acc.length + 1 := by omega
            have hn2 : decide ((k : Int) + 2 < 0) = false := by rw [decide_eq_false_iff_not]; omega
            have hn3 : decide (s.size < k + 2) = false := by rw [decide_eq_false_iff_not]; omega
            simp only [hlen]
            clear hc hd hc0 hd255 hd1 hown2 hrow hrow2 hlen
            go_wp2
            go_region_held3 (fun w' => (convert 71 9 (.slice (some ⟨g, 0, none⟩) acc.length cap)).run Tryd.prog w' = .ok (.string (bs acc)) w') (first | exact hcv2) (first | fail)
            all_goals
              go_wp2
              rw [Exit.noGoto_ret]
              go_ret3
              rw [HU2.out]
              refine ⟨?_, below_drew hbn⟩
              rw [str_drop]
              rfl
          · have hdB1 : ((s[k + 1].toNat : Int) == 1) = false := by rw [← hd, beq_eq_false_iff_ne]; omega
            have HU2 := Lib.hid (show un s.data.toList = none by
              rw [hU.out, HST.out, if_neg (by rw [HC0.out hc0]; simp), if_neg (HD255.out hd255), if_neg (HD1.out hd1)]
              rfl)
            clear hc hd hlen hc0 hd255 hd1
            go_wp2
            rw [Exit.noGoto_ret]
            go_ret3
            rw [HU2.out]
            exact ⟨rfl, hbn⟩
      · have hcB : ((s[k].toNat : Int) == 0) = false := by rw [← hc, beq_eq_false_iff_ne]; omega
        have HU2 := Lib.hid (show un s.data.toList = withP (acc ++ [UInt8.ofNat c]) (un (s.data.toList.drop (k + 1))) by
          rw [hU.out, HST.out, if_pos (HC1.out hc0)]
          simp [withP, Function.comp_def])
        have HL := Lib.hid hlen
        clear hc hd hlen hc0
        go_wp2
        go_roundw
        case rel => exact ⟨k + 1, acc ++ [UInt8.ofNat c], by omega, by rw [HL.out]; omega, by go_num, hown2, HU2.out, hbn⟩
        case measure => simp [intOf]; omega
    · have HE := Lib.hid (un_end s.data.toList k (by rw [size_list]; omega))
      go_wp2
      rw [Exit.noGoto_ret]
      go_ret3
      refine ⟨?_, hb⟩
      rw [hU.out, HE.out]
      rfl

end Go.Proofs.YtaeiahkomdpcoaaDoor.Name
