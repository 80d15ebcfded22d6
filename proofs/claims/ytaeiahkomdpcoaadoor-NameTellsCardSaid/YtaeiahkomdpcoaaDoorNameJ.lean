/- The walks of package name's Behind, of hoardlaw13's long and works. -/
import Derived.Test.YtaeiahkomdpcoaaDoorNameI
namespace Go.Proofs.YtaeiahkomdpcoaaDoor.Name
open Go.RowKit Go.Shelf

/-- What is behind all that begins with these bytes (the bytes from the end on). -/
def behindR : Bs → Bs
  | [] => []
  | c :: r => if c = 255 then behindR r else r.reverse ++ [c + 1]
def behindL (l : Bs) : Bs := behindR l.reverse
theorem behind_end (s : Bs) (k : Nat) (h : k < s.length) : behindR (s.take (k + 1)).reverse = if s[k] = 255 then behindR (s.take k).reverse else s.take k ++ [s[k] + 1] := by
  rw [List.take_succ_eq_append_getElem h, List.reverse_append]
  simp only [List.reverse_cons, List.reverse_nil, List.nil_append, List.singleton_append, behindR, List.reverse_reverse]

theorem conv_one_drew (w : World) (n : Int) (c : UInt8) (hn : n = (c.toNat : Int)) (t : TypeId) :
    (convert 71 9 (.slice (some ⟨w.heap.size, 0, none⟩) 1 1)).run Tryd.prog (w.alloc (.cells #[.int .u8 n] t)).drew = .ok (.string (bs [c])) (w.alloc (.cells #[.int .u8 n] t)).drew := by
  subst hn
  have h : RowAt (w.alloc (.cells #[.int .u8 (c.toNat : Int)] t)) w.heap.size [c] := by
    intro i d hd
    cases i with
    | zero =>
      simp at hd; subst hd
      exact ⟨by simp, by simp⟩
    | succ i => simp at hd
  exact conv_row _ _ [c] 1 1 rfl h.drew

set_option maxHeartbeats 1600000 in
set_option maxRecDepth 100000 in
theorem behind_calls (s : ByteArray) (w : World) (hs : s.size ≤ 10000) : Calls Tryd.prog 13 #[.string s] w fun e w' => e = .returned (.string (bs (behindL s.data.toList))) ∧ Below w.heap.size w w' := by
  have hw0 : IntKind.i64.wrap ((s.size : Int) - 1) = (s.size : Int) - 1 := IntWalk.i64_in _ (by omega)
  go_enter Tryd.func13, Tryd.ntmps13
  go_wp2
  go_loopw [3] (fun iv wr => ∃ k : Nat, k ≤ s.size ∧ iv = .int .i64 ((k : Int) - 1) ∧ Hid (behindL s.data.toList = behindR (s.data.toList.take k).reverse) ∧ Below w.heap.size w wr) (fun iv _ => (intOf iv + 1).toNat)
  case atStart => exact ⟨s.size, Nat.le_refl _, rfl, (by show _ = _; rw [List.take_of_length_le (by rw [size_list]; exact Nat.le_refl _)]; rfl), Below.refl _ _⟩
  case round =>
    obtain ⟨k, hk, rfl, hB, hb⟩ := hrel
    cases k with
    | zero =>
      go_wp2
      go_ret
      refine ⟨?_, hb⟩
      rw [hB.out]; rfl
    | succ k =>
      have hkl : k < s.data.toList.length := by rw [size_list]; omega
      have hk2 : k < s.size := by omega
      have e1 : ((k + 1 : Nat) : Int) - 1 = (k : Int) := by omega
      rw [e1]
      have hst := behind_end s.data.toList k hkl
      have hck : s.data.toList[k] = s[k] := rfl
      rw [hck] at hst
      have hc8 := s[k].toNat_lt
      by_cases hc : s[k].toNat < 255
      · have hcB : decide ((s[k].toNat : Int) < 255) = true := by rw [decide_eq_true_iff]; omega
        have hcw : IntKind.u8.wrap ((s[k].toNat : Int) + 1) = (s[k].toNat : Int) + 1 := IntWalk.u8_in _ (by omega)
        have hadd : (s[k].toNat : Int) + 1 = ((s[k] + 1).toNat : Int) := by
          rw [UInt8.toNat_add]
          have : (1 : UInt8).toNat = 1 := rfl
          rw [this]
          omega
        have hcv := fun W => conv_one W ((s[k].toNat : Int) + 1) (s[k] + 1) hadd 5
        have hcv2 := fun W => conv_one_drew W ((s[k].toNat : Int) + 1) (s[k] + 1) hadd 5
        rw [if_neg (by intro e; rw [e] at hc; exact absurd hc (by decide))] at hst
        have HST := Lib.hid hst
        have hk3 : (k : Int) ≤ (s.size : Int) := by omega
        have hk4 : (0 : Int) ≤ (k : Int) := by omega
        have hsz : ¬ 9223372036854775807 < min k s.size + (bs [s[k] + 1]).size := by
          have h1 : (bs [s[k] + 1]).size = 1 := rfl
          rw [h1]; omega
        clear hst hadd hck e1
        go_wp2
        go_region
        go_wp2
        go_ret
        refine ⟨?_, below_drew (below_alloc hb _)⟩
        rw [hB.out, HST.out, str_take, bs_append]
        rfl
      · have hcB : decide ((s[k].toNat : Int) < 255) = false := by rw [decide_eq_false_iff_not]; omega
        have h255 : s[k] = 255 := UInt8.toNat_inj.1 (by show _ = 255; omega)
        rw [if_pos h255] at hst
        have HST := Lib.hid hst
        clear hst hck e1 h255
        go_wp2
        go_roundw
        case rel => exact ⟨k, by omega, by go_num, (by show _ = _; rw [hB.out, HST.out]), hb⟩
        case measure => simp [intOf]

/-- A list of texts at an address, nil let in. -/
def ListAt (w : World) (A : Option Addr) (vs : List Value) : Prop := 0 < vs.length → ∃ ad, A = some ad ∧ ad.block < w.heap.size ∧ ∀ i v, vs[i]? = some v → w.cell? (ad.add i) = some v
theorem listAt_lit (w : World) (vs : List Value) (t : TypeId) : ListAt (w.alloc (.cells vs.toArray t)) (some ⟨w.heap.size, 0, none⟩) vs := fun _ => by
  refine ⟨_, rfl, by simp, fun i v hv => ?_⟩
  have hb := (MapKept.heap_alloc w (.cells vs.toArray t)).1
  have e : (⟨w.heap.size, 0, none⟩ : Addr).add i = ⟨w.heap.size, i, none⟩ := by unfold Addr.add; split <;> simp_all
  rw [e, Joins.cell_of_block hb]
  simpa using hv

def LongR (t : List ByteArray) (w : World) (e : Ending) (w' : World) : Prop := ∃ b, e = .returned (.bool b) ∧ (b = false → ∀ s ∈ t, s.size ≤ 2048) ∧ w' = w

set_option maxHeartbeats 1600000 in
set_option maxRecDepth 100000 in
theorem long_calls (A : Option Addr) (c : Nat) (t : List ByteArray) (w : World) (h : ListAt w A (t.map .string)) (hn : t.length ≤ 1000) (hz : ∀ s ∈ t, s.size ≤ 9223372036854775807) :
    Calls Tryd.prog 9 #[.slice A t.length c] w (LongR t w) := by
  go_enter Tryd.func9, Tryd.ntmps9
  go_wp2
  go_loop [3, 4] (fun nv iv => ∃ k n : Nat, k ≤ t.length ∧ n ≤ 2048 * k ∧ nv = .int .i64 n ∧ iv = .int .i64 k ∧ Hid (∀ s ∈ t.take k, s.size ≤ 2048)) (fun _ iv => t.length - (intOf iv).toNat)
  case atStart => exact ⟨0, 0, by omega, by omega, rfl, rfl, Lib.hid (by simp)⟩
  case round =>
    obtain ⟨k, n, hk, hnn, rfl, rfl, hall⟩ := hrel
    by_cases hlt : k < t.length
    · obtain ⟨ad, rfl, _, hc⟩ := h (by rw [List.length_map]; omega)
      have hcx : w.cell? (ad.add k) = some (.string t[k]) := hc k _ (by simp [hlt])
      have hst := hz t[k] (List.getElem_mem hlt)
      have HN := Lib.hid (List.take_succ_eq_append_getElem hlt)
      obtain ⟨x, hxe⟩ : ∃ x, x = t[k] := ⟨_, rfl⟩
      rw [← hxe] at hcx hst HN
      clear hxe hc
      by_cases hx4 : 2048 < x.size
      · go_wp2
        go_ret
        exact ⟨true, rfl, by simp, rfl⟩
      · go_wp2
        go_round
        case rel =>
          refine ⟨k + 1, n + x.size, by omega, by omega, by go_num, by go_num, Lib.hid (fun s hs => ?_)⟩
          rw [HN.out, List.mem_append] at hs
          rcases hs with hs | hs
          · exact hall.out s hs
          · simp at hs; subst hs; omega
        case measure => simp [intOf]; omega
    · obtain rfl : k = t.length := by omega
      rw [List.take_length] at hall
      go_wp2
      go_ret
      exact ⟨_, rfl, fun _ => hall.out, rfl⟩

end Go.Proofs.YtaeiahkomdpcoaaDoor.Name
