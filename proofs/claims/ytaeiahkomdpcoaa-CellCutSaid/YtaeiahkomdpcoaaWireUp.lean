/- The walks of num.Up, num.Down, num.Size and of the document's answers for them: each function once. -/
import Derived.Test.YtaeiahkomdpcoaaKit
import Derived.Test.YtaeiahkomdpcoaaNumPlain
import Derived.Deep.LoopGhost
import Derived.Deep.Light
namespace Go.Proofs.Ytaeiahkomdpcoaa.Num
open Go.RowKit

def bs (l : List UInt8) : ByteArray := ⟨l.toArray⟩


def u8s (l : List UInt8) : Array Value := (l.map fun c => Value.int .u8 (c.toNat : Int)).toArray
def upRow (x j k : Nat) : List UInt8 := List.replicate (j + 1) 0 ++ (low k x).reverse

theorem u8s_get (l : List UInt8) (i : Nat) (c : UInt8) (h : l[i]? = some c) : (u8s l)[i]? = some (.int .u8 (c.toNat : Int)) := by simp [u8s, h]
theorem u8s_set (l : List UInt8) (i : Nat) (c : UInt8) : (u8s l).setIfInBounds i (.int .u8 (c.toNat : Int)) = u8s (l.set i c) := by
  unfold u8s; rw [List.setIfInBounds_toArray, List.map_set]

theorem set_replicate (n : Nat) (c : UInt8) (r : List UInt8) : (List.replicate (n + 1) (0 : UInt8) ++ r).set n c = List.replicate n 0 ++ c :: r := by
  induction n with
  | zero => rfl
  | succ n ih => rw [List.replicate_succ, List.cons_append, List.set_cons_succ, ih, List.replicate_succ, List.cons_append]

theorem up_last (x j k : Nat) (hjk : j + k = 8) (hz : 0 = x / 256 ^ k) (hp : ∀ i, i < k → x / 256 ^ i ≠ 0) :
    (u8s (upRow x j k)).setIfInBounds j (.int .u8 (9 - ((j : Int) + 1))) = u8s (List.replicate j 0 ++ up x) := by
  have e : (9 - ((j : Int) + 1)) = ((UInt8.ofNat k).toNat : Int) := by simp [UInt8.toNat_ofNat']; omega
  rw [e, u8s_set]
  unfold upRow
  rw [set_replicate]
  congr 2
  unfold up
  rw [digs_len_eq k x (by omega) hz.symm hp, digs_eq k x (by omega) hz.symm hp]

theorem up_next (x j k : Nat) (hj : 1 ≤ j) : (u8s (upRow x j k)).setIfInBounds j (.int .u8 (((x / 256 ^ k : Nat) : Int) % 256)) = u8s (upRow x (j - 1) (k + 1)) := by
  have e : (((x / 256 ^ k : Nat) : Int) % 256) = ((UInt8.ofNat (x / 256 ^ k % 256)).toNat : Int) := by simp [UInt8.toNat_ofNat']
  rw [e, u8s_set]
  unfold upRow
  rw [set_replicate, low_succ, List.reverse_append]
  obtain ⟨m, rfl⟩ : ∃ m, j = m + 1 := ⟨j - 1, by omega⟩
  simp

theorem bytes_row (w : World) (t : TypeId) (pre l : List UInt8) : Lib.Bytes (w.alloc (.cells (u8s (pre ++ l)) t)) w.heap.size pre.length (bs l) := by
  intro i hi
  have hl : i < l.length := by simpa [bs, ByteArray.size] using hi
  rw [World.cell?_alloc_new]
  have e : (pre ++ l)[pre.length + i]? = some l[i] := by
    rw [List.getElem?_append_right (by omega)]; simp [hl]
  rw [u8s_get _ _ _ e]
  rfl

theorem bs_size (l : List UInt8) : (bs l).size = l.length := by simp [bs, ByteArray.size]

theorem slice_nine (W : World) (B j : Nat) (hj : j ≤ 8) : (Instr.sliceAt 78 (.pointer (some ⟨B, 0, none⟩)) (some (.int .i64 (j : Int))) none none).run Try.prog W = .ok (.slice (some ⟨B, j, none⟩) (9 - j) (9 - j)) W := by
  have h1 : Try.prog.arrayLen 78 = 9 := by kernel_rfl
  have h2 : (Go.sizeOf (Try.prog.elem 78)).run Try.prog W = .ok 1 W := by kernel_rfl
  rw [run_sliceAt_array_l W 78 ⟨B, 0, none⟩ (by kernel_rfl) .i64 j (by omega) (by rw [h1]; omega), h1, h2]
  have hne : ¬ 9 = j := by omega
  by_cases h0 : j = 0
  · subst h0; simp [Result.andThen, slicedAt, Addr.add]
  · simp [Result.andThen, slicedAt, Addr.add, hne, h0]

theorem conv_up (w : World) (x j k : Nat) (hjk : j + k = 8) (hz : 0 = x / 256 ^ k) (hp : ∀ i, i < k → x / 256 ^ i ≠ 0) :
    (convert 59 9 (.slice (some ⟨w.heap.size, j, none⟩) (9 - j) (9 - j))).run Try.prog (w.alloc (.cells ((u8s (upRow x j k)).setIfInBounds j (.int .u8 (9 - ((j : Int) + 1)))) 78)) =
      .ok (.string (bs (up x))) (w.alloc (.cells ((u8s (upRow x j k)).setIfInBounds j (.int .u8 (9 - ((j : Int) + 1)))) 78)) := by
  rw [up_last x j k hjk hz hp]
  have hb := bytes_row w 78 (List.replicate j 0) (up x)
  rw [List.length_replicate] at hb
  have hs : 9 - j = (bs (up x)).size := by
    rw [bs_size, up_length, digs_len_eq k x (by omega) hz.symm hp]; omega
  have h := Lib.run_convert_whole (P := Try.prog) _ 59 5 9 Try.underlying59 Try.underlying5 Try.underlying9 _ _ _ hb (9 - j)
  rw [← hs] at h
  exact h

set_option maxHeartbeats 1600000 in
set_option maxRecDepth 100000 in
theorem up_calls (x : Nat) (w : World) (hx : Hid (x < 18446744073709551616)) :
    Calls Try.prog 30 #[.int .u64 (x : Int)] w fun e w' => e = .returned (.string (bs (up x))) ∧ Below w.heap.size w w' := by
  go_enter Try.func30, Try.ntmps30
  go_wp2
  go_step3
  go_wp2
  go_step3
  go_wp2
  go_loopw [0, 4] (fun xv av wr => ∃ j k : Nat, j + k = 8 ∧ xv = .int .u64 ((x / 256 ^ k : Nat) : Int) ∧ av = .int .i64 ((j : Int) + 1) ∧ wr = w.alloc (.cells (u8s (upRow x j k)) 78) ∧ Hid (∀ i, i < k → x / 256 ^ i ≠ 0)) (fun _ av _ => (intOf av).toNat)
  case atStart => exact ⟨8, 0, by omega, by simp, rfl, rfl, fun i hi => by omega⟩
  case round =>
    obtain ⟨j, k, hjk, rfl, rfl, rfl, hp⟩ := hrel
    obtain ⟨y, hy⟩ : ∃ y, y = x / 256 ^ k := ⟨_, rfl⟩
    rw [← hy]
    have HY := Lib.hid hy
    have HJ := Lib.hid hjk
    have hj8 : j ≤ 8 := by omega
    clear hy hjk
    have hg : (u8s (upRow x j k))[j]? = some (.int .u8 0) := u8s_get _ _ 0 (by simp [upRow, List.getElem?_append])
    by_cases h0 : y = 0
    · subst h0
      have hsl := fun W => slice_nine W w.heap.size j hj8
      have hcv := conv_up w x j k HJ.out HY.out hp.out
      go_wp2
      rw [Exit.noGoto_ret]
      go_ret
      exact ⟨rfl, below_one _ _⟩
    · have hj1 : 1 ≤ j := by
        rcases Nat.eq_zero_or_pos j with hj | hj
        · exfalso
          have h8 : k = 8 := by have := HJ.out; omega
          apply h0
          rw [HY.out, h8]
          exact pow8_zero x hx.out
        · exact hj
      go_wp2
      go_roundw
      case rel =>
        refine ⟨j - 1, k + 1, by have := HJ.out; omega, ?_, by congr 1; omega, ?_, ?_⟩
        · rw [HY.out, Nat.pow_succ, ← Nat.div_div_eq_div_mul]; congr 1
        · rw [HY.out, up_next x j k hj1]
        · intro i hi
          rcases Nat.lt_or_ge i k with h | h
          · exact hp.out i h
          · obtain rfl : i = k := by omega
            rw [← HY.out]; exact h0
      case measure => simp [intOf]

def RowAt (w : World) (B : Nat) (l : List UInt8) : Prop := ∀ i c, l[i]? = some c → w.cell? ⟨B, i, none⟩ = some (.int .u8 (c.toNat : Int)) ∧ w.frozen? ⟨B, i, none⟩ = false

theorem RowAt.set {w : World} {B : Nat} {l : List UInt8} (h : RowAt w B l) (i : Nat) (hi : i < l.length) (c : UInt8) : RowAt (w.setCell ⟨B, i, none⟩ (.int .u8 (c.toNat : Int))) B (l.set i c) := by
  intro j d hd
  by_cases hij : i = j
  · subst hij
    have hd' : d = c := by rw [List.getElem?_set_self hi] at hd; exact (Option.some.inj hd).symm
    subst hd'
    obtain ⟨h1, h2⟩ := h i _ (List.getElem?_eq_getElem hi)
    exact ⟨World.cell?_setCell_same _ _ _ h1, by rw [World.frozen?_setCell]; exact h2⟩
  · rw [List.getElem?_set_ne hij] at hd
    obtain ⟨h1, h2⟩ := h j d hd
    refine ⟨?_, by rw [World.frozen?_setCell]; exact h2⟩
    rw [World.cell?_setCell_other]
    · exact h1
    · intro e; injection e with _ e2 _; exact hij e2

theorem RowAt.bytes {w : World} {B : Nat} {l : List UInt8} (h : RowAt w B l) : Lib.Bytes w B 0 (bs l) := by
  intro i hi
  have hl : i < l.length := by rw [bs_size] at hi; exact hi
  rw [Nat.zero_add, (h i _ (List.getElem?_eq_getElem hl)).1]
  rfl

theorem bytesWorld_row (w : World) (e : TypeId) (s : ByteArray) : RowAt (Lib.bytesWorld w e s) w.heap.size s.data.toList := by
  intro i c hc
  have hi : i < s.data.toList.length := by
    rcases Nat.lt_or_ge i s.data.toList.length with h | h
    · exact h
    · rw [List.getElem?_eq_none h] at hc; cases hc
  have hs : i < s.size := by
    have e : s.data.toList.length = s.size := by simp
    omega
  refine ⟨?_, ?_⟩
  · rw [Lib.bytesWorld_cell w e s i hs]
    simp [List.getD, hc]
  · have hsz : s.size ≤ (Lib.bytesCells w e s).size := by simp [Lib.bytesCells]
    simp [World.frozen?, Lib.bytesWorld_at_new]
    omega

theorem bytesWorld_below (w : World) (e : TypeId) (s : ByteArray) : Below w.heap.size w (Lib.bytesWorld w e s) :=
  ⟨rfl, rfl, rfl, by rw [Lib.bytesWorld_size]; omega, fun k hk => Lib.bytesWorld_at_old w e s k hk⟩

theorem size_list (s : ByteArray) : s.data.toList.length = s.size := by simp

theorem bs_append (a b : List UInt8) : bs a ++ bs b = bs (a ++ b) := by
  apply ByteArray.ext
  apply Array.toList_inj.1
  simp [bs]

theorem conv_one (w : World) (n : Int) (c : UInt8) (hn : n = (c.toNat : Int)) (t : TypeId) :
    (convert 59 9 (.slice (some ⟨w.heap.size, 0, none⟩) 1 1)).run Try.prog (w.alloc (.cells #[.int .u8 n] t)) = .ok (.string (bs [c])) (w.alloc (.cells #[.int .u8 n] t)) := by
  subst hn
  have h := bytes_row w t [] [c]
  exact Lib.run_convert_whole (P := Try.prog) _ 59 5 9 Try.underlying59 Try.underlying5 Try.underlying9 _ 0 (bs [c]) h 1

set_option maxHeartbeats 1600000 in
set_option maxRecDepth 100000 in
theorem digits_calls (x : Nat) (w : World) (hx : Hid (x < 18446744073709551616)) :
    Calls Try.prog 46 #[.int .u64 (x : Int)] w fun e w' => e = .returned (.string (bs (digs x))) ∧ Below w.heap.size w w' := by
  go_enter Try.func46, Try.ntmps46
  go_wp2
  go_loopw [0, 3] (fun xv sv wr => ∃ k : Nat, k ≤ 8 ∧ xv = .int .u64 ((x / 256 ^ k : Nat) : Int) ∧ sv = .string (bs (low k x).reverse) ∧ Hid (∀ i, i < k → x / 256 ^ i ≠ 0) ∧ Below w.heap.size w wr) (fun xv _ _ => (intOf xv).toNat)
  case atStart => exact ⟨0, by omega, by simp, rfl, fun i hi => by omega, Below.refl _ _⟩
  case round =>
    obtain ⟨k, hk, rfl, rfl, hp, hbr⟩ := hrel
    obtain ⟨y, hy⟩ : ∃ y, y = x / 256 ^ k := ⟨_, rfl⟩
    obtain ⟨t, ht⟩ : ∃ t, t = bs (low k x).reverse := ⟨_, rfl⟩
    rw [← hy, ← ht]
    have hts : t.size ≤ 8 := by rw [ht, bs_size, List.length_reverse, low_length]; exact hk
    have HY := Lib.hid hy
    have HT := Lib.hid ht
    clear hy ht
    by_cases h0 : y = 0
    · subst h0
      go_wp2
      go_ret
      refine ⟨ret_str ?_, hbr⟩
      rw [HT.out, digs_eq k x hk HY.out.symm hp.out]
    · have hcv := conv_one wr ((y : Int) % 256) (UInt8.ofNat (y % 256)) (by simp [UInt8.toNat_ofNat']) 5
      have hsz : ¬ 9223372036854775807 < (bs [UInt8.ofNat (y % 256)]).size + t.size := by rw [bs_size]; simp; omega
      have hq : IntKind.u64.wrap ((y : Int) / 256) = (y : Int) / 256 := IntWalk.u64_in _ (by
        have h1 : y ≤ x := by rw [HY.out]; exact Nat.div_le_self _ _
        have h2 := hx.out
        omega)
      have hk8 : k < 8 := by
        rcases Nat.lt_or_ge k 8 with h | h
        · exact h
        · exfalso
          obtain rfl : k = 8 := by omega
          exact h0 (by rw [HY.out]; exact pow8_zero x hx.out)
      go_wp2
      go_roundw
      case rel =>
        refine ⟨k + 1, by omega, ?_, ?_, ?_, below_alloc hbr _⟩
        · rw [HY.out, Nat.pow_succ, ← Nat.div_div_eq_div_mul]; congr 1
        · rw [HT.out, low_succ, List.reverse_append, ← HY.out, bs_append]; rfl
        · intro i hi
          rcases Nat.lt_or_ge i k with h | h
          · exact hp.out i h
          · obtain rfl : i = k := by omega
            rw [← HY.out]; exact h0
      case measure => simp [intOf]; omega


set_option maxHeartbeats 1600000 in
set_option maxRecDepth 100000 in
theorem refUp_calls (x : Nat) (w : World) (hx : Hid (x < 18446744073709551616)) :
    Calls Try.prog 28 #[.int .u64 (x : Int)] w fun e w' => e = .returned (.string (bs (up x))) ∧ Below w.heap.size w w' := by
  have hd := digs_length_le x
  have hl : (bs (digs x)).size = (digs x).length := bs_size _
  obtain ⟨t, ht⟩ : ∃ t, t = bs (digs x) := ⟨_, rfl⟩
  have hts : t.size ≤ 8 := by rw [ht, hl]; exact hd
  have hcv := fun W => conv_one W (t.size : Int) (UInt8.ofNat t.size) (by simp [UInt8.toNat_ofNat']; omega) 5
  have hsz : ¬ 9223372036854775807 < (bs [UInt8.ofNat t.size]).size + t.size := by rw [bs_size]; simp; omega
  have HT := Lib.hid ht
  clear hl ht hd
  go_enter Try.func28, Try.ntmps28
  go_wp2_with (go_at_call 46; refine (digits_calls x _ hx).mono ?_; rintro e w1 ⟨rfl, hb⟩; rw [← HT.out])
  go_ret
  refine ⟨ret_str ?_, below_alloc hb _⟩
  rw [HT.out, bs_append, bs_size]
  rfl

end Go.Proofs.Ytaeiahkomdpcoaa.Num
