/- The walks of num.Read, num.ReadDown and of the document's answers for them: each function once. -/
import Derived.Test.YtaeiahkomdpcoaaWireUp
namespace Go.Proofs.Ytaeiahkomdpcoaa.Num
open Go.RowKit

abbrev rv (r : Nat × Nat × Nat) : Value := .tuple #[.int .u64 (r.1 : Int), .int .i64 (r.2.1 : Int), .int .i64 (r.2.2 : Int)]

theorem read_eq (l : List UInt8) (h : 0 < l.length) : read l = if 8 < (l.getD 0 0).toNat then (0, 0, 8) else if l.length ≤ (l.getD 0 0).toNat then (0, 0, 10) else if 0 < (l.getD 0 0).toNat ∧ l.getD 1 0 = 0 then (0, 0, 8) else (val ((l.drop 1).take (l.getD 0 0).toNat), (l.getD 0 0).toNat + 1, 0) := by
  cases l with
  | nil => simp at h
  | cons c r =>
    simp only [read, List.getD_cons_zero, List.length_cons, List.drop_succ_cons, List.drop_zero]
    by_cases h1 : 8 < c.toNat
    · rw [if_pos h1, if_pos h1]
    · rw [if_neg h1, if_neg h1]
      by_cases h2 : r.length < c.toNat
      · rw [if_pos h2, if_pos (show r.length + 1 ≤ c.toNat from h2)]
      · rw [if_neg h2, if_neg (show ¬ r.length + 1 ≤ c.toNat from by omega)]
        cases r with
        | nil =>
          have : c.toNat = 0 := by simp at h2; omega
          rw [if_neg (by omega), if_neg (by omega)]
        | cons d t => simp

theorem getD_at (s : ByteArray) (i : Nat) (h : i < s.size) : s.data.toList.getD i 0 = s[i] := by
  rw [List.getD, byte_at s i h]; rfl

theorem not_empty (s : ByteArray) (h : 0 < s.size) : s.toList.isEmpty = false := by
  rw [ByteArray.toList_eq]
  cases hl : s.data.toList with
  | nil => rw [← size_list, hl] at h; simp at h
  | cons c r => rfl

set_option maxHeartbeats 1600000 in
set_option maxRecDepth 100000 in
theorem read_nil (s : ByteArray) (w : World) (h : s.size = 0) :
    Calls Try.prog 34 #[.string s] w fun e w' => e = .returned (rv (read s.data.toList)) ∧ Below w.heap.size w w' := by
  obtain rfl : s = ⟨#[]⟩ := by
    apply ByteArray.ext; exact Array.eq_empty_of_size_eq_zero h
  go_enter Try.func34, Try.ntmps34
  go_wp2
  go_ret3
  exact ⟨rfl, Below.refl _ _⟩

set_option maxHeartbeats 1600000 in
set_option maxRecDepth 100000 in
theorem read_small (s : ByteArray) (w : World) (hs : s.size ≤ 9223372036854775807) (h0 : 0 < s.size) (c : Nat) (hc : s[0].toNat = c) (hc8 : c < 256)
    (hcase : 8 < c ∨ (c ≤ 8 ∧ s.size ≤ c) ∨ (0 < c ∧ c ≤ 8 ∧ c < s.size ∧ ∃ h1 : 1 < s.size, s[1].toNat = 0)) :
    Calls Try.prog 34 #[.string s] w fun e w' => e = .returned (rv (read s.data.toList)) ∧ Below w.heap.size w w' := by
  have hne := not_empty s h0
  have hr : read s.data.toList = (0, 0, if 8 < c then 8 else if s.size ≤ c then 10 else 8) := by
    rw [read_eq _ (by rw [size_list]; exact h0), getD_at s 0 h0, hc, size_list]
    rcases hcase with h | ⟨h1, h2⟩ | ⟨h1, h2, h3, h4, h5⟩
    · simp [h]
    · simp [show ¬ 8 < c from by omega, h2]
    · have e : s.data.toList.getD 1 0 = 0 := by rw [getD_at s 1 h4]; exact UInt8.toNat_inj.1 h5
      rw [e]
      simp [show ¬ 8 < c from by omega, show ¬ s.size ≤ c from by omega, h1]
  rw [hr]
  clear hr
  rcases hcase with h | ⟨h1, h2⟩ | ⟨h1, h2, h3, h4, h5⟩
  all_goals go_enter Try.func34, Try.ntmps34
  all_goals go_wp2
  all_goals go_ret3
  all_goals exact ⟨by simp [rv, *], Below.refl _ _⟩


theorem or_byte (v : Nat) (e : UInt8) (hv : v < 72057594037927936) : bits BinOp.or IntKind.u64 ((v : Int) * 256) (e.toNat : Int) = ((v * 256 + e.toNat : Nat) : Int) := by
  have he := e.toNat_lt
  have h := u64_or_nat (v * 256) e.toNat (by omega) (by omega)
  rw [show ((v : Int) * 256) = ((v * 256 : Nat) : Int) from by omega, h]
  congr 1
  have := Nat.two_pow_add_eq_or_of_lt (i := 8) (b := e.toNat) he v
  rw [show (2 : Nat) ^ 8 * v = v * 256 from by rw [Nat.mul_comm]] at this
  exact this.symm

set_option maxHeartbeats 1600000 in
set_option maxRecDepth 100000 in
theorem read_loop (s : ByteArray) (w : World) (hs : s.size ≤ 9223372036854775807) (h0 : 0 < s.size) (c : Nat) (hc : s[0].toNat = c) (hc8 : c ≤ 8) (hcs : c < s.size)
    (hcase : c = 0 ∨ (0 < c ∧ ∃ (d : Nat) (h1 : 1 < s.size), s[1].toNat = d ∧ 0 < d)) :
    Calls Try.prog 34 #[.string s] w fun e w' => e = .returned (rv (read s.data.toList)) ∧ Below w.heap.size w w' := by
  have hne := not_empty s h0
  obtain ⟨t, ht⟩ : ∃ t, t = s.extract 1 (c + 1) := ⟨_, rfl⟩
  have htd : t.data.toList = (s.data.toList.drop 1).take c := by rw [ht, Lib.extract_data]; rfl
  have hr : read s.data.toList = (val t.data.toList, c + 1, 0) := by
    rw [read_eq _ (by rw [size_list]; exact h0), getD_at s 0 h0, hc, size_list, if_neg (by omega), if_neg (by omega), if_neg, htd]
    rintro ⟨h1, h2⟩
    rcases hcase with h | ⟨_, d, h3, h4, h5⟩
    · omega
    · rw [getD_at s 1 h3] at h2
      rw [h2] at h4
      simp at h4
      omega
  have htl : t.size = c := by rw [← size_list, htd, List.length_take, List.length_drop, size_list]; omega
  rw [hr]
  have hse : ¬ s = ByteArray.empty := by intro h; rw [h] at h0; simp at h0
  have hcb : ∀ W, (convert 9 59 (.string (s.extract 1 (c + 1)))).run Try.prog W = .ok (.slice (some ⟨W.heap.size, 0, none⟩) c (grownCap W t.size 0 5)) (Lib.bytesWorld W 5 t) := fun W => by
    have h := Lib.run_convert_string_bytes (P := Try.prog) W 9 59 5 t Try.underlying9 Try.underlying59 Try.underlying5
    rw [← ht]
    rw [htl] at h ⊢
    exact h
  have hd1 : decide (8 < (c : Int)) = false := by simp; omega
  have hd2 : decide (s.size ≤ c) = false := by simp; omega
  have HR := Lib.hid hr
  have HTD := Lib.hid htd
  have HTL := Lib.hid htl
  have HCS := Lib.hid hcs
  clear hr htd htl ht
  rcases hcase with rfl | ⟨h1, d, h2, h3, h4⟩
  · have hcb0 : ∀ W, (convert 9 59 (.string ByteArray.empty)).run Try.prog W = .ok (.slice (some ⟨W.heap.size, 0, none⟩) 0 (grownCap W t.size 0 5)) (Lib.bytesWorld W 5 t) := fun W => by
      have := hcb W
      rw [show s.extract 1 (0 + 1) = ByteArray.empty from by apply ByteArray.ext; simp] at this
      exact this
    clear hcb
    go_enter Try.func34, Try.ntmps34
    go_wp2
    refine wp_loop_rounds 1 ?_; rw [rounds_succ]
    go_wp2
    go_ret3
    have h0 : t.data.toList = [] := by rw [HTD.out]; rfl
    exact ⟨by rw [h0]; rfl, bytesWorld_below w _ t⟩
  · have hd3 : ((d : Int) == 0) = false := by simp; omega
    have hd4 : decide ((0 : Int) < (c : Int)) = true := by simp; omega
    go_enter Try.func34, Try.ntmps34
    go_wp2
    go_loop [2, 34] (fun xv iv => ∃ k : Nat, k ≤ c ∧ xv = .int .u64 (val (t.data.toList.take k) : Int) ∧ iv = .int .i64 k) (fun _ iv => c - (intOf iv).toNat)
    case atStart => exact ⟨0, by omega, rfl, rfl⟩
    case round =>
      obtain ⟨k, hk, rfl, rfl⟩ := hrel
      by_cases hlt : k < c
      · have hkl : k < t.data.toList.length := by rw [size_list, HTL.out]; exact hlt
        obtain ⟨e, he⟩ : ∃ e, e = t.data.toList[k] := ⟨_, rfl⟩
        obtain ⟨hcell, _⟩ := bytesWorld_row w 5 t k e (by rw [List.getElem?_eq_getElem hkl, he])
        obtain ⟨v, hv⟩ : ∃ v, v = val (t.data.toList.take k) := ⟨_, rfl⟩
        rw [← hv]
        have hvb : v < 72057594037927936 := by
          have h := val_lt (t.data.toList.take k)
          rw [← hv, List.length_take, Nat.min_eq_left (by omega)] at h
          have hp : 256 ^ k ≤ 256 ^ 7 := Nat.pow_le_pow_right (by omega) (by omega)
          have : (256 : Nat) ^ 7 = 72057594037927936 := by decide
          omega
        have he8 := e.toNat_lt
        have HV := Lib.hid hv
        have HE := Lib.hid he
        clear hv he
        go_wp2
        go_round
        case rel => exact ⟨k + 1, by omega, by rw [or_byte v e hvb, List.take_succ_eq_append_getElem hkl, val_snoc, ← HV.out, ← HE.out], by go_num⟩
        case measure => simp [intOf]; omega
      · obtain rfl : k = c := by omega
        go_wp2
        go_ret3
        refine ⟨?_, bytesWorld_below w _ t⟩
        rw [List.take_of_length_le (by rw [size_list, HTL.out]; exact Nat.le_refl _)]
        rfl


theorem read_calls (s : ByteArray) (w : World) (hs : s.size ≤ maxLen) :
    Calls Try.prog 34 #[.string s] w fun e w' => e = .returned (rv (read s.data.toList)) ∧ Below w.heap.size w w' := by
  unfold maxLen at hs
  rcases Nat.eq_zero_or_pos s.size with h | h
  · exact read_nil s w h
  · have h8 : s[0].toNat < 256 := s[0].toNat_lt
    by_cases h1 : 8 < s[0].toNat
    · exact read_small s w hs h _ rfl h8 (Or.inl h1)
    · by_cases h2 : s.size ≤ s[0].toNat
      · exact read_small s w hs h _ rfl h8 (Or.inr (Or.inl ⟨by omega, h2⟩))
      · rcases Nat.eq_zero_or_pos s[0].toNat with h3 | h3
        · exact read_loop s w hs h _ rfl (by omega) (by omega) (Or.inl h3)
        · have h4 : 1 < s.size := by omega
          rcases Nat.eq_zero_or_pos s[1].toNat with h5 | h5
          · exact read_small s w hs h _ rfl h8 (Or.inr (Or.inr ⟨h3, by omega, by omega, h4, h5⟩))
          · exact read_loop s w hs h _ rfl (by omega) (by omega) (Or.inr ⟨h3, _, h4, rfl, h5⟩)

theorem bs_data (l : List UInt8) : (bs l).data.toList = l := rfl

end Go.Proofs.Ytaeiahkomdpcoaa.Num
