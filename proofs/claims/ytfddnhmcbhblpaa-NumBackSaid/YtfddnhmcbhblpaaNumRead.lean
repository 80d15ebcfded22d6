/- The walks of num.Read, num.ReadDown and of the document's answers for them: each function once. -/
import Derived.Test.YtfddnhmcbhblpaaNumUp
namespace Go.Proofs.Ytfddnhmcbhblpaa.Num
open Go.RowKit

abbrev rv (r : Nat × Nat × Nat) : Value := .tuple #[.int .u64 (r.1 : Int), .int .i64 (r.2.1 : Int), .int .i64 (r.2.2 : Int)]

theorem read_eq (l : List UInt8) (h : 0 < l.length) : read l = if 8 < (l.getD 0 0).toNat then (0, 0, 8) else if l.length ≤ (l.getD 0 0).toNat then (0, 0, 10) else if 0 < (l.getD 0 0).toNat ∧ l.getD 1 0 = 0 then (0, 0, 8) else (val ((l.drop 1).take (l.getD 0 0).toNat), (l.getD 0 0).toNat + 1, 0) := by
  cases l with
  | nil => simp at h
  | cons c r =>
    simp only [read, List.getD_cons_zero, List.length_cons, List.drop_succ_cons, List.drop_zero]
    by_cases h1 : 8 < c.toNat
    · rw [if_pos h1, if_pos h1]
    · rw [if_neg h1, if_neg h1]
      by_cases h2 : r.length < c.toNat
      · rw [if_pos h2, if_pos (show r.length + 1 ≤ c.toNat from h2)]
      · rw [if_neg h2, if_neg (show ¬ r.length + 1 ≤ c.toNat from by omega)]
        cases r with
        | nil =>
          have : c.toNat = 0 := by simp at h2; omega
          rw [if_neg (by omega), if_neg (by omega)]
        | cons d t => simp

theorem getD_at (s : ByteArray) (i : Nat) (h : i < s.size) : s.data.toList.getD i 0 = s[i] := by
  rw [List.getD, byte_at s i h]; rfl

theorem not_empty (s : ByteArray) (h : 0 < s.size) : s.toList.isEmpty = false := by
  rw [ByteArray.toList_eq]
  cases hl : s.data.toList with
  | nil => rw [← size_list, hl] at h; simp at h
  | cons c r => rfl

set_option maxHeartbeats 400000 in
theorem read_nil (s : ByteArray) (w : World) (h : s.size = 0) :
    Calls Try.prog 23 #[.string s] w fun e w' => e = .returned (rv (read s.data.toList)) ∧ Below w.heap.size w w' := by
  obtain rfl : s = ⟨#[]⟩ := by
    apply ByteArray.ext; exact Array.eq_empty_of_size_eq_zero h
  go_enter Try.func23, Try.ntmps23
  go_wp2
  go_ret3
  exact ⟨rfl, Below.refl _ _⟩

set_option maxHeartbeats 400000 in
theorem read_small (s : ByteArray) (w : World) (hs : s.size ≤ 9223372036854775807) (h0 : 0 < s.size) (c : Nat) (hc : s[0].toNat = c) (hc8 : c < 256)
    (hcase : 8 < c ∨ (c ≤ 8 ∧ s.size ≤ c) ∨ (0 < c ∧ c ≤ 8 ∧ c < s.size ∧ ∃ h1 : 1 < s.size, s[1].toNat = 0)) :
    Calls Try.prog 23 #[.string s] w fun e w' => e = .returned (rv (read s.data.toList)) ∧ Below w.heap.size w w' := by
  have hne := not_empty s h0
  have hr : read s.data.toList = (0, 0, if 8 < c then 8 else if s.size ≤ c then 10 else 8) := by
    rw [read_eq _ (by rw [size_list]; exact h0), getD_at s 0 h0, hc, size_list]
    rcases hcase with h | ⟨h1, h2⟩ | ⟨h1, h2, h3, h4, h5⟩
    · simp [h]
    · simp [show ¬ 8 < c from by omega, h2]
    · have e : s.data.toList.getD 1 0 = 0 := by rw [getD_at s 1 h4]; exact UInt8.toNat_inj.1 h5
      rw [e]
      simp [show ¬ 8 < c from by omega, show ¬ s.size ≤ c from by omega, h1]
  rw [hr]
  clear hr
  rcases hcase with h | ⟨h1, h2⟩ | ⟨h1, h2, h3, h4, h5⟩
  all_goals go_enter Try.func23, Try.ntmps23
  all_goals go_wp2
  all_goals go_ret3
  all_goals exact ⟨by simp [rv, *], Below.refl _ _⟩


theorem or_byte (v : Nat) (e : UInt8) (hv : v < 72057594037927936) : bits BinOp.or IntKind.u64 ((v : Int) * 256) (e.toNat : Int) = ((v * 256 + e.toNat : Nat) : Int) := by
  have he := e.toNat_lt
  have h := u64_or_nat (v * 256) e.toNat (by omega) (by omega)
  rw [show ((v : Int) * 256) = ((v * 256 : Nat) : Int) from by omega, h]
  congr 1
  have := Nat.two_pow_add_eq_or_of_lt (i := 8) (b := e.toNat) he v
  rw [show (2 : Nat) ^ 8 * v = v * 256 from by rw [Nat.mul_comm]] at this
  exact this.symm

set_option maxHeartbeats 400000 in
theorem read_loop (s : ByteArray) (w : World) (hs : s.size ≤ 9223372036854775807) (h0 : 0 < s.size) (c : Nat) (hc : s[0].toNat = c) (hc8 : c ≤ 8) (hcs : c < s.size)
    (hcase : c = 0 ∨ (0 < c ∧ ∃ (d : Nat) (h1 : 1 < s.size), s[1].toNat = d ∧ 0 < d)) :
    Calls Try.prog 23 #[.string s] w fun e w' => e = .returned (rv (read s.data.toList)) ∧ Below w.heap.size w w' := by
  have hne := not_empty s h0
  obtain ⟨t, ht⟩ : ∃ t, t = s.extract 1 (c + 1) := ⟨_, rfl⟩
  have htd : t.data.toList = (s.data.toList.drop 1).take c := by rw [ht, Lib.extract_data]; rfl
  have hr : read s.data.toList = (val t.data.toList, c + 1, 0) := by
    rw [read_eq _ (by rw [size_list]; exact h0), getD_at s 0 h0, hc, size_list, if_neg (by omega), if_neg (by omega), if_neg, htd]
    rintro ⟨h1, h2⟩
    rcases hcase with h | ⟨_, d, h3, h4, h5⟩
    · omega
    · rw [getD_at s 1 h3] at h2
      rw [h2] at h4
      simp at h4
      omega
  have htl : t.size = c := by rw [← size_list, htd, List.length_take, List.length_drop, size_list]; omega
  rw [hr]
  have hse : ¬ s = ByteArray.empty := by intro h; rw [h] at h0; simp at h0
  have hcb : ∀ W, (convert 9 48 (.string (s.extract 1 (c + 1)))).run Try.prog W = .ok (.slice (some ⟨W.heap.size, 0, none⟩) c (grownCap W t.size 0 5)) (Lib.bytesWorld W 5 t) := fun W => by
    have h := Lib.run_convert_string_bytes (P := Try.prog) W 9 48 5 t Try.underlying9 Try.underlying48 Try.underlying5
    rw [← ht]
    rw [htl] at h ⊢
    exact h
  have hd1 : decide (8 < (c : Int)) = false := by simp; omega
  have hd2 : decide (s.size ≤ c) = false := by simp; omega
  have HR := Lib.hid hr
  have HTD := Lib.hid htd
  have HTL := Lib.hid htl
  have HCS := Lib.hid hcs
  clear hr htd htl ht
  rcases hcase with rfl | ⟨h1, d, h2, h3, h4⟩
  · have hcb0 : ∀ W, (convert 9 48 (.string ByteArray.empty)).run Try.prog W = .ok (.slice (some ⟨W.heap.size, 0, none⟩) 0 (grownCap W t.size 0 5)) (Lib.bytesWorld W 5 t) := fun W => by
      have := hcb W
      rw [show s.extract 1 (0 + 1) = ByteArray.empty from by apply ByteArray.ext; simp] at this
      exact this
    clear hcb
    go_enter Try.func23, Try.ntmps23
    go_wp2
    refine wp_loop_rounds 1 ?_; rw [rounds_succ]
    go_wp2
    go_ret3
    have h0 : t.data.toList = [] := by rw [HTD.out]; rfl
    exact ⟨by rw [h0]; rfl, bytesWorld_below w _ t⟩
  · have hd3 : ((d : Int) == 0) = false := by simp; omega
    have hd4 : decide ((0 : Int) < (c : Int)) = true := by simp; omega
    go_enter Try.func23, Try.ntmps23
    go_wp2
    go_loop [2, 34] (fun xv iv => ∃ k : Nat, k ≤ c ∧ xv = .int .u64 (val (t.data.toList.take k) : Int) ∧ iv = .int .i64 k) (fun _ iv => c - (intOf iv).toNat)
    case atStart => exact ⟨0, by omega, rfl, rfl⟩
    case round =>
      obtain ⟨k, hk, rfl, rfl⟩ := hrel
      by_cases hlt : k < c
      · have hkl : k < t.data.toList.length := by rw [size_list, HTL.out]; exact hlt
        obtain ⟨e, he⟩ : ∃ e, e = t.data.toList[k] := ⟨_, rfl⟩
        obtain ⟨hcell, _⟩ := bytesWorld_row w 5 t k e (by rw [List.getElem?_eq_getElem hkl, he])
        obtain ⟨v, hv⟩ : ∃ v, v = val (t.data.toList.take k) := ⟨_, rfl⟩
        rw [← hv]
        have hvb : v < 72057594037927936 := by
          have h := val_lt (t.data.toList.take k)
          rw [← hv, List.length_take, Nat.min_eq_left (by omega)] at h
          have hp : 256 ^ k ≤ 256 ^ 7 := Nat.pow_le_pow_right (by omega) (by omega)
          have : (256 : Nat) ^ 7 = 72057594037927936 := by decide
          omega
        have he8 := e.toNat_lt
        have HV := Lib.hid hv
        have HE := Lib.hid he
        clear hv he
        go_wp2
        go_round
        case rel => exact ⟨k + 1, by omega, by rw [or_byte v e hvb, List.take_succ_eq_append_getElem hkl, val_snoc, ← HV.out, ← HE.out], by go_num⟩
        case measure => simp [intOf]; omega
      · obtain rfl : k = c := by omega
        go_wp2
        go_ret3
        refine ⟨?_, bytesWorld_below w _ t⟩
        rw [List.take_of_length_le (by rw [size_list, HTL.out]; exact Nat.le_refl _)]
        rfl


theorem read_calls (s : ByteArray) (w : World) (hs : s.size ≤ maxLen) :
    Calls Try.prog 23 #[.string s] w fun e w' => e = .returned (rv (read s.data.toList)) ∧ Below w.heap.size w w' := by
  unfold maxLen at hs
  rcases Nat.eq_zero_or_pos s.size with h | h
  · exact read_nil s w h
  · have h8 : s[0].toNat < 256 := s[0].toNat_lt
    by_cases h1 : 8 < s[0].toNat
    · exact read_small s w hs h _ rfl h8 (Or.inl h1)
    · by_cases h2 : s.size ≤ s[0].toNat
      · exact read_small s w hs h _ rfl h8 (Or.inr (Or.inl ⟨by omega, h2⟩))
      · rcases Nat.eq_zero_or_pos s[0].toNat with h3 | h3
        · exact read_loop s w hs h _ rfl (by omega) (by omega) (Or.inl h3)
        · have h4 : 1 < s.size := by omega
          rcases Nat.eq_zero_or_pos s[1].toNat with h5 | h5
          · exact read_small s w hs h _ rfl h8 (Or.inr (Or.inr ⟨h3, by omega, by omega, h4, h5⟩))
          · exact read_loop s w hs h _ rfl (by omega) (by omega) (Or.inr ⟨h3, _, h4, rfl, h5⟩)

set_option maxHeartbeats 400000 in
theorem refRead_nil (s : ByteArray) (w : World) (h : s.size = 0) :
    Calls Try.prog 24 #[.string s] w fun e w' => e = .returned (rv (read s.data.toList)) ∧ Below w.heap.size w w' := by
  obtain rfl : s = ⟨#[]⟩ := by
    apply ByteArray.ext; exact Array.eq_empty_of_size_eq_zero h
  go_enter Try.func24, Try.ntmps24
  go_wp2
  go_ret3
  exact ⟨rfl, Below.refl _ _⟩

set_option maxHeartbeats 400000 in
theorem refRead_small (s : ByteArray) (w : World) (_hs : s.size ≤ 9223372036854775807) (h0 : 0 < s.size) (c : Nat) (hc : s[0].toNat = c) (hc8 : c < 256)
    (hcase : 8 < c ∨ (c ≤ 8 ∧ s.size ≤ c)) :
    Calls Try.prog 24 #[.string s] w fun e w' => e = .returned (rv (read s.data.toList)) ∧ Below w.heap.size w w' := by
  have hne := not_empty s h0
  have hr : read s.data.toList = (0, 0, if 8 < c then 8 else 10) := by
    rw [read_eq _ (by rw [size_list]; exact h0), getD_at s 0 h0, hc, size_list]
    rcases hcase with h | ⟨h1, h2⟩
    · simp [h]
    · simp [show ¬ 8 < c from by omega, h2]
  rw [hr]
  clear hr
  rcases hcase with h | ⟨h1, h2⟩
  all_goals go_enter Try.func24, Try.ntmps24
  all_goals go_wp2
  all_goals go_ret3
  all_goals exact ⟨by simp [rv, *], Below.refl _ _⟩

theorem ret_rv (v k : Nat) : Ending.returned (.tuple #[.int .u64 (v : Int), .int .i64 (1 + (k : Int)), .int .i64 0]) = .returned (rv (v, k + 1, 0)) := by
  have e : (1 + (k : Int)) = ((k + 1 : Nat) : Int) := by omega
  rw [e]; rfl

set_option maxHeartbeats 800000 in
theorem refRead_loop (s : ByteArray) (w : World) (hs : s.size ≤ 9223372036854775807) (h0 : 0 < s.size) (c : Nat) (hc : s[0].toNat = c) (hc8 : c ≤ 8) (hcs : c < s.size)
    (hcase : c = 0 ∨ (0 < c ∧ ∃ (d : Nat) (h1 : 1 < s.size), s[1].toNat = d ∧ (d = 0 ∨ 0 < d))) :
    Calls Try.prog 24 #[.string s] w fun e w' => e = .returned (rv (read s.data.toList)) ∧ Below w.heap.size w w' := by
  have hne := not_empty s h0
  obtain ⟨t, ht⟩ : ∃ t, t = (s.data.toList.drop 1).take c := ⟨_, rfl⟩
  have htl : t.length = c := by rw [ht, List.length_take, List.length_drop, size_list]; omega
  have htk : ∀ k (_ : k < c) (h' : k + 1 < s.size), t[k]? = some s[k + 1] := by
    intro k h h'
    rw [ht, List.getElem?_take_of_lt h, List.getElem?_drop, byte_at s (1 + k) (by omega)]
    congr 2; omega
  have hd1 : decide (8 < (c : Int)) = false := by simp; omega
  have hd2 : decide ((s.size : Int) < 1 + (c : Int)) = false := by simp; omega
  have hr : read s.data.toList = if 0 < c ∧ s.data.toList.getD 1 0 = 0 then (0, 0, 8) else (val t, c + 1, 0) := by
    rw [read_eq _ (by rw [size_list]; exact h0), getD_at s 0 h0, hc, size_list, if_neg (by omega), if_neg (by omega), ht]
  have HR := Lib.hid hr
  have HTL := Lib.hid htl
  have HTK := Lib.hid htk
  clear ht htl htk hr
  have HC := Lib.hid hcase
  clear hcase
  go_enter Try.func24, Try.ntmps24
  go_wp2
  go_loop [6, 7] (fun xv iv => ∃ k : Nat, k ≤ c ∧ xv = .int .u64 (val (t.take k) : Int) ∧ iv = .int .i64 ((k : Int) + 1)) (fun _ iv => c + 1 - (intOf iv).toNat)
  case atStart => exact ⟨0, by omega, rfl, rfl⟩
  case round =>
    obtain ⟨k, hk, rfl, rfl⟩ := hrel
    obtain ⟨v, hv⟩ : ∃ v, v = val (t.take k) := ⟨_, rfl⟩
    rw [← hv]
    have HV := Lib.hid hv
    clear hv
    by_cases hlt : k < c
    · have hks : k + 1 < s.size := by omega
      obtain ⟨e, he⟩ : ∃ e, s[k + 1] = e := ⟨_, rfl⟩
      have hte := HTK.out k hlt hks
      rw [he] at hte
      have HTE := Lib.hid hte
      clear hte
      have he8 := e.toNat_lt
      have hvb : v < 72057594037927936 := by
        have h := val_lt (t.take k)
        rw [← HV.out, List.length_take, HTL.out, Nat.min_eq_left (by omega)] at h
        have hp : 256 ^ k ≤ 256 ^ 7 := Nat.pow_le_pow_right (by omega) (by omega)
        have : (256 : Nat) ^ 7 = 72057594037927936 := by decide
        omega
      go_wp2
      go_round
      case rel =>
        refine ⟨k + 1, by omega, ?_, by go_num⟩
        have hkt : k < t.length := by rw [HTL.out]; exact hlt
        have e1 : t[k] = e := by have h := HTE.out; rw [List.getElem?_eq_getElem hkt] at h; exact Option.some.inj h
        rw [List.take_succ_eq_append_getElem hkt, val_snoc, ← HV.out, e1]
        congr 1; omega
      case measure => simp [intOf]; omega
    · obtain rfl : k = c := by omega
      have hvt : v = val t := by rw [HV.out, List.take_of_length_le (by rw [HTL.out]; exact Nat.le_refl _)]
      have HVT := Lib.hid hvt
      clear hvt
      rcases HC.out with rfl | ⟨h1, d, h2, h3, rfl | h4⟩
      · go_wp2
        go_ret3
        refine ⟨?_, Below.refl _ _⟩
        rw [HR.out, if_neg (by omega), ← HVT.out]; rfl
      · go_wp2
        go_ret3
        refine ⟨?_, Below.refl _ _⟩
        rw [HR.out, if_pos ⟨h1, by rw [getD_at s 1 h2]; exact UInt8.toNat_inj.1 h3⟩]; rfl
      · have hd3 : ((d : Int) == 0) = false := by simp; omega
        go_wp2
        go_ret3
        refine ⟨?_, Below.refl _ _⟩
        rw [HR.out, if_neg, ← HVT.out]
        · exact ret_rv v k
        · rintro ⟨_, h5⟩
          rw [getD_at s 1 h2] at h5
          rw [h5] at h3
          simp at h3
          omega


theorem refRead_calls (s : ByteArray) (w : World) (hs : s.size ≤ maxLen) :
    Calls Try.prog 24 #[.string s] w fun e w' => e = .returned (rv (read s.data.toList)) ∧ Below w.heap.size w w' := by
  unfold maxLen at hs
  rcases Nat.eq_zero_or_pos s.size with h | h
  · exact refRead_nil s w h
  · have h8 : s[0].toNat < 256 := s[0].toNat_lt
    by_cases h1 : 8 < s[0].toNat
    · exact refRead_small s w hs h _ rfl h8 (Or.inl h1)
    · by_cases h2 : s.size ≤ s[0].toNat
      · exact refRead_small s w hs h _ rfl h8 (Or.inr ⟨by omega, h2⟩)
      · rcases Nat.eq_zero_or_pos s[0].toNat with h3 | h3
        · exact refRead_loop s w hs h _ rfl (by omega) (by omega) (Or.inl h3)
        · have h4 : 1 < s.size := by omega
          exact refRead_loop s w hs h _ rfl (by omega) (by omega) (Or.inr ⟨h3, _, h4, rfl, Nat.eq_zero_or_pos _⟩)

theorem take_nine (s : ByteArray) (n : Nat) (h : n = min s.size 9) : (s.extract 0 n).data.toList = s.data.toList.take 9 := by
  rw [Lib.extract_data, List.drop_zero, Nat.sub_zero, h]
  rcases Nat.le_total s.size 9 with h1 | h1
  · rw [Nat.min_eq_left h1, List.take_of_length_le (by rw [size_list]; exact Nat.le_refl _), List.take_of_length_le (by rw [size_list]; exact h1)]
  · rw [Nat.min_eq_right h1]

theorem bs_data (l : List UInt8) : (bs l).data.toList = l := rfl

set_option maxHeartbeats 400000 in
theorem readDown_calls (s : ByteArray) (w : World) (hs : s.size ≤ maxLen) :
    Calls Try.prog 25 #[.string s] w fun e w' => e = .returned (rv (readDown s.data.toList)) ∧ Below w.heap.size w w' := by
  unfold maxLen at hs
  have h9 := take_nine s (min (s.size : Int) 9).toNat (by omega)
  have hl : (s.extract 0 (min (s.size : Int) 9).toNat).size ≤ maxLen := by
    rw [← size_list, h9, List.length_take]; unfold maxLen; omega
  have H9 := Lib.hid h9
  clear h9
  go_enter Try.func25, Try.ntmps25
  go_wp2_with (first
    | (go_at_call 29; refine (turned_calls _ _ hl).mono ?_; rintro e w1 ⟨rfl, hb⟩; rw [H9.out])
    | (go_at_call 23; refine (read_calls _ _ (by rw [bs_size, turn_length, List.length_take]; unfold maxLen; omega)).mono ?_; rintro e w2 ⟨rfl, hb2⟩))
  go_ret3
  exact ⟨rfl, below_of hb hb2⟩

set_option maxHeartbeats 400000 in
theorem refReadDown_calls (s : ByteArray) (w : World) (hs : s.size ≤ maxLen) :
    Calls Try.prog 26 #[.string s] w fun e w' => e = .returned (rv (readDown s.data.toList)) ∧ Below w.heap.size w w' := by
  have hs' := hs
  unfold maxLen at hs'
  rcases Nat.lt_or_ge 9 s.size with h | h
  · have h9 := take_nine s 9 (by omega)
    have hl : (s.extract 0 9).size ≤ maxLen := by
      rw [← size_list, h9, List.length_take]; unfold maxLen; omega
    have H9 := Lib.hid h9
    clear h9
    go_enter Try.func26, Try.ntmps26
    go_wp2_with (first
      | (go_at_call 30; refine (refTurn_calls _ _ hl).mono ?_; rintro e w1 ⟨rfl, hb⟩; rw [H9.out])
      | (go_at_call 24; refine (refRead_calls _ _ (by rw [bs_size, turn_length, List.length_take]; unfold maxLen; omega)).mono ?_; rintro e w2 ⟨rfl, hb2⟩))
    go_ret3
    exact ⟨rfl, below_of hb hb2⟩
  · have h9 : s.data.toList.take 9 = s.data.toList := List.take_of_length_le (by rw [size_list]; exact h)
    have H9 := Lib.hid h9
    clear h9
    go_enter Try.func26, Try.ntmps26
    go_wp2_with (first
      | (go_at_call 30; refine (refTurn_calls _ _ hs).mono ?_; rintro e w1 ⟨rfl, hb⟩)
      | (go_at_call 24; refine (refRead_calls _ _ (by rw [bs_size, turn_length, size_list]; exact hs)).mono ?_; rintro e w2 ⟨rfl, hb2⟩))
    go_ret3
    refine ⟨?_, below_of hb hb2⟩
    unfold readDown
    rw [H9.out]
    rfl

end Go.Proofs.Ytfddnhmcbhblpaa.Num
