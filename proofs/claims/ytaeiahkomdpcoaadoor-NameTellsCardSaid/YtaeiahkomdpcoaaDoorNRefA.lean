/- The walks of the document's answers for names: HasBucket, HasN, Bucket, Object, numbers, texts. -/
import Derived.Test.YtaeiahkomdpcoaaDoorNameCmp
namespace Go.Proofs.YtaeiahkomdpcoaaDoor.Name
open Go.RowKit Go.Shelf

theorem refHasB_calls (k : Nat) (w : World) : Calls Tryd.prog 46 #[.int .u8 (k : Int)] w fun e w' => e = .returned (.bool (hasB k)) ∧ w' = w := by
  by_cases h1 : 2 ≤ k
  · by_cases h2 : k ≤ 5
    · rw [show hasB k = true from decide_eq_true ⟨h1, h2⟩]
      have i1 : (2 : Int) ≤ (k : Int) := by omega
      have i2 : (k : Int) ≤ 5 := by omega
      go_enter Tryd.func46, Tryd.ntmps46
      go_wp2
      go_ret
      exact ⟨rfl, rfl⟩
    · rw [show hasB k = false from decide_eq_false (by omega)]
      have i1 : (2 : Int) ≤ (k : Int) := by omega
      have i2 : ¬ (k : Int) ≤ 5 := by omega
      go_enter Tryd.func46, Tryd.ntmps46
      go_wp2
      go_ret
      exact ⟨rfl, rfl⟩
  · rw [show hasB k = false from decide_eq_false (by omega)]
    have i1 : ¬ (2 : Int) ≤ (k : Int) := by omega
    go_enter Tryd.func46, Tryd.ntmps46
    go_wp2
    go_ret
    exact ⟨rfl, rfl⟩

theorem refHasN_calls (k : Nat) (w : World) : Calls Tryd.prog 47 #[.int .u8 (k : Int)] w fun e w' => e = .returned (.bool (hasN k)) ∧ w' = w := by
  by_cases h1 : 3 ≤ k
  · by_cases h2 : k ≤ 6
    · rw [show hasN k = true from decide_eq_true ⟨h1, h2⟩]
      have i1 : (3 : Int) ≤ (k : Int) := by omega
      have i2 : (k : Int) ≤ 6 := by omega
      go_enter Tryd.func47, Tryd.ntmps47
      go_wp2
      go_ret
      exact ⟨rfl, rfl⟩
    · rw [show hasN k = false from decide_eq_false (by omega)]
      have i1 : (3 : Int) ≤ (k : Int) := by omega
      have i2 : ¬ (k : Int) ≤ 6 := by omega
      go_enter Tryd.func47, Tryd.ntmps47
      go_wp2
      go_ret
      exact ⟨rfl, rfl⟩
  · rw [show hasN k = false from decide_eq_false (by omega)]
    have i1 : ¬ (3 : Int) ≤ (k : Int) := by omega
    go_enter Tryd.func47, Tryd.ntmps47
    go_wp2
    go_ret
    exact ⟨rfl, rfl⟩

theorem refObject_calls (s : ByteArray) (w : World) (hs : s.size ≤ 10000) : Calls Tryd.prog 21 #[.string s] w fun e w' => e = .returned (.bool (objectL s.data.toList)) ∧ w' = w := by
  have hl := size_list s
  by_cases h1 : 1 ≤ s.size
  · by_cases h2 : s.size ≤ 200
    · rw [show objectL s.data.toList = true from decide_eq_true (by omega)]
      have i1 : (1 : Int) ≤ (s.size : Int) := by omega
      have i2 : (s.size : Int) ≤ 200 := by omega
      go_enter Tryd.func21, Tryd.ntmps21
      go_wp2
      go_ret
      exact ⟨rfl, rfl⟩
    · rw [show objectL s.data.toList = false from decide_eq_false (by omega)]
      have i1 : (1 : Int) ≤ (s.size : Int) := by omega
      have i2 : ¬ (s.size : Int) ≤ 200 := by omega
      go_enter Tryd.func21, Tryd.ntmps21
      go_wp2
      go_ret
      exact ⟨rfl, rfl⟩
  · rw [show objectL s.data.toList = false from decide_eq_false (by omega)]
    have i1 : ¬ (1 : Int) ≤ (s.size : Int) := by omega
    go_enter Tryd.func21, Tryd.ntmps21
    go_wp2
    go_ret
    exact ⟨rfl, rfl⟩

set_option maxHeartbeats 1000000 in
theorem numbers_calls (x y : Int) (w : World) : Calls Tryd.prog 53 #[.int .u64 x, .int .u64 y] w fun e w' => e = .returned (.int .i64 (cmpZ x y)) ∧ w' = w := by
  rcases Int.lt_trichotomy x y with h | h | h
  · rw [cmpZ_lt h]
    go_enter Tryd.func53, Tryd.ntmps53
    go_wp2
    go_ret
    exact ⟨rfl, rfl⟩
  · subst h
    rw [cmpZ_eq]
    have h1 : ¬ x < x := Int.lt_irrefl _
    go_enter Tryd.func53, Tryd.ntmps53
    go_wp2
    go_ret
    exact ⟨rfl, rfl⟩
  · rw [cmpZ_gt h]
    have h1 : ¬ x < y := by omega
    go_enter Tryd.func53, Tryd.ntmps53
    go_wp2
    go_ret
    exact ⟨rfl, rfl⟩

theorem cmpL_drop (l r : Bs) (k : Nat) (h1 : k < l.length) (h2 : k < r.length) : cmpL (l.drop k) (r.drop k) = if l[k] < r[k] then -1 else if r[k] < l[k] then 1 else cmpL (l.drop (k + 1)) (r.drop (k + 1)) := by
  rw [List.drop_eq_getElem_cons h1, List.drop_eq_getElem_cons h2, cmpL_cons]
theorem cmpL_end (l r : Bs) (k : Nat) (h1 : k ≤ l.length) (h2 : k ≤ r.length) (h : k = l.length ∨ k = r.length) : cmpL (l.drop k) (r.drop k) = cmpZ (l.length : Int) (r.length : Int) := by
  rw [cmpN_cast]
  unfold cmpN
  rcases h with h | h
  · rw [h, List.drop_length]
    cases hr : r.drop l.length with
    | nil =>
      have := congrArg List.length hr
      rw [List.length_drop, List.length_nil] at this
      rw [if_neg (by omega), if_neg (by omega)]; rfl
    | cons a t =>
      have := congrArg List.length hr
      rw [List.length_drop, List.length_cons] at this
      rw [if_pos (by omega)]; rfl
  · rw [h, List.drop_length]
    cases hr : l.drop r.length with
    | nil =>
      have := congrArg List.length hr
      rw [List.length_drop, List.length_nil] at this
      rw [if_neg (by omega), if_neg (by omega)]; rfl
    | cons a t =>
      have := congrArg List.length hr
      rw [List.length_drop, List.length_cons] at this
      rw [if_neg (by omega), if_pos (by omega)]; rfl

set_option maxHeartbeats 1600000 in
set_option maxRecDepth 100000 in
theorem texts_calls (a b : ByteArray) (w : World) (ha : a.size ≤ 10000) (hb : b.size ≤ 10000) : Calls Tryd.prog 54 #[.string a, .string b] w fun e w' => e = .returned (.int .i64 (cmpL a.data.toList b.data.toList)) ∧ Below w.heap.size w w' := by
  have hla := size_list a
  have hlb := size_list b
  have HLA := Lib.hid hla
  have HLB := Lib.hid hlb
  have wa : IntKind.u64.wrap (a.size : Int) = (a.size : Int) := IntWalk.u64_in _ (by omega)
  have wb : IntKind.u64.wrap (b.size : Int) = (b.size : Int) := IntWalk.u64_in _ (by omega)
  clear hla hlb
  go_enter Tryd.func54, Tryd.ntmps54
  go_wp2
  go_loopw [5] (fun iv wr => ∃ k : Nat, k ≤ a.size ∧ k ≤ b.size ∧ iv = .int .i64 (k : Int) ∧ Hid (cmpL a.data.toList b.data.toList = cmpL (a.data.toList.drop k) (b.data.toList.drop k)) ∧ Below w.heap.size w wr) (fun iv _ => a.size - (intOf iv).toNat)
  case atStart => exact ⟨0, by omega, by omega, rfl, Lib.hid rfl, Below.refl _ _⟩
  case round =>
    obtain ⟨k, hka, hkb, rfl, hB, hbw⟩ := hrel
    by_cases h1 : k < a.size
    · by_cases h2 : k < b.size
      · have hD := cmpL_drop a.data.toList b.data.toList k (by rw [HLA.out]; exact h1) (by rw [HLB.out]; exact h2)
        have e1 : a.data.toList[k]'(by rw [HLA.out]; exact h1) = a[k] := rfl
        have e2 : b.data.toList[k]'(by rw [HLB.out]; exact h2) = b[k] := rfl
        rw [e1, e2] at hD
        have HD := Lib.hid hD
        clear hD e1 e2
        rcases u8_tri a[k] b[k] with ⟨h3, h4, h5⟩ | h3 | ⟨h3, h4, h5⟩
        · have HE := Lib.hid (show cmpL a.data.toList b.data.toList = -1 by rw [hB.out, HD.out, if_pos h3])
          have i1 : (a[k].toNat : Int) < (b[k].toNat : Int) := by rw [UInt8.lt_iff_toNat_lt] at h3; omega
          have i2 : ((a[k].toNat : Int) == (b[k].toNat : Int)) = false := by rw [beq_eq_false_iff_ne]; omega
          clear h3 h4 h5 HD
          go_wp2
          go_region
          go_wp2
          go_region
          go_wp2
          go_ret
          exact ⟨by rw [HE.out]; rfl, below_drew (below_drew hbw)⟩
        · have HE := Lib.hid (show cmpL a.data.toList b.data.toList = cmpL (a.data.toList.drop (k + 1)) (b.data.toList.drop (k + 1)) by rw [hB.out, HD.out, h3, if_neg (u8_irr _), if_neg (u8_irr _)])
          have i2 : ((a[k].toNat : Int) == (b[k].toNat : Int)) = true := by rw [h3, beq_iff_eq]
          clear h3 HD
          go_wp2
          go_region
          go_wp2
          go_roundw
          case rel => exact ⟨k + 1, by omega, by omega, by go_num, HE, below_drew hbw⟩
          case measure => simp [intOf]; omega
        · have HE := Lib.hid (show cmpL a.data.toList b.data.toList = 1 by rw [hB.out, HD.out, if_neg h4, if_pos h3])
          have i1 : ¬ (a[k].toNat : Int) < (b[k].toNat : Int) := by rw [UInt8.lt_iff_toNat_lt] at h3; omega
          have i2 : ((a[k].toNat : Int) == (b[k].toNat : Int)) = false := by rw [beq_eq_false_iff_ne]; rw [UInt8.lt_iff_toNat_lt] at h3; omega
          clear h3 h4 h5 HD
          go_wp2
          go_region
          go_wp2
          go_region
          go_wp2
          go_ret
          exact ⟨by rw [HE.out]; rfl, below_drew (below_drew hbw)⟩
      · have hk2 : k = b.size := by omega
        subst hk2
        have HE := Lib.hid (show cmpL a.data.toList b.data.toList = cmpZ (a.size : Int) (b.size : Int) by rw [hB.out, cmpL_end _ _ _ (by rw [HLA.out]; omega) (by rw [HLB.out]; omega) (.inr HLB.out.symm), HLA.out, HLB.out])
        go_wp2_with fail
        refine (numbers_calls _ _ _).mono ?_
        rintro e w' ⟨rfl, hw⟩
        subst hw
        go_wp2
        go_ret
        exact ⟨by rw [HE.out]; rfl, hbw⟩
    · have hk2 : k = a.size := by omega
      subst hk2
      have HE := Lib.hid (show cmpL a.data.toList b.data.toList = cmpZ (a.size : Int) (b.size : Int) by rw [hB.out, cmpL_end _ _ _ (by rw [HLA.out]; omega) (by rw [HLB.out]; omega) (.inl HLA.out.symm), HLA.out, HLB.out])
      go_wp2_with fail
      refine (numbers_calls _ _ _).mono ?_
      rintro e w' ⟨rfl, hw⟩
      subst hw
      go_wp2
      go_ret
      exact ⟨by rw [HE.out]; rfl, hbw⟩

/-- One byte of a bucket's name, where it stands. -/
def refOk (n i c : Nat) : Bool := wordB c || (decide (i ≠ 0 ∧ i + 1 ≠ n) && (decide (c = 45) || decide (c = 46)))
theorem okCs_word : ∀ n : Nat, n < 256 → okCs.contains (UInt8.ofNat n) = (wordB n || (decide (n = 45) || decide (n = 46))) := by decide +kernel
theorem bucket_iff (l : Bs) (n : Nat) (hn : l.length = n) : bucketL l = true ↔ ((1 ≤ n ∧ n ≤ 63) ∧ ∀ i (h : i < l.length), refOk n i l[i].toNat = true) := by
  subst hn
  have hok : ∀ c : UInt8, okCs.contains c = (wordB c.toNat || (decide (c.toNat = 45) || decide (c.toNat = 46))) := fun c => by
    have := okCs_word c.toNat c.toNat_lt
    rwa [UInt8.ofNat_toNat] at this
  have hg : ∀ i (h : i < l.length), l.getD i 0 = l[i] := fun i h => by rw [List.getD_eq_getElem?_getD, List.getElem?_eq_getElem h]; rfl
  unfold bucketL
  simp only [Bool.and_eq_true, decide_eq_true_eq]
  constructor
  · rintro ⟨⟨⟨h1, h2⟩, h3⟩, h4⟩
    refine ⟨h1, fun i h => ?_⟩
    unfold refOk
    rw [hg 0 (by omega)] at h2
    rw [hg _ (by omega)] at h3
    by_cases hi : i = 0
    · subst hi; rw [h2]; rfl
    · by_cases hl : i + 1 = l.length
      · obtain rfl : i = l.length - 1 := by omega
        rw [h3]; rfl
      · have := List.all_eq_true.1 h4 l[i] (List.getElem_mem h)
        rw [hok] at this
        rw [decide_eq_true ⟨hi, hl⟩, Bool.true_and]; exact this
  · rintro ⟨h1, h2⟩
    have w0 : wordB (l[0]'(by omega)).toNat = true := by
      have := h2 0 (by omega)
      unfold refOk at this
      rwa [decide_eq_false (by omega), Bool.false_and, Bool.or_false] at this
    have wl : wordB (l[l.length - 1]'(by omega)).toNat = true := by
      have := h2 (l.length - 1) (by omega)
      unfold refOk at this
      rwa [decide_eq_false (by omega), Bool.false_and, Bool.or_false] at this
    refine ⟨⟨⟨h1, by rw [hg 0 (by omega)]; exact w0⟩, by rw [hg _ (by omega)]; exact wl⟩, List.all_eq_true.2 fun c hc => ?_⟩
    obtain ⟨i, hi, rfl⟩ := List.getElem_of_mem hc
    rw [hok]
    have := h2 i hi
    unfold refOk at this
    simp only [Bool.or_eq_true, Bool.and_eq_true] at this ⊢
    rcases this with h | h
    · exact .inl h
    · exact .inr h.2

set_option maxHeartbeats 3200000 in
set_option maxRecDepth 100000 in
theorem refBucket_calls (s : ByteArray) (w : World) (hs : s.size ≤ 10000) : Calls Tryd.prog 19 #[.string s] w fun e w' => e = .returned (.bool (bucketL s.data.toList)) ∧ w' = w := by
  have hl := size_list s
  have hI := bucket_iff s.data.toList s.size hl
  obtain ⟨r, hr⟩ : ∃ r, r = bucketL s.data.toList := ⟨_, rfl⟩
  rw [← hr] at hI ⊢
  clear hr
  have HL := Lib.hid hl
  by_cases h1 : 1 ≤ s.size
  case neg =>
    have hr : r = false := Bool.eq_false_iff.2 fun h => by have := (hI.1 h).1; omega
    subst hr
    have i1 : (s.size : Int) < 1 := by omega
    clear hI hl
    go_enter Tryd.func19, Tryd.ntmps19
    go_wp2
    go_ret
    exact ⟨rfl, rfl⟩
  by_cases h2 : s.size ≤ 63
  case neg =>
    have hr : r = false := Bool.eq_false_iff.2 fun h => by have := (hI.1 h).1; omega
    subst hr
    have i1 : ¬ (s.size : Int) < 1 := by omega
    have i2 : (63 : Int) < (s.size : Int) := by omega
    clear hI hl
    go_enter Tryd.func19, Tryd.ntmps19
    go_wp2
    go_ret
    exact ⟨rfl, rfl⟩
  have i1 : ¬ (s.size : Int) < 1 := by omega
  have i2 : ¬ (63 : Int) < (s.size : Int) := by omega
  have iw : IntKind.i64.wrap ((s.size : Int) - 1) = (s.size : Int) - 1 := IntWalk.i64_in _ (by omega)
  have HI := Lib.hid hI
  clear hI hl
  go_enter Tryd.func19, Tryd.ntmps19
  go_wp2
  go_loop [3] (fun iv => ∃ k : Nat, k ≤ s.size ∧ iv = .int .i64 (k : Int) ∧ Hid (∀ i (h : i < s.size), i < k → refOk s.size i s[i].toNat = true)) (fun iv => s.size - (intOf iv).toNat)
  case atStart => exact ⟨0, by omega, rfl, Lib.hid (fun i h hi => absurd hi (by omega))⟩
  case round =>
    obtain ⟨k, hk, rfl, hB⟩ := hrel
    by_cases hlt : k < s.size
    case neg =>
      have hr : r = true := HI.out.2 ⟨⟨h1, by omega⟩, fun i h => hB.out i (by rw [← HL.out]; exact h) (by rw [HL.out] at h; omega)⟩
      subst hr
      have hk2 : k = s.size := by omega
      subst hk2
      go_wp2
      go_ret
      exact ⟨rfl, rfl⟩
    have HY : Hid (refOk s.size k s[k].toNat = true → ∀ i (h : i < s.size), i < k + 1 → refOk s.size i s[i].toNat = true) := fun hy i h hi => by
      by_cases hik : i = k
      · subst hik; exact hy
      · exact hB.out i h (by omega)
    have HN : Hid (refOk s.size k s[k].toNat = false → r = false) := fun hn => Bool.eq_false_iff.2 fun h => by
      have ht : refOk s.size k s[k].toNat = true := (HI.out.1 h).2 k (by rw [HL.out]; exact hlt)
      rw [hn] at ht
      cases ht
    clear hB
    have h8 := s[k].toNat_lt
    rcases (by omega : s[k].toNat < 48 ∨ (48 ≤ s[k].toNat ∧ s[k].toNat ≤ 57) ∨ (57 < s[k].toNat ∧ s[k].toNat < 97) ∨ (97 ≤ s[k].toNat ∧ s[k].toNat ≤ 122) ∨ 122 < s[k].toNat) with h | h | h | h | h
    · have a1 : ¬ (97 : Int) ≤ (s[k].toNat : Int) := by omega
      have a3 : ¬ (48 : Int) ≤ (s[k].toNat : Int) := by omega
      have hw : wordB s[k].toNat = false := by unfold wordB; rw [decide_eq_false (by omega), decide_eq_false (by omega)]; rfl
      by_cases hk0 : k = 0
      · have b0 : ((k : Int) == 0) = true := by rw [beq_iff_eq]; omega
        have hn := HN.out (by unfold refOk; rw [hw, decide_eq_false (by omega)]; rfl)
        subst hn
        clear HY HN h h8 hw hk0
        go_wp2
        go_ret
        exact ⟨rfl, rfl⟩
      have b0 : ((k : Int) == 0) = false := by rw [beq_eq_false_iff_ne]; omega
      by_cases hkl : k + 1 = s.size
      · have b1 : ((k : Int) == (s.size : Int) - 1) = true := by rw [beq_iff_eq]; omega
        have hn := HN.out (by unfold refOk; rw [hw, decide_eq_false (by omega)]; rfl)
        subst hn
        clear HY HN h h8 hw hk0 hkl
        go_wp2
        go_ret
        exact ⟨rfl, rfl⟩
      have b1 : ((k : Int) == (s.size : Int) - 1) = false := by rw [beq_eq_false_iff_ne]; omega
      by_cases c5 : s[k].toNat = 45
      · have d5 : ((s[k].toNat : Int) != 45) = false := by rw [bne_eq_false_iff_eq]; omega
        have hy := HY.out (by unfold refOk; rw [decide_eq_true (show k ≠ 0 ∧ k + 1 ≠ s.size from ⟨hk0, hkl⟩), decide_eq_true (show s[k].toNat = 45 from c5)]; simp)
        have HZ := Lib.hid hy
        clear hy HY HN h h8 hw hk0 hkl c5
        go_wp2
        go_round
        case rel => exact ⟨k + 1, by omega, by go_num, HZ⟩
        case measure => simp [intOf]; omega
      by_cases c6 : s[k].toNat = 46
      · have d5 : ((s[k].toNat : Int) != 45) = true := by rw [bne_iff_ne]; omega
        have d6 : ((s[k].toNat : Int) != 46) = false := by rw [bne_eq_false_iff_eq]; omega
        have hy := HY.out (by unfold refOk; rw [decide_eq_true (show k ≠ 0 ∧ k + 1 ≠ s.size from ⟨hk0, hkl⟩), decide_eq_true (show s[k].toNat = 46 from c6)]; simp)
        have HZ := Lib.hid hy
        clear hy HY HN h h8 hw hk0 hkl c5 c6
        go_wp2
        go_round
        case rel => exact ⟨k + 1, by omega, by go_num, HZ⟩
        case measure => simp [intOf]; omega
      have d5 : ((s[k].toNat : Int) != 45) = true := by rw [bne_iff_ne]; omega
      have d6 : ((s[k].toNat : Int) != 46) = true := by rw [bne_iff_ne]; omega
      have hn := HN.out (by unfold refOk; rw [hw, decide_eq_false c5, decide_eq_false c6]; simp)
      subst hn
      clear HY HN h h8 hw hk0 hkl c5 c6
      go_wp2
      go_ret
      exact ⟨rfl, rfl⟩
    · have a1 : ¬ (97 : Int) ≤ (s[k].toNat : Int) := by omega
      have a3 : (48 : Int) ≤ (s[k].toNat : Int) := by omega
      have a4 : (s[k].toNat : Int) ≤ 57 := by omega
      have hy := HY.out (by unfold refOk wordB; rw [decide_eq_true (show 48 ≤ s[k].toNat ∧ s[k].toNat ≤ 57 from h)]; simp)
      have HZ := Lib.hid hy
      clear hy HY HN h h8
      go_wp2
      go_round
      case rel => exact ⟨k + 1, by omega, by go_num, HZ⟩
      case measure => simp [intOf]; omega
    · have a1 : ¬ (97 : Int) ≤ (s[k].toNat : Int) := by omega
      have a3 : (48 : Int) ≤ (s[k].toNat : Int) := by omega
      have a4 : ¬ (s[k].toNat : Int) ≤ 57 := by omega
      have hw : wordB s[k].toNat = false := by unfold wordB; rw [decide_eq_false (by omega), decide_eq_false (by omega)]; rfl
      by_cases hk0 : k = 0
      · have b0 : ((k : Int) == 0) = true := by rw [beq_iff_eq]; omega
        have hn := HN.out (by unfold refOk; rw [hw, decide_eq_false (by omega)]; rfl)
        subst hn
        clear HY HN h h8 hw hk0
        go_wp2
        go_ret
        exact ⟨rfl, rfl⟩
      have b0 : ((k : Int) == 0) = false := by rw [beq_eq_false_iff_ne]; omega
      by_cases hkl : k + 1 = s.size
      · have b1 : ((k : Int) == (s.size : Int) - 1) = true := by rw [beq_iff_eq]; omega
        have hn := HN.out (by unfold refOk; rw [hw, decide_eq_false (by omega)]; rfl)
        subst hn
        clear HY HN h h8 hw hk0 hkl
        go_wp2
        go_ret
        exact ⟨rfl, rfl⟩
      have b1 : ((k : Int) == (s.size : Int) - 1) = false := by rw [beq_eq_false_iff_ne]; omega
      have d5 : ((s[k].toNat : Int) != 45) = true := by rw [bne_iff_ne]; omega
      have d6 : ((s[k].toNat : Int) != 46) = true := by rw [bne_iff_ne]; omega
      have hn := HN.out (by unfold refOk; rw [hw, decide_eq_false (show ¬ s[k].toNat = 45 by omega), decide_eq_false (show ¬ s[k].toNat = 46 by omega)]; simp)
      subst hn
      clear HY HN h h8 hw hk0 hkl
      go_wp2
      go_ret
      exact ⟨rfl, rfl⟩
    · have a1 : (97 : Int) ≤ (s[k].toNat : Int) := by omega
      have a2 : (s[k].toNat : Int) ≤ 122 := by omega
      have hy := HY.out (by unfold refOk wordB; rw [decide_eq_true (show 97 ≤ s[k].toNat ∧ s[k].toNat ≤ 122 from h)]; simp)
      have HZ := Lib.hid hy
      clear hy HY HN h h8
      go_wp2
      go_round
      case rel => exact ⟨k + 1, by omega, by go_num, HZ⟩
      case measure => simp [intOf]; omega
    · have a1 : (97 : Int) ≤ (s[k].toNat : Int) := by omega
      have a2 : ¬ (s[k].toNat : Int) ≤ 122 := by omega
      have a3 : (48 : Int) ≤ (s[k].toNat : Int) := by omega
      have a4 : ¬ (s[k].toNat : Int) ≤ 57 := by omega
      have hw : wordB s[k].toNat = false := by unfold wordB; rw [decide_eq_false (by omega), decide_eq_false (by omega)]; rfl
      by_cases hk0 : k = 0
      · have b0 : ((k : Int) == 0) = true := by rw [beq_iff_eq]; omega
        have hn := HN.out (by unfold refOk; rw [hw, decide_eq_false (by omega)]; rfl)
        subst hn
        clear HY HN h h8 hw hk0
        go_wp2
        go_ret
        exact ⟨rfl, rfl⟩
      have b0 : ((k : Int) == 0) = false := by rw [beq_eq_false_iff_ne]; omega
      by_cases hkl : k + 1 = s.size
      · have b1 : ((k : Int) == (s.size : Int) - 1) = true := by rw [beq_iff_eq]; omega
        have hn := HN.out (by unfold refOk; rw [hw, decide_eq_false (by omega)]; rfl)
        subst hn
        clear HY HN h h8 hw hk0 hkl
        go_wp2
        go_ret
        exact ⟨rfl, rfl⟩
      have b1 : ((k : Int) == (s.size : Int) - 1) = false := by rw [beq_eq_false_iff_ne]; omega
      have d5 : ((s[k].toNat : Int) != 45) = true := by rw [bne_iff_ne]; omega
      have d6 : ((s[k].toNat : Int) != 46) = true := by rw [bne_iff_ne]; omega
      have hn := HN.out (by unfold refOk; rw [hw, decide_eq_false (show ¬ s[k].toNat = 45 by omega), decide_eq_false (show ¬ s[k].toNat = 46 by omega)]; simp)
      subst hn
      clear HY HN h h8 hw hk0 hkl
      go_wp2
      go_ret
      exact ⟨rfl, rfl⟩

end Go.Proofs.YtaeiahkomdpcoaaDoor.Name
