/- The walks of a reader's Text, Bool, Rest, Err, End. -/
import Derived.Test.YtaeiahkomdpcoaaWireRd2
namespace Go.Proofs.Ytaeiahkomdpcoaa.Wire
open Go.RowKit Go.Proofs.Ytaeiahkomdpcoaa.Num

theorem counted_calls (l : Bs) (most : Int) (w : World) (hl : l.length ≤ 4611686018427387904) (hm : most ≤ 9223372036854775807) :
    Calls Try.prog 36 #[.string (bs l), .int .i64 most] w fun r w' => r = .returned (tri (countF l most)) ∧ Below w.heap.size w w' := by
  obtain ⟨r, hr⟩ : ∃ r, Num.read l = r := ⟨_, rfl⟩
  obtain ⟨v, k, g⟩ := r
  have := counted_walk l most v k g w hl hm hr
  unfold countF
  rw [hr]
  exact this

set_option maxHeartbeats 1600000 in
set_option maxRecDepth 100000 in
theorem text_stuck (p : Nat) (e : Nat) (m : Int) (l : Bs) (he : e ≠ 0) (w : World) (h : RdAt w p (l, e)) :
    Calls Try.prog 17 #[.pointer (some ⟨p, 0, none⟩), .int .i64 m] w fun r w' => r = .returned (.string (bs [])) ∧ RdAt w' p (l, e) ∧ w.grownBy w' (some p) := by
  have he' : ((e : Int) == 0) = false := by rw [beq_eq_false_iff_ne]; omega
  have c0 := h.c0
  have c1 := h.c1
  have c2 := h.c2
  have k0 := h.fz 0
  have k1 := h.fz 1
  have hlt := h.lt
  go_enter Try.func17, Try.ntmps17
  go_wp2
  refine bodyPost_ret (results_cell1 rfl _ _ ⟨w.heap.size + 1, 0, none⟩ (.string ⟨#[]⟩) rfl (Try.isAgg9 _) ?_) rfl ?_
  · go_simp
  · exact ⟨rfl, (h.below (below_one _ _)).below (below_one _ _), grown_alloc (grown_alloc (grown_of_below (Below.refl _ _) _) _) _⟩

set_option maxHeartbeats 1600000 in
set_option maxRecDepth 100000 in
theorem text_ok (p : Nat) (c k : Nat) (m : Int) (l : Bs) (w : World) (h : RdAt w p (l, 0)) (hl : l.length ≤ 4611686018427387904) (hm : m ≤ 9223372036854775807) (hr : countF l m = (c, k, 0)) (hkc : k + c ≤ l.length) :
    Calls Try.prog 17 #[.pointer (some ⟨p, 0, none⟩), .int .i64 m] w fun r w' => r = .returned (.string (bs ((l.drop k).take c))) ∧ RdAt w' p (l.drop (k + c), 0) ∧ w.grownBy w' (some p) := by
  have c0 := h.c0
  have c1 := h.c1
  have c2 := h.c2
  have hlt := h.lt
  have hk : k + c ≤ (bs l).size := by rw [bs_size]; exact hkc
  have HR : Hid (∀ W, Calls Try.prog 36 #[.string (bs l), .int .i64 m] W fun e w' => e = .returned (.tuple #[.int .i64 (c : Int), .int .i64 (k : Int), .int .i64 0]) ∧ Below W.heap.size W w') := fun W => by
    have h := counted_calls l m W hl hm
    rw [hr] at h
    exact h
  clear hr
  obtain ⟨t, ht⟩ : ∃ t, t = bs l := ⟨_, rfl⟩
  have hts : t.size ≤ 4611686018427387904 := by rw [ht, bs_size]; exact hl
  simp only [← ht] at c0 hk HR
  have HT := Lib.hid ht
  clear ht
  go_enter Try.func17, Try.ntmps17
  go_wp2_with (first | (go_at_call 32; go_in) | (go_at_call 39; go_in) | (go_at_call 35; go_in))
  refine (HR.out _).mono ?_
  rintro e w1 ⟨rfl, hb1⟩
  obtain ⟨h1, g1, q0, q1, f1, d0, d1, k0, k1, n0, n1, n2⟩ := after_two h hb1
  simp only [← HT.out] at d0
  clear c0 c1 c2
  go_wp2_with (first | (go_at_call 32; go_in) | (go_at_call 39; go_in) | (go_at_call 35; go_in))
  refine bodyPost_ret (results_cell1 rfl _ _ ⟨w.heap.size + 1, 0, none⟩ (.string (t.extract k (k + c))) rfl (Try.isAgg9 _) ?_) rfl ?_
  · go_simp
  · refine ⟨?_, ?_, grown_set (grown_set (grown_set (grown_set g1 _ (.inr (by simp)) _) _ (.inl rfl) _) _ (.inl rfl) _) _ (.inr (by simp)) _⟩
    · rw [HT.out, bs_slice]
    · rw [HT.out, bs_drop l (k + c) _ (bs_size l)]
      exact (((h1.setOther _ n2 _).set1 0).set0 _).setOther _ n2 _

set_option maxHeartbeats 1600000 in
set_option maxRecDepth 100000 in
theorem text_fail (p : Nat) (g : Nat) (m : Int) (l : Bs) (w : World) (h : RdAt w p (l, 0)) (hl : l.length ≤ 4611686018427387904) (hm : m ≤ 9223372036854775807) (hr : countF l m = (0, 0, g)) (hg : g ≠ 0) :
    Calls Try.prog 17 #[.pointer (some ⟨p, 0, none⟩), .int .i64 m] w fun r w' => r = .returned (.string (bs [])) ∧ RdAt w' p (l, g) ∧ w.grownBy w' (some p) := by
  have c0 := h.c0
  have c1 := h.c1
  have c2 := h.c2
  have hlt := h.lt
  have hg' : ((g : Int) == 0) = false := by rw [beq_eq_false_iff_ne]; omega
  have HR : Hid (∀ W, Calls Try.prog 36 #[.string (bs l), .int .i64 m] W fun e w' => e = .returned (.tuple #[.int .i64 0, .int .i64 0, .int .i64 (g : Int)]) ∧ Below W.heap.size W w') := fun W => by
    have h := counted_calls l m W hl hm
    rw [hr] at h
    exact h
  clear hr
  obtain ⟨t, ht⟩ : ∃ t, t = bs l := ⟨_, rfl⟩
  have hts : t.size ≤ 4611686018427387904 := by rw [ht, bs_size]; exact hl
  simp only [← ht] at c0  HR
  have HT := Lib.hid ht
  clear ht
  go_enter Try.func17, Try.ntmps17
  go_wp2_with (first | (go_at_call 32; go_in) | (go_at_call 39; go_in) | (go_at_call 35; go_in))
  refine (HR.out _).mono ?_
  rintro e w1 ⟨rfl, hb1⟩
  obtain ⟨h1, g1, q0, q1, f1, d0, d1, k0, k1, n0, n1, n2⟩ := after_two h hb1
  simp only [← HT.out] at d0
  clear c0 c1 c2
  go_wp2_with (first | (go_at_call 32; go_in) | (go_at_call 39; go_in) | (go_at_call 35; go_in))
  refine bodyPost_ret (results_cell1 rfl _ _ ⟨w.heap.size + 1, 0, none⟩ (.string (t.extract 0 0)) rfl (Try.isAgg9 _) ?_) rfl ?_
  · go_simp
  · refine ⟨?_, ?_, grown_set (grown_set (grown_set g1 _ (.inr (by simp)) _) _ (.inl rfl) _) _ (.inr (by simp)) _⟩
    · rw [HT.out, bs_slice l 0 0]; rfl
    · exact ((h1.setOther _ n2 _).set1 g).setOther _ n2 _

set_option maxRecDepth 100000 in
theorem err_calls (p : Nat) (st : St) (w : World) (h : RdAt w p st) :
    Calls Try.prog 20 #[.pointer (some ⟨p, 0, none⟩)] w fun r w' => r = .returned (.int .i64 (st.2 : Int)) ∧ w' = w := by
  have c1 := h.c1
  have c2 := h.c2
  go_enter Try.func20, Try.ntmps20
  go_wp2
  go_ret
  exact ⟨rfl, rfl⟩

set_option maxHeartbeats 1600000 in
set_option maxRecDepth 100000 in
theorem bool_stuck (p : Nat) (e : Nat) (l : Bs) (w : World) (h : RdAt w p (l, e)) (he : e ≠ 0) :
    Calls Try.prog 18 #[.pointer (some ⟨p, 0, none⟩)] w fun r w' => r = .returned (.bool false) ∧ RdAt w' p (l, e) ∧ w.grownBy w' (some p) := by
  have he' : ((e : Int) == 0) = false := by rw [beq_eq_false_iff_ne]; omega
  have c0 := h.c0
  have c1 := h.c1
  have c2 := h.c2
  have k0 := h.fz 0
  have k1 := h.fz 1
  have hlt := h.lt
  go_enter Try.func18, Try.ntmps18
  go_wp2
  refine bodyPost_ret (results_cell1 rfl _ _ ⟨w.heap.size, 0, none⟩ (.bool false) rfl (Try.isAgg4 _) ?_) rfl ?_
  · go_simp
  · exact ⟨rfl, h.below (below_one _ _), grown_alloc (grown_of_below (Below.refl _ _) _) _⟩

set_option maxHeartbeats 1600000 in
set_option maxRecDepth 100000 in
theorem bool_nil (p : Nat)  (w : World) (h : RdAt w p ([], 0)) :
    Calls Try.prog 18 #[.pointer (some ⟨p, 0, none⟩)] w fun r w' => r = .returned (.bool false) ∧ RdAt w' p ([], 10) ∧ w.grownBy w' (some p) := by
  have c0 := h.c0
  have c1 := h.c1
  have c2 := h.c2
  have k0 := h.fz 0
  have k1 := h.fz 1
  have hlt := h.lt
  have e0 : bs [] = ⟨#[]⟩ := rfl
  simp only [e0] at c0
  have n0 : p ≠ w.heap.size := by omega
  have n2 : w.heap.size ≠ p := by omega
  go_enter Try.func18, Try.ntmps18
  go_wp2
  refine bodyPost_ret (results_cell1 rfl _ _ ⟨w.heap.size, 0, none⟩ (.bool false) rfl (Try.isAgg4 _) ?_) rfl ?_
  · go_simp
  · exact ⟨rfl, (h.set1 10).below (below_one _ _), grown_alloc (grown_set (grown_of_below (Below.refl _ _) _) _ (.inl rfl) _) _⟩

set_option maxHeartbeats 1600000 in
set_option maxRecDepth 100000 in
theorem bool_form (p : Nat) (c : Nat) (l : Bs) (t : ByteArray) (w : World) (h : RdAt w p (l, 0)) (hl : l.length ≤ 4611686018427387904) (HT : Hid (t = bs l)) (h0 : 0 < t.size) (hc : t[0].toNat = c) (hc1 : 1 < c) :
    Calls Try.prog 18 #[.pointer (some ⟨p, 0, none⟩)] w fun r w' => r = .returned (.bool false) ∧ RdAt w' p (l, 8) ∧ w.grownBy w' (some p) := by
  have c0 := h.c0
  have c1 := h.c1
  have c2 := h.c2
  have k0 := h.fz 0
  have k1 := h.fz 1
  have hlt := h.lt
  have he := not_empty t h0
  have hts : t.size ≤ 4611686018427387904 := by rw [HT.out, bs_size]; exact hl
  simp only [← HT.out] at c0
  have n0 : p ≠ w.heap.size := by omega
  have n2 : w.heap.size ≠ p := by omega
  go_enter Try.func18, Try.ntmps18
  go_wp2
  refine bodyPost_ret (results_cell1 rfl _ _ ⟨w.heap.size, 0, none⟩ (.bool false) rfl (Try.isAgg4 _) ?_) rfl ?_
  · go_simp
  · exact ⟨rfl, (h.set1 8).below (below_one _ _), grown_alloc (grown_set (grown_of_below (Below.refl _ _) _) _ (.inl rfl) _) _⟩

set_option maxHeartbeats 1600000 in
set_option maxRecDepth 100000 in
theorem bool_ok (p : Nat) (c : Nat) (l : Bs) (t : ByteArray) (w : World) (h : RdAt w p (l, 0)) (hl : l.length ≤ 4611686018427387904) (HT : Hid (t = bs l)) (h0 : 0 < t.size) (hc : t[0].toNat = c) (hc1 : c ≤ 1) :
    Calls Try.prog 18 #[.pointer (some ⟨p, 0, none⟩)] w fun r w' => r = .returned (.bool (decide (c = 1))) ∧ RdAt w' p (l.drop 1, 0) ∧ w.grownBy w' (some p) := by
  have c0 := h.c0
  have c1 := h.c1
  have c2 := h.c2
  have k0 := h.fz 0
  have k1 := h.fz 1
  have hlt := h.lt
  have he := not_empty t h0
  have hts : t.size ≤ 4611686018427387904 := by rw [HT.out, bs_size]; exact hl
  simp only [← HT.out] at c0
  have n0 : p ≠ w.heap.size := by omega
  have n2 : w.heap.size ≠ p := by omega
  have g0 : w.grownBy w (some p) := grown_of_below (Below.refl _ _) _
  obtain rfl | rfl : c = 0 ∨ c = 1 := by omega
  · clear hc1
    go_enter Try.func18, Try.ntmps18
    go_wp2
    refine bodyPost_ret (results_cell1 rfl _ _ ⟨w.heap.size, 0, none⟩ (.bool false) rfl (Try.isAgg4 _) ?_) rfl ?_
    · go_simp
    · have e1 : t.extract 1 t.size = bs l.tail := by rw [HT.out, bs_drop l 1 _ (bs_size l), List.drop_one]
      have g2 := grown_alloc (grown_set (grown_set g0 ⟨p, 1, none⟩ (.inl rfl) (.int .i64 0)) ⟨p, 0, none⟩ (.inl rfl) (.string (t.extract 1 t.size))) (.cells #[.bool false] 4)
      have r2 := ((h.set1 0).set0 l.tail).below (below_one _ (.cells #[.bool false] 4))
      rw [← e1] at r2
      exact ⟨rfl, r2, g2⟩
  · clear hc1
    go_enter Try.func18, Try.ntmps18
    go_wp2
    refine bodyPost_ret (results_cell1 rfl _ _ ⟨w.heap.size, 0, none⟩ (.bool true) rfl (Try.isAgg4 _) ?_) rfl ?_
    · go_simp
    · have e1 : t.extract 1 t.size = bs l.tail := by rw [HT.out, bs_drop l 1 _ (bs_size l), List.drop_one]
      have g2 := grown_alloc (grown_set (grown_set g0 ⟨p, 1, none⟩ (.inl rfl) (.int .i64 0)) ⟨p, 0, none⟩ (.inl rfl) (.string (t.extract 1 t.size))) (.cells #[.bool true] 4)
      have r2 := ((h.set1 0).set0 l.tail).below (below_one _ (.cells #[.bool true] 4))
      rw [← e1] at r2
      exact ⟨rfl, r2, g2⟩

set_option maxHeartbeats 1600000 in
set_option maxRecDepth 100000 in
theorem rest_stuck (p : Nat) (e : Nat) (l : Bs) (w : World) (h : RdAt w p (l, e)) (he : e ≠ 0) :
    Calls Try.prog 22 #[.pointer (some ⟨p, 0, none⟩)] w fun r w' => r = .returned (.string (bs [])) ∧ RdAt w' p (l, e) ∧ w.grownBy w' (some p) := by
  have he' : ((e : Int) == 0) = false := by rw [beq_eq_false_iff_ne]; omega
  have c0 := h.c0
  have c1 := h.c1
  have c2 := h.c2
  have k0 := h.fz 0
  have k1 := h.fz 1
  have hlt := h.lt
  go_enter Try.func22, Try.ntmps22
  go_wp2
  refine bodyPost_ret (results_cell1 rfl _ _ ⟨w.heap.size, 0, none⟩ (.string ⟨#[]⟩) rfl (Try.isAgg9 _) ?_) rfl ?_
  · go_simp
  · exact ⟨rfl, h.below (below_one _ _), grown_alloc (grown_of_below (Below.refl _ _) _) _⟩

set_option maxHeartbeats 1600000 in
set_option maxRecDepth 100000 in
theorem rest_ok (p : Nat) (l : Bs) (w : World) (h : RdAt w p (l, 0)) (hl : l.length ≤ 4611686018427387904) :
    Calls Try.prog 22 #[.pointer (some ⟨p, 0, none⟩)] w fun r w' => r = .returned (.string (bs l)) ∧ RdAt w' p ([], 0) ∧ w.grownBy w' (some p) := by
  have c0 := h.c0
  have c1 := h.c1
  have c2 := h.c2
  have k0 := h.fz 0
  have k1 := h.fz 1
  have hlt := h.lt
  have g0 : w.grownBy w (some p) := grown_of_below (Below.refl _ _) _
  obtain ⟨t, ht⟩ : ∃ t, t = bs l := ⟨_, rfl⟩
  have hts : t.size ≤ 4611686018427387904 := by rw [ht, bs_size]; exact hl
  simp only [← ht] at c0
  have HT := Lib.hid ht
  clear ht
  have n0 : p ≠ w.heap.size := by omega
  have n2 : w.heap.size ≠ p := by omega
  go_enter Try.func22, Try.ntmps22
  go_wp2
  refine bodyPost_ret (results_cell1 rfl _ _ ⟨w.heap.size, 0, none⟩ (.string t) rfl (Try.isAgg9 _) ?_) rfl ?_
  · go_simp
  · have e1 : ByteArray.empty = bs [] := rfl
    have g2 := grown_alloc (grown_set (grown_set g0 ⟨p, 1, none⟩ (.inl rfl) (.int .i64 0)) ⟨p, 0, none⟩ (.inl rfl) (.string ByteArray.empty)) (.cells #[.string t] 9)
    have r2 := ((h.set1 0).set0 []).below (below_one _ (.cells #[.string t] 9))
    rw [← e1] at r2
    exact ⟨by rw [HT.out], r2, g2⟩

set_option maxHeartbeats 1600000 in
set_option maxRecDepth 100000 in
theorem end_stuck (p : Nat) (e : Nat) (l : Bs) (w : World) (h : RdAt w p (l, e)) (he : e ≠ 0) :
    Calls Try.prog 19 #[.pointer (some ⟨p, 0, none⟩)] w fun r w' => r = .returned (.int .i64 (e : Int)) ∧ RdAt w' p (l, e) ∧ w.grownBy w' (some p) := by
  have he' : ((e : Int) == 0) = false := by rw [beq_eq_false_iff_ne]; omega
  have c0 := h.c0
  have c1 := h.c1
  have c2 := h.c2
  have k0 := h.fz 0
  have k1 := h.fz 1
  have hlt := h.lt
  go_enter Try.func19, Try.ntmps19
  go_wp2
  go_ret
  exact ⟨rfl, h, grown_of_below (Below.refl _ _) _⟩

set_option maxHeartbeats 1600000 in
set_option maxRecDepth 100000 in
theorem end_nil (p : Nat)  (w : World) (h : RdAt w p ([], 0)) :
    Calls Try.prog 19 #[.pointer (some ⟨p, 0, none⟩)] w fun r w' => r = .returned (.int .i64 0) ∧ RdAt w' p ([], 0) ∧ w.grownBy w' (some p) := by
  have c0 := h.c0
  have c1 := h.c1
  have c2 := h.c2
  have k0 := h.fz 0
  have k1 := h.fz 1
  have hlt := h.lt
  have g0 : w.grownBy w (some p) := grown_of_below (Below.refl _ _) _
  have e0 : bs [] = ⟨#[]⟩ := rfl
  simp only [e0] at c0
  go_enter Try.func19, Try.ntmps19
  go_wp2
  go_ret
  have g2 := grown_set (grown_set g0 ⟨p, 1, none⟩ (.inl rfl) (.int .i64 0)) ⟨p, 0, none⟩ (.inl rfl) (.string ⟨#[]⟩)
  have r2 := (h.set1 0).set0 []
  rw [e0] at r2
  exact ⟨rfl, r2, g2⟩

set_option maxHeartbeats 1600000 in
set_option maxRecDepth 100000 in
theorem end_more (p : Nat) (l : Bs) (t : ByteArray) (w : World) (h : RdAt w p (l, 0)) (HT : Hid (t = bs l)) (h0 : 0 < t.size) :
    Calls Try.prog 19 #[.pointer (some ⟨p, 0, none⟩)] w fun r w' => r = .returned (.int .i64 8) ∧ RdAt w' p (l, 8) ∧ w.grownBy w' (some p) := by
  have c0 := h.c0
  have c1 := h.c1
  have c2 := h.c2
  have k0 := h.fz 0
  have k1 := h.fz 1
  have hlt := h.lt
  have g0 : w.grownBy w (some p) := grown_of_below (Below.refl _ _) _
  have he := not_empty t h0
  simp only [← HT.out] at c0
  go_enter Try.func19, Try.ntmps19
  go_wp2
  go_ret
  have g2 := grown_set g0 ⟨p, 1, none⟩ (.inl rfl) (.int .i64 8)
  have r2 := h.set1 8
  exact ⟨rfl, r2, g2⟩

theorem text_calls (p : Nat) (m : Int) (st : St) (w : World) (h : RdAt w p st) (hl : st.1.length ≤ 4611686018427387904) (hm : m ≤ 9223372036854775807) :
    Calls Try.prog 17 #[.pointer (some ⟨p, 0, none⟩), .int .i64 m] w fun r w' => r = .returned (.string (bs (textR m st).1)) ∧ RdAt w' p (textR m st).2 ∧ w.grownBy w' (some p) := by
  obtain ⟨l, e⟩ := st
  by_cases he : e = 0
  · subst he
    obtain ⟨r, hr⟩ : ∃ r, countF l m = r := ⟨_, rfl⟩
    obtain ⟨c, k, g⟩ := r
    have hb := read_bounds l
    by_cases hg : g = 0
    · subst hg
      have hkc : k + c ≤ l.length := by
        unfold countF at hr
        split at hr
        · rename_i h1; simp at hr; exact absurd hr.2.2 h1
        · split at hr
          · simp at hr
          · split at hr
            · simp at hr
            · simp at hr; omega
      have := text_ok p c k m l w h hl hm hr hkc
      simp only [textR, hr, ne_eq, not_true_eq_false, if_false]
      exact this
    · have h0 : c = 0 ∧ k = 0 := by
        unfold countF at hr
        split at hr
        · simp at hr; exact ⟨hr.1.symm, hr.2.1.symm⟩
        · split at hr
          · simp at hr; exact ⟨hr.1.symm, hr.2.1.symm⟩
          · split at hr
            · simp at hr; exact ⟨hr.1.symm, hr.2.1.symm⟩
            · simp at hr; omega
      obtain ⟨rfl, rfl⟩ := h0
      have := text_fail p g m l w h hl hm hr hg
      simp only [textR, hr, ne_eq, not_true_eq_false, if_false, hg, not_false_eq_true, if_true]
      exact this
  · have := text_stuck p e m l he w h
    unfold textR
    rw [if_pos he]
    exact this
theorem boolR_calls (p : Nat) (st : St) (w : World) (h : RdAt w p st) (hl : st.1.length ≤ 4611686018427387904) :
    Calls Try.prog 18 #[.pointer (some ⟨p, 0, none⟩)] w fun r w' => r = .returned (.bool (boolR st).1) ∧ RdAt w' p (boolR st).2 ∧ w.grownBy w' (some p) := by
  obtain ⟨l, e⟩ := st
  by_cases he : e = 0
  · subst he
    cases l with
    | nil => exact bool_nil p w h
    | cons c l =>
      by_cases hc : 1 < c.toNat
      · have := bool_form p c.toNat (c :: l) (bs (c :: l)) w h hl (Lib.hid rfl) (by rw [bs_size]; simp) rfl hc
        simp only [boolR, ne_eq, not_true_eq_false, if_false, if_pos hc]
        exact this
      · have := bool_ok p c.toNat (c :: l) (bs (c :: l)) w h hl (Lib.hid rfl) (by rw [bs_size]; simp) rfl (by omega)
        simp only [boolR, ne_eq, not_true_eq_false, if_false, if_neg hc]
        exact this
  · have := bool_stuck p e l w h he
    unfold boolR
    rw [if_pos he]
    exact this
theorem rest_calls (p : Nat) (st : St) (w : World) (h : RdAt w p st) (hl : st.1.length ≤ 4611686018427387904) :
    Calls Try.prog 22 #[.pointer (some ⟨p, 0, none⟩)] w fun r w' => r = .returned (.string (bs (restR st).1)) ∧ RdAt w' p (restR st).2 ∧ w.grownBy w' (some p) := by
  obtain ⟨l, e⟩ := st
  by_cases he : e = 0
  · subst he
    exact rest_ok p l w h hl
  · have := rest_stuck p e l w h he
    unfold restR
    rw [if_pos he]
    exact this
theorem end_calls (p : Nat) (st : St) (w : World) (h : RdAt w p st) :
    Calls Try.prog 19 #[.pointer (some ⟨p, 0, none⟩)] w fun r w' => r = .returned (.int .i64 ((endR st).2 : Int)) ∧ RdAt w' p (endR st) ∧ w.grownBy w' (some p) := by
  obtain ⟨l, e⟩ := st
  by_cases he : e = 0
  · subst he
    cases l with
    | nil => exact end_nil p w h
    | cons c l => exact end_more p (c :: l) (bs (c :: l)) w h (Lib.hid rfl) (by rw [bs_size]; simp)
  · have := end_stuck p e l w h he
    unfold endR
    rw [if_pos he]
    exact this

end Go.Proofs.Ytaeiahkomdpcoaa.Wire
