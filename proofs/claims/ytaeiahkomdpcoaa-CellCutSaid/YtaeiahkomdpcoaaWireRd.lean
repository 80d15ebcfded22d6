/- The walks of wire.Reader's methods: what a reader answers, and what stands in it behind. -/
import Derived.Test.YtaeiahkomdpcoaaWireMake
namespace Go.Proofs.Ytaeiahkomdpcoaa.Wire
open Go.RowKit Go.Proofs.Ytaeiahkomdpcoaa.Num

theorem grown_of_below {w w' : World} (h : Below w.heap.size w w') (o : Option Nat) : w.grownBy w' o := ⟨h.os, h.tape, h.output, h.size, fun k hk _ => h.block k hk⟩
theorem grown_trans {a b c : World} {o : Option Nat} (h : a.grownBy b o) (k : b.grownBy c o) : a.grownBy c o :=
  ⟨k.os.trans h.os, k.tape.trans h.tape, k.output.trans h.output, Nat.le_trans h.size k.size, fun i hi hne => (k.block i (Nat.lt_of_lt_of_le hi h.size) hne).trans (h.block i hi hne)⟩
theorem grown_set {w wx : World} {p : Nat} (h : w.grownBy wx (some p)) (a : Addr) (ha : a.block = p ∨ w.heap.size ≤ a.block) (v : Value) : w.grownBy (wx.setCell a v) (some p) :=
  ⟨h.os, h.tape, h.output, Nat.le_trans h.size (by simp [World.setCell]), fun k hk hne => (Below.heap_setCell _ _ _ _ (fun e => by
    rcases ha with ha | ha
    · exact hne (by rw [e, ha])
    · omega)).trans (h.block k hk hne)⟩
theorem grown_alloc {w wx : World} {p : Option Nat} (h : w.grownBy wx p) (o : Obj) : w.grownBy (wx.alloc o) p := grown_trans h (grown_of_below (below_one wx o) _)

/-- A reader in block p. -/
def RdAt (w : World) (p : Nat) (st : St) : Prop := w.heap[p]? = some (.cells #[.string (bs st.1), .int .i64 (st.2 : Int), .bool true] 42 (0, 0))
theorem RdAt.lt {w : World} {p : Nat} {st : St} (h : RdAt w p st) : p < w.heap.size := (Array.getElem?_eq_some_iff.1 h).1
theorem RdAt.below {w w' : World} {p : Nat} {st : St} (h : RdAt w p st) (hb : Below w.heap.size w w') : RdAt w' p st := (hb.block _ h.lt).trans h
theorem RdAt.c0 {w : World} {p : Nat} {st : St} (h : RdAt w p st) : w.cell? ⟨p, 0, none⟩ = some (.string (bs st.1)) := by rw [Joins.cell_of_block h]; rfl
theorem RdAt.c1 {w : World} {p : Nat} {st : St} (h : RdAt w p st) : w.cell? ⟨p, 1, none⟩ = some (.int .i64 (st.2 : Int)) := by rw [Joins.cell_of_block h]; rfl
theorem RdAt.c2 {w : World} {p : Nat} {st : St} (h : RdAt w p st) : w.cell? ⟨p, 2, none⟩ = some (.bool true) := by rw [Joins.cell_of_block h]; rfl
theorem RdAt.fz {w : World} {p : Nat} {st : St} (h : RdAt w p st) (i : Nat) : w.frozen? ⟨p, i, none⟩ = false := Lib.frozen_of_heap h i
theorem RdAt.set1 {w : World} {p : Nat} {l : Bs} {e : Nat} (h : RdAt w p (l, e)) (e' : Nat) : RdAt (w.setCell ⟨p, 1, none⟩ (.int .i64 (e' : Int))) p (l, e') := by
  unfold RdAt at h ⊢
  simp [World.setCell, Array.getElem?_modify, h]
theorem RdAt.set0 {w : World} {p : Nat} {l : Bs} {e : Nat} (h : RdAt w p (l, e)) (l' : Bs) : RdAt (w.setCell ⟨p, 0, none⟩ (.string (bs l'))) p (l', e) := by
  unfold RdAt at h ⊢
  simp [World.setCell, Array.getElem?_modify, h]
theorem RdAt.setOther {w : World} {p : Nat} {st : St} (h : RdAt w p st) (a : Addr) (ha : a.block ≠ p) (v : Value) : RdAt (w.setCell a v) p st :=
  (Below.heap_setCell _ _ _ _ (fun e => ha e.symm)).trans h

/-- A named result that lies in a cell. -/
theorem results_cell1 {P : Program} {fn : Func} {p : Tmp} {ty : TypeId} (h : fn.results = #[.cell p ty]) (tmps : Array Value) (w : World) (ad : Addr) (v : Value)
    (hp : tmps.getD p undef = .pointer (some ad)) (hag : (isAgg ty).run P w = .ok false w) (hc : w.cell? ad = some v) : (results fn tmps).run P w = .ok v w := by
  have hp' : tmps[p]?.getD undef = .pointer (some ad) := by simpa using hp
  simp [results, h, hp', asAddr, loadVar, hag, go_sem, hc]

theorem bs_drop (l : Bs) (n m : Nat) (hm : m = l.length) : (bs l).extract n m = bs (l.drop n) := by
  apply ByteArray.ext
  apply Array.toList_inj.1
  rw [Lib.extract_data, hm]
  show (l.drop n).take (l.length - n) = l.drop n
  rw [List.take_of_length_le]
  simp

set_option maxHeartbeats 1600000 in
set_option maxRecDepth 100000 in
theorem num_stuck (p e m : Nat) (l : Bs) (w : World) (h : RdAt w p (l, e)) (he : e ≠ 0) :
    Calls Try.prog 16 #[.pointer (some ⟨p, 0, none⟩), .int .u64 (m : Int)] w fun r w' => r = .returned (.int .u64 0) ∧ RdAt w' p (l, e) ∧ w.grownBy w' (some p) := by
  have c1 := h.c1
  have c2 := h.c2
  have hlt := h.lt
  have he' : ((e : Int) == 0) = false := by rw [beq_eq_false_iff_ne]; omega
  go_enter Try.func16, Try.ntmps16
  go_wp2
  refine bodyPost_ret (results_cell1 rfl _ _ ⟨w.heap.size + 1, 0, none⟩ (.int .u64 0) rfl (Try.isAgg26 _) ?_) rfl ?_
  · simp
  · exact ⟨rfl, (h.below (below_one _ _)).below (below_one _ _), grown_alloc (grown_alloc (grown_of_below (Below.refl _ _) _) _) _⟩

/-- What stands behind a call that was made over two new blocks. -/
theorem after_two {w w1 : World} {p : Nat} {st : St} {a b : Value} {ta tb : TypeId} (h : RdAt w p st) (hb : Below ((w.alloc (.cells #[a] ta)).alloc (.cells #[b] tb)).heap.size ((w.alloc (.cells #[a] ta)).alloc (.cells #[b] tb)) w1) :
    RdAt w1 p st ∧ w.grownBy w1 (some p) ∧ w1.cell? ⟨w.heap.size, 0, none⟩ = some a ∧ w1.cell? ⟨w.heap.size + 1, 0, none⟩ = some b ∧ w1.frozen? ⟨w.heap.size + 1, 0, none⟩ = false ∧
      w1.cell? ⟨p, 0, none⟩ = some (.string (bs st.1)) ∧ w1.cell? ⟨p, 1, none⟩ = some (.int .i64 (st.2 : Int)) ∧ w1.frozen? ⟨p, 0, none⟩ = false ∧ w1.frozen? ⟨p, 1, none⟩ = false ∧ p ≠ w.heap.size ∧ p ≠ w.heap.size + 1 ∧ w.heap.size + 1 ≠ p := by
  have hlt := h.lt
  have h1 := ((h.below (below_one w (.cells #[a] ta))).below (below_one _ (.cells #[b] tb))).below hb
  refine ⟨h1, grown_trans (grown_alloc (grown_alloc (grown_of_below (Below.refl w.heap.size w) (some p)) _) _) (grown_of_below hb (some p)), (hb.cell (p := ⟨w.heap.size, 0, none⟩) (by simp; omega)).trans (by simp), (hb.cell (p := ⟨w.heap.size + 1, 0, none⟩) (by simp)).trans (by simp),
    (hb.frozen (p := ⟨w.heap.size + 1, 0, none⟩) (by simp)).trans (by simp), h1.c0, h1.c1, h1.fz 0, h1.fz 1, by omega, by omega, by omega⟩

set_option maxHeartbeats 1600000 in
set_option maxRecDepth 100000 in
theorem num_ok (p m : Nat) (v k : Nat) (l : Bs) (w : World) (h : RdAt w p (l, 0)) (hl : l.length ≤ 9223372036854775807) (hr : Num.read l = (v, k, 0)) (hm : v ≤ m) :
    Calls Try.prog 16 #[.pointer (some ⟨p, 0, none⟩), .int .u64 (m : Int)] w fun r w' => r = .returned (.int .u64 (v : Int)) ∧ RdAt w' p (l.drop k, 0) ∧ w.grownBy w' (some p) := by
  have hlt := h.lt
  have hk : k ≤ (bs l).size := by rw [bs_size]; have := (read_bounds l).2.1; rw [hr] at this; exact this
  have c0 := h.c0
  have c1 := h.c1
  have c2 := h.c2
  have HR : Hid (∀ W, Calls Try.prog 34 #[.string (bs l)] W fun e w' => e = .returned (.tuple #[.int .u64 (v : Int), .int .i64 (k : Int), .int .i64 0]) ∧ Below W.heap.size W w') := fun W => by
    have h := read_calls (bs l) W (by rw [bs_size]; exact hl)
    rw [bs_data, hr] at h
    exact h
  clear hr
  obtain ⟨t, ht⟩ : ∃ t, t = bs l := ⟨_, rfl⟩
  have hts : t.size ≤ 9223372036854775807 := by rw [ht, bs_size]; exact hl
  simp only [← ht] at c0 hk HR
  have HT := Lib.hid ht
  clear ht
  go_enter Try.func16, Try.ntmps16
  go_wp2_with (first | (go_at_call 32; go_in) | (go_at_call 39; go_in) | (go_at_call 33; go_in))
  refine (HR.out _).mono ?_
  rintro e w1 ⟨rfl, hb1⟩
  obtain ⟨h1, g1, q0, q1, f1, d0, d1, k0, k1, n0, n1, n2⟩ := after_two h hb1
  simp only [← HT.out] at d0
  clear c0 c1 c2
  go_wp2_with (first | (go_at_call 32; go_in) | (go_at_call 39; go_in) | (go_at_call 33; go_in))
  refine bodyPost_ret (results_cell1 rfl _ _ ⟨w.heap.size + 1, 0, none⟩ (.int .u64 (v : Int)) rfl (Try.isAgg26 _) ?_) rfl ?_
  · go_simp
  · refine ⟨rfl, ?_, grown_set (grown_set (grown_set (grown_set g1 _ (.inr (by simp)) _) _ (.inl rfl) _) _ (.inl rfl) _) _ (.inr (by simp)) _⟩
    rw [HT.out, bs_drop l k _ (bs_size l)]
    exact (((h1.setOther _ n2 _).set1 0).set0 _).setOther _ n2 _

set_option maxHeartbeats 1600000 in
set_option maxRecDepth 100000 in
theorem num_fail (p m : Nat) (v k g : Nat) (l : Bs) (w : World) (h : RdAt w p (l, 0)) (hl : l.length ≤ 9223372036854775807) (hr : Num.read l = (v, k, g)) (hg : g ≠ 0) :
    Calls Try.prog 16 #[.pointer (some ⟨p, 0, none⟩), .int .u64 (m : Int)] w fun r w' => r = .returned (.int .u64 0) ∧ RdAt w' p (l, g) ∧ w.grownBy w' (some p) := by
  have hlt := h.lt
  have hg' : ((g : Int) == 0) = false := by rw [beq_eq_false_iff_ne]; omega
  have c0 := h.c0
  have c1 := h.c1
  have c2 := h.c2
  have HR : Hid (∀ W, Calls Try.prog 34 #[.string (bs l)] W fun e w' => e = .returned (.tuple #[.int .u64 (v : Int), .int .i64 (k : Int), .int .i64 (g : Int)]) ∧ Below W.heap.size W w') := fun W => by
    have h := read_calls (bs l) W (by rw [bs_size]; exact hl)
    rw [bs_data, hr] at h
    exact h
  clear hr
  obtain ⟨t, ht⟩ : ∃ t, t = bs l := ⟨_, rfl⟩
  have hts : t.size ≤ 9223372036854775807 := by rw [ht, bs_size]; exact hl
  simp only [← ht] at c0  HR
  have HT := Lib.hid ht
  clear ht
  go_enter Try.func16, Try.ntmps16
  go_wp2_with (first | (go_at_call 32; go_in) | (go_at_call 39; go_in) | (go_at_call 33; go_in))
  refine (HR.out _).mono ?_
  rintro e w1 ⟨rfl, hb1⟩
  obtain ⟨h1, g1, q0, q1, f1, d0, d1, k0, k1, n0, n1, n2⟩ := after_two h hb1
  simp only [← HT.out] at d0
  clear c0 c1 c2
  go_wp2_with (first | (go_at_call 32; go_in) | (go_at_call 39; go_in) | (go_at_call 33; go_in))
  refine bodyPost_ret (results_cell1 rfl _ _ ⟨w.heap.size + 1, 0, none⟩ (.int .u64 0) rfl (Try.isAgg26 _) ?_) rfl ?_
  · go_simp
  · refine ⟨rfl, ?_, grown_set (grown_set (grown_set g1 _ (.inr (by simp)) _) _ (.inl rfl) _) _ (.inr (by simp)) _⟩
    exact ((h1.setOther _ n2 _).set1 g).setOther _ n2 _

set_option maxHeartbeats 1600000 in
set_option maxRecDepth 100000 in
theorem num_over (p m : Nat) (v k : Nat) (l : Bs) (w : World) (h : RdAt w p (l, 0)) (hl : l.length ≤ 9223372036854775807) (hr : Num.read l = (v, k, 0)) (hm : m < v) :
    Calls Try.prog 16 #[.pointer (some ⟨p, 0, none⟩), .int .u64 (m : Int)] w fun r w' => r = .returned (.int .u64 0) ∧ RdAt w' p (l, 9) ∧ w.grownBy w' (some p) := by
  have hlt := h.lt
  have c0 := h.c0
  have c1 := h.c1
  have c2 := h.c2
  have HR : Hid (∀ W, Calls Try.prog 34 #[.string (bs l)] W fun e w' => e = .returned (.tuple #[.int .u64 (v : Int), .int .i64 (k : Int), .int .i64 0]) ∧ Below W.heap.size W w') := fun W => by
    have h := read_calls (bs l) W (by rw [bs_size]; exact hl)
    rw [bs_data, hr] at h
    exact h
  clear hr
  obtain ⟨t, ht⟩ : ∃ t, t = bs l := ⟨_, rfl⟩
  have hts : t.size ≤ 9223372036854775807 := by rw [ht, bs_size]; exact hl
  simp only [← ht] at c0  HR
  have HT := Lib.hid ht
  clear ht
  go_enter Try.func16, Try.ntmps16
  go_wp2_with (first | (go_at_call 32; go_in) | (go_at_call 39; go_in) | (go_at_call 33; go_in))
  refine (HR.out _).mono ?_
  rintro e w1 ⟨rfl, hb1⟩
  obtain ⟨h1, g1, q0, q1, f1, d0, d1, k0, k1, n0, n1, n2⟩ := after_two h hb1
  simp only [← HT.out] at d0
  clear c0 c1 c2
  go_wp2_with (first | (go_at_call 32; go_in) | (go_at_call 39; go_in) | (go_at_call 33; go_in))
  refine bodyPost_ret (results_cell1 rfl _ _ ⟨w.heap.size + 1, 0, none⟩ (.int .u64 0) rfl (Try.isAgg26 _) ?_) rfl ?_
  · go_simp
  · refine ⟨rfl, ?_, grown_set (grown_set (grown_set g1 _ (.inr (by simp)) _) _ (.inl rfl) _) _ (.inr (by simp)) _⟩
    exact ((h1.setOther _ n2 _).set1 9).setOther _ n2 _

theorem num_calls (p m : Nat) (st : St) (w : World) (h : RdAt w p st) (hl : st.1.length ≤ 9223372036854775807) :
    Calls Try.prog 16 #[.pointer (some ⟨p, 0, none⟩), .int .u64 (m : Int)] w fun r w' => r = .returned (.int .u64 ((numR m st).1 : Int)) ∧ RdAt w' p (numR m st).2 ∧ w.grownBy w' (some p) := by
  obtain ⟨l, e⟩ := st
  have hb := read_bounds l
  by_cases he : e = 0
  · subst he
    obtain ⟨r, hr⟩ : ∃ r, Num.read l = r := ⟨_, rfl⟩
    obtain ⟨v, k, g⟩ := r
    rw [hr] at hb
    by_cases hg : g = 0
    · subst hg
      by_cases hm : m < v
      · have := num_over p m v k l w h hl hr hm
        simp only [numR, hr, ne_eq, not_true_eq_false, if_false, if_pos hm]
        exact this
      · have := num_ok p m v k l w h hl hr (by omega)
        simp only [numR, hr, ne_eq, not_true_eq_false, if_false, if_neg hm]
        exact this
    · have := num_fail p m v k g l w h hl hr hg
      simp only [numR, hr, ne_eq, not_true_eq_false, if_false, hg, not_false_eq_true, if_true]
      exact this
  · have := num_stuck p e m l w h he
    unfold numR
    rw [if_pos he]
    exact this

end Go.Proofs.Ytaeiahkomdpcoaa.Wire
