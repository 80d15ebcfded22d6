/- Texts merged into one: part 2 of 12. -/
import Derived.OwnWalk
import Derived.WalkMore
import Derived.Deep.Cut
import Derived.Deep.Slices
import Derived.Laws.StructEq
import Derived.Laws.ResultCell
import Derived.Laws.Rows
import Derived.Test.YtaeiahkomdpcoaaDoorW1

section
/- The walks of wire.Reader's methods: what a reader answers, and what stands in it behind. -/
namespace Go.Proofs.YtaeiahkomdpcoaaDoor.Wire
open Go.RowKit Go.Proofs.YtaeiahkomdpcoaaDoor.Num

theorem grown_of_below {w w' : World} (h : Below w.heap.size w w') (o : Option Nat) : w.grownBy w' o := ⟨h.os, h.tape, h.output, h.size, fun k hk _ => h.block k hk⟩
theorem grown_trans {a b c : World} {o : Option Nat} (h : a.grownBy b o) (k : b.grownBy c o) : a.grownBy c o :=
  ⟨k.os.trans h.os, k.tape.trans h.tape, k.output.trans h.output, Nat.le_trans h.size k.size, fun i hi hne => (k.block i (Nat.lt_of_lt_of_le hi h.size) hne).trans (h.block i hi hne)⟩
theorem grown_set {w wx : World} {p : Nat} (h : w.grownBy wx (some p)) (a : Addr) (ha : a.block = p ∨ w.heap.size ≤ a.block) (v : Value) : w.grownBy (wx.setCell a v) (some p) :=
  ⟨h.os, h.tape, h.output, Nat.le_trans h.size (by simp [World.setCell]), fun k hk hne => (Below.heap_setCell _ _ _ _ (fun e => by
    rcases ha with ha | ha
    · exact hne (by rw [e, ha])
    · omega)).trans (h.block k hk hne)⟩
theorem grown_alloc {w wx : World} {p : Option Nat} (h : w.grownBy wx p) (o : Obj) : w.grownBy (wx.alloc o) p := grown_trans h (grown_of_below (below_one wx o) _)

/-- A reader in block p. -/
def RdAt (w : World) (p : Nat) (st : St) : Prop := w.heap[p]? = some (.cells #[.string (bs st.1), .int .i64 (st.2 : Int), .bool true] 151 (0, 0))
theorem RdAt.lt {w : World} {p : Nat} {st : St} (h : RdAt w p st) : p < w.heap.size := (Array.getElem?_eq_some_iff.1 h).1
theorem RdAt.below {w w' : World} {p : Nat} {st : St} (h : RdAt w p st) (hb : Below w.heap.size w w') : RdAt w' p st := (hb.block _ h.lt).trans h
theorem RdAt.c0 {w : World} {p : Nat} {st : St} (h : RdAt w p st) : w.cell? ⟨p, 0, none⟩ = some (.string (bs st.1)) := by rw [Joins.cell_of_block h]; rfl
theorem RdAt.c1 {w : World} {p : Nat} {st : St} (h : RdAt w p st) : w.cell? ⟨p, 1, none⟩ = some (.int .i64 (st.2 : Int)) := by rw [Joins.cell_of_block h]; rfl
theorem RdAt.c2 {w : World} {p : Nat} {st : St} (h : RdAt w p st) : w.cell? ⟨p, 2, none⟩ = some (.bool true) := by rw [Joins.cell_of_block h]; rfl
theorem RdAt.fz {w : World} {p : Nat} {st : St} (h : RdAt w p st) (i : Nat) : w.frozen? ⟨p, i, none⟩ = false := Lib.frozen_of_heap h i
theorem RdAt.set1 {w : World} {p : Nat} {l : Bs} {e : Nat} (h : RdAt w p (l, e)) (e' : Nat) : RdAt (w.setCell ⟨p, 1, none⟩ (.int .i64 (e' : Int))) p (l, e') := by
  unfold RdAt at h ⊢
  simp [World.setCell, Array.getElem?_modify, h]
theorem RdAt.set0 {w : World} {p : Nat} {l : Bs} {e : Nat} (h : RdAt w p (l, e)) (l' : Bs) : RdAt (w.setCell ⟨p, 0, none⟩ (.string (bs l'))) p (l', e) := by
  unfold RdAt at h ⊢
  simp [World.setCell, Array.getElem?_modify, h]
theorem RdAt.setOther {w : World} {p : Nat} {st : St} (h : RdAt w p st) (a : Addr) (ha : a.block ≠ p) (v : Value) : RdAt (w.setCell a v) p st :=
  (Below.heap_setCell _ _ _ _ (fun e => ha e.symm)).trans h

/-- A named result that lies in a cell. -/
theorem results_cell1 {P : Program} {fn : Func} {p : Tmp} {ty : TypeId} (h : fn.results = #[.cell p ty]) (tmps : Array Value) (w : World) (ad : Addr) (v : Value)
    (hp : tmps.getD p undef = .pointer (some ad)) (hag : (isAgg ty).run P w = .ok false w) (hc : w.cell? ad = some v) : (results fn tmps).run P w = .ok v w := by
  have hp' : tmps[p]?.getD undef = .pointer (some ad) := by simpa using hp
  simp [results, h, hp', asAddr, loadVar, hag, go_sem, hc]

theorem bs_drop (l : Bs) (n m : Nat) (hm : m = l.length) : (bs l).extract n m = bs (l.drop n) := by
  apply ByteArray.ext
  apply Array.toList_inj.1
  rw [Lib.extract_data, hm]
  show (l.drop n).take (l.length - n) = l.drop n
  rw [List.take_of_length_le]
  simp

set_option maxHeartbeats 1600000 in
set_option maxRecDepth 100000 in
theorem num_stuck (p e m : Nat) (l : Bs) (w : World) (h : RdAt w p (l, e)) (he : e ≠ 0) :
    Calls Tryd.prog 94 #[.pointer (some ⟨p, 0, none⟩), .int .u64 (m : Int)] w fun r w' => r = .returned (.int .u64 0) ∧ RdAt w' p (l, e) ∧ w.grownBy w' (some p) := by
  have c1 := h.c1
  have c2 := h.c2
  have hlt := h.lt
  have he' : ((e : Int) == 0) = false := by rw [beq_eq_false_iff_ne]; omega
  go_enter Tryd.func94, Tryd.ntmps94
  go_wp2
  refine bodyPost_ret (results_cell1 rfl _ _ ⟨w.heap.size + 1, 0, none⟩ (.int .u64 0) rfl (Tryd.isAgg22 _) ?_) rfl ?_
  · simp
  · exact ⟨rfl, (h.below (below_one _ _)).below (below_one _ _), grown_alloc (grown_alloc (grown_of_below (Below.refl _ _) _) _) _⟩

/-- What stands behind a call that was made over two new blocks. -/
theorem after_two {w w1 : World} {p : Nat} {st : St} {a b : Value} {ta tb : TypeId} (h : RdAt w p st) (hb : Below ((w.alloc (.cells #[a] ta)).alloc (.cells #[b] tb)).heap.size ((w.alloc (.cells #[a] ta)).alloc (.cells #[b] tb)) w1) :
    RdAt w1 p st ∧ w.grownBy w1 (some p) ∧ w1.cell? ⟨w.heap.size, 0, none⟩ = some a ∧ w1.cell? ⟨w.heap.size + 1, 0, none⟩ = some b ∧ w1.frozen? ⟨w.heap.size + 1, 0, none⟩ = false ∧
      w1.cell? ⟨p, 0, none⟩ = some (.string (bs st.1)) ∧ w1.cell? ⟨p, 1, none⟩ = some (.int .i64 (st.2 : Int)) ∧ w1.frozen? ⟨p, 0, none⟩ = false ∧ w1.frozen? ⟨p, 1, none⟩ = false ∧ p ≠ w.heap.size ∧ p ≠ w.heap.size + 1 ∧ w.heap.size + 1 ≠ p := by
  have hlt := h.lt
  have h1 := ((h.below (below_one w (.cells #[a] ta))).below (below_one _ (.cells #[b] tb))).below hb
  refine ⟨h1, grown_trans (grown_alloc (grown_alloc (grown_of_below (Below.refl w.heap.size w) (some p)) _) _) (grown_of_below hb (some p)), (hb.cell (p := ⟨w.heap.size, 0, none⟩) (by simp; omega)).trans (by simp), (hb.cell (p := ⟨w.heap.size + 1, 0, none⟩) (by simp)).trans (by simp),
    (hb.frozen (p := ⟨w.heap.size + 1, 0, none⟩) (by simp)).trans (by simp), h1.c0, h1.c1, h1.fz 0, h1.fz 1, by omega, by omega, by omega⟩

set_option maxHeartbeats 1600000 in
set_option maxRecDepth 100000 in
theorem num_ok (p m : Nat) (v k : Nat) (l : Bs) (w : World) (h : RdAt w p (l, 0)) (hl : l.length ≤ 9223372036854775807) (hr : Num.read l = (v, k, 0)) (hm : v ≤ m) :
    Calls Tryd.prog 94 #[.pointer (some ⟨p, 0, none⟩), .int .u64 (m : Int)] w fun r w' => r = .returned (.int .u64 (v : Int)) ∧ RdAt w' p (l.drop k, 0) ∧ w.grownBy w' (some p) := by
  have hlt := h.lt
  have hk : k ≤ (bs l).size := by rw [bs_size]; have := (read_bounds l).2.1; rw [hr] at this; exact this
  have c0 := h.c0
  have c1 := h.c1
  have c2 := h.c2
  have HR : Hid (∀ W, Calls Tryd.prog 116 #[.string (bs l)] W fun e w' => e = .returned (.tuple #[.int .u64 (v : Int), .int .i64 (k : Int), .int .i64 0]) ∧ Below W.heap.size W w') := fun W => by
    have h := read_calls (bs l) W (by rw [bs_size]; exact hl)
    rw [bs_data, hr] at h
    exact h
  clear hr
  obtain ⟨t, ht⟩ : ∃ t, t = bs l := ⟨_, rfl⟩
  have hts : t.size ≤ 9223372036854775807 := by rw [ht, bs_size]; exact hl
  simp only [← ht] at c0 hk HR
  have HT := Lib.hid ht
  clear ht
  go_enter Tryd.func94, Tryd.ntmps94
  go_wp2_with (first | (go_at_call 114; go_in) | (go_at_call 129; go_in) | (go_at_call 115; go_in))
  refine (HR.out _).mono ?_
  rintro e w1 ⟨rfl, hb1⟩
  obtain ⟨h1, g1, q0, q1, f1, d0, d1, k0, k1, n0, n1, n2⟩ := after_two h hb1
  simp only [← HT.out] at d0
  clear c0 c1 c2
  go_wp2_with (first | (go_at_call 114; go_in) | (go_at_call 129; go_in) | (go_at_call 115; go_in))
  refine bodyPost_ret (results_cell1 rfl _ _ ⟨w.heap.size + 1, 0, none⟩ (.int .u64 (v : Int)) rfl (Tryd.isAgg22 _) ?_) rfl ?_
  · go_simp
  · refine ⟨rfl, ?_, grown_set (grown_set (grown_set (grown_set g1 _ (.inr (by simp)) _) _ (.inl rfl) _) _ (.inl rfl) _) _ (.inr (by simp)) _⟩
    rw [HT.out, bs_drop l k _ (bs_size l)]
    exact (((h1.setOther _ n2 _).set1 0).set0 _).setOther _ n2 _

set_option maxHeartbeats 1600000 in
set_option maxRecDepth 100000 in
theorem num_fail (p m : Nat) (v k g : Nat) (l : Bs) (w : World) (h : RdAt w p (l, 0)) (hl : l.length ≤ 9223372036854775807) (hr : Num.read l = (v, k, g)) (hg : g ≠ 0) :
    Calls Tryd.prog 94 #[.pointer (some ⟨p, 0, none⟩), .int .u64 (m : Int)] w fun r w' => r = .returned (.int .u64 0) ∧ RdAt w' p (l, g) ∧ w.grownBy w' (some p) := by
  have hlt := h.lt
  have hg' : ((g : Int) == 0) = false := by rw [beq_eq_false_iff_ne]; omega
  have c0 := h.c0
  have c1 := h.c1
  have c2 := h.c2
  have HR : Hid (∀ W, Calls Tryd.prog 116 #[.string (bs l)] W fun e w' => e = .returned (.tuple #[.int .u64 (v : Int), .int .i64 (k : Int), .int .i64 (g : Int)]) ∧ Below W.heap.size W w') := fun W => by
    have h := read_calls (bs l) W (by rw [bs_size]; exact hl)
    rw [bs_data, hr] at h
    exact h
  clear hr
  obtain ⟨t, ht⟩ : ∃ t, t = bs l := ⟨_, rfl⟩
  have hts : t.size ≤ 9223372036854775807 := by rw [ht, bs_size]; exact hl
  simp only [← ht] at c0  HR
  have HT := Lib.hid ht
  clear ht
  go_enter Tryd.func94, Tryd.ntmps94
  go_wp2_with (first | (go_at_call 114; go_in) | (go_at_call 129; go_in) | (go_at_call 115; go_in))
  refine (HR.out _).mono ?_
  rintro e w1 ⟨rfl, hb1⟩
  obtain ⟨h1, g1, q0, q1, f1, d0, d1, k0, k1, n0, n1, n2⟩ := after_two h hb1
  simp only [← HT.out] at d0
  clear c0 c1 c2
  go_wp2_with (first | (go_at_call 114; go_in) | (go_at_call 129; go_in) | (go_at_call 115; go_in))
  refine bodyPost_ret (results_cell1 rfl _ _ ⟨w.heap.size + 1, 0, none⟩ (.int .u64 0) rfl (Tryd.isAgg22 _) ?_) rfl ?_
  · go_simp
  · refine ⟨rfl, ?_, grown_set (grown_set (grown_set g1 _ (.inr (by simp)) _) _ (.inl rfl) _) _ (.inr (by simp)) _⟩
    exact ((h1.setOther _ n2 _).set1 g).setOther _ n2 _

set_option maxHeartbeats 1600000 in
set_option maxRecDepth 100000 in
theorem num_over (p m : Nat) (v k : Nat) (l : Bs) (w : World) (h : RdAt w p (l, 0)) (hl : l.length ≤ 9223372036854775807) (hr : Num.read l = (v, k, 0)) (hm : m < v) :
    Calls Tryd.prog 94 #[.pointer (some ⟨p, 0, none⟩), .int .u64 (m : Int)] w fun r w' => r = .returned (.int .u64 0) ∧ RdAt w' p (l, 9) ∧ w.grownBy w' (some p) := by
  have hlt := h.lt
  have c0 := h.c0
  have c1 := h.c1
  have c2 := h.c2
  have HR : Hid (∀ W, Calls Tryd.prog 116 #[.string (bs l)] W fun e w' => e = .returned (.tuple #[.int .u64 (v : Int), .int .i64 (k : Int), .int .i64 0]) ∧ Below W.heap.size W w') := fun W => by
    have h := read_calls (bs l) W (by rw [bs_size]; exact hl)
    rw [bs_data, hr] at h
    exact h
  clear hr
  obtain ⟨t, ht⟩ : ∃ t, t = bs l := ⟨_, rfl⟩
  have hts : t.size ≤ 9223372036854775807 := by rw [ht, bs_size]; exact hl
  simp only [← ht] at c0  HR
  have HT := Lib.hid ht
  clear ht
  go_enter Tryd.func94, Tryd.ntmps94
  go_wp2_with (first | (go_at_call 114; go_in) | (go_at_call 129; go_in) | (go_at_call 115; go_in))
  refine (HR.out _).mono ?_
  rintro e w1 ⟨rfl, hb1⟩
  obtain ⟨h1, g1, q0, q1, f1, d0, d1, k0, k1, n0, n1, n2⟩ := after_two h hb1
  simp only [← HT.out] at d0
  clear c0 c1 c2
  go_wp2_with (first | (go_at_call 114; go_in) | (go_at_call 129; go_in) | (go_at_call 115; go_in))
  refine bodyPost_ret (results_cell1 rfl _ _ ⟨w.heap.size + 1, 0, none⟩ (.int .u64 0) rfl (Tryd.isAgg22 _) ?_) rfl ?_
  · go_simp
  · refine ⟨rfl, ?_, grown_set (grown_set (grown_set g1 _ (.inr (by simp)) _) _ (.inl rfl) _) _ (.inr (by simp)) _⟩
    exact ((h1.setOther _ n2 _).set1 9).setOther _ n2 _

theorem num_calls (p m : Nat) (st : St) (w : World) (h : RdAt w p st) (hl : st.1.length ≤ 9223372036854775807) :
    Calls Tryd.prog 94 #[.pointer (some ⟨p, 0, none⟩), .int .u64 (m : Int)] w fun r w' => r = .returned (.int .u64 ((numR m st).1 : Int)) ∧ RdAt w' p (numR m st).2 ∧ w.grownBy w' (some p) := by
  obtain ⟨l, e⟩ := st
  have hb := read_bounds l
  by_cases he : e = 0
  · subst he
    obtain ⟨r, hr⟩ : ∃ r, Num.read l = r := ⟨_, rfl⟩
    obtain ⟨v, k, g⟩ := r
    rw [hr] at hb
    by_cases hg : g = 0
    · subst hg
      by_cases hm : m < v
      · have := num_over p m v k l w h hl hr hm
        simp only [numR, hr, ne_eq, not_true_eq_false, if_false, if_pos hm]
        exact this
      · have := num_ok p m v k l w h hl hr (by omega)
        simp only [numR, hr, ne_eq, not_true_eq_false, if_false, if_neg hm]
        exact this
    · have := num_fail p m v k g l w h hl hr hg
      simp only [numR, hr, ne_eq, not_true_eq_false, if_false, hg, not_false_eq_true, if_true]
      exact this
  · have := num_stuck p e m l w h he
    unfold numR
    rw [if_pos he]
    exact this

end Go.Proofs.YtaeiahkomdpcoaaDoor.Wire
end

section
/- The walks of wire's counted and of a reader's Text, Bool, Rest, Err, End. -/
namespace Go.Proofs.YtaeiahkomdpcoaaDoor.Wire
open Go.RowKit Go.Proofs.YtaeiahkomdpcoaaDoor.Num

def tri (c : Nat × Nat × Nat) : Value := .tuple #[.int .i64 (c.1 : Int), .int .i64 (c.2.1 : Int), .int .i64 (c.2.2 : Int)]
def endR (st : St) : St := if st.2 ≠ 0 then st else if st.1 = [] then ([], 0) else (st.1, 8)
def restR (st : St) : Bs × St := if st.2 ≠ 0 then ([], st) else (st.1, ([], 0))

theorem bs_slice (l : Bs) (n c : Nat) : (bs l).extract n (n + c) = bs ((l.drop n).take c) := by
  apply ByteArray.ext
  apply Array.toList_inj.1
  rw [Lib.extract_data]
  show (l.drop n).take (n + c - n) = (l.drop n).take c
  rw [Nat.add_sub_cancel_left]

set_option maxHeartbeats 1600000 in
set_option maxRecDepth 100000 in
theorem counted_walk (l : Bs) (most : Int) (v k g : Nat) (w : World) (hl : l.length ≤ 4611686018427387904) (hm : most ≤ 9223372036854775807) (hr : Num.read l = (v, k, g)) :
    Calls Tryd.prog 118 #[.string (bs l), .int .i64 most] w fun r w' => r = .returned (tri (if g ≠ 0 then (0, 0, g) else if most < 0 ∨ most < (v : Int) then (0, 0, 4) else if l.length - k < v then (0, 0, 10) else (v, k, 0))) ∧ Below w.heap.size w w' := by
  have hb := read_bounds l
  rw [hr] at hb
  have hk : k ≤ (bs l).size := by rw [bs_size]; exact hb.2.1
  have hk9 : k ≤ 9 := hb.2.2.1
  have hv : v < 18446744073709551616 := hb.1
  have HR : Hid (∀ W, Calls Tryd.prog 116 #[.string (bs l)] W fun e w' => e = .returned (.tuple #[.int .u64 (v : Int), .int .i64 (k : Int), .int .i64 (g : Int)]) ∧ Below W.heap.size W w') := fun W => by
    have h := read_calls (bs l) W (by rw [bs_size]; unfold maxLen; omega)
    rw [bs_data, hr] at h
    exact h
  have hls := bs_size l
  clear hr hb
  obtain ⟨t, ht⟩ : ∃ t, t = bs l := ⟨_, rfl⟩
  obtain ⟨n, hn⟩ : ∃ n, n = l.length := ⟨_, rfl⟩
  rw [← hn] at hls hl
  simp only [← ht] at hk HR hls
  rw [← ht, ← hn]
  clear ht hn
  have hts : t.size ≤ 4611686018427387904 := by omega
  subst hls
  by_cases hg : g = 0
  · subst hg
    simp only [ne_eq, not_true_eq_false, if_false]
    by_cases hm0 : most < 0
    · rw [if_pos (.inl hm0)]
      have HM := Lib.hid hv
      go_enter Tryd.func118, Tryd.ntmps118
      go_wp2_with fail
      refine (HR.out _).mono ?_
      rintro e w1 ⟨rfl, hb1⟩
      go_wp2
      go_ret3
      exact ⟨rfl, hb1⟩
    · by_cases hmv : most < (v : Int)
      · rw [if_pos (.inr hmv)]
        have hw : IntKind.u64.wrap most = most := IntWalk.u64_in _ (by omega)
        go_enter Tryd.func118, Tryd.ntmps118
        go_wp2_with fail
        refine (HR.out _).mono ?_
        rintro e w1 ⟨rfl, hb1⟩
        go_wp2
        go_ret3
        exact ⟨rfl, hb1⟩
      · rw [if_neg (by omega)]
        have hw : IntKind.u64.wrap most = most := IntWalk.u64_in _ (by omega)
        have hw2 : IntKind.i64.wrap (v : Int) = (v : Int) := IntWalk.i64_in _ (by omega)
        have hv63 : ¬ (9223372036854775807 : Int) < (v : Int) := by omega
        have hw3 : IntKind.i64.wrap ((t.size : Int) - (k : Int)) = (t.size : Int) - (k : Int) := IntWalk.i64_in _ (by omega)
        by_cases hs : t.size - k < v
        · rw [if_pos hs]
          have hs' : (t.size : Int) - (k : Int) < (v : Int) := by omega
          go_enter Tryd.func118, Tryd.ntmps118
          go_wp2_with fail
          refine (HR.out _).mono ?_
          rintro e w1 ⟨rfl, hb1⟩
          go_wp2
          go_ret3
          exact ⟨rfl, hb1⟩
        · rw [if_neg hs]
          have hs' : ¬ (t.size : Int) - (k : Int) < (v : Int) := by omega
          go_enter Tryd.func118, Tryd.ntmps118
          go_wp2_with fail
          refine (HR.out _).mono ?_
          rintro e w1 ⟨rfl, hb1⟩
          go_wp2
          go_ret3
          exact ⟨rfl, hb1⟩
  · rw [if_pos hg]
    have hg' : ((g : Int) == 0) = false := by rw [beq_eq_false_iff_ne]; omega
    clear hg hv
    go_enter Tryd.func118, Tryd.ntmps118
    go_wp2_with fail
    refine (HR.out _).mono ?_
    rintro e w1 ⟨rfl, hb1⟩
    go_wp2
    go_ret3
    exact ⟨rfl, hb1⟩

end Go.Proofs.YtaeiahkomdpcoaaDoor.Wire
end

section
/- The walks of a reader's Text, Bool, Rest, Err, End. -/
namespace Go.Proofs.YtaeiahkomdpcoaaDoor.Wire
open Go.RowKit Go.Proofs.YtaeiahkomdpcoaaDoor.Num

theorem counted_calls (l : Bs) (most : Int) (w : World) (hl : l.length ≤ 4611686018427387904) (hm : most ≤ 9223372036854775807) :
    Calls Tryd.prog 118 #[.string (bs l), .int .i64 most] w fun r w' => r = .returned (tri (countF l most)) ∧ Below w.heap.size w w' := by
  obtain ⟨r, hr⟩ : ∃ r, Num.read l = r := ⟨_, rfl⟩
  obtain ⟨v, k, g⟩ := r
  have := counted_walk l most v k g w hl hm hr
  unfold countF
  rw [hr]
  exact this

set_option maxHeartbeats 1600000 in
set_option maxRecDepth 100000 in
theorem text_stuck (p : Nat) (e : Nat) (m : Int) (l : Bs) (he : e ≠ 0) (w : World) (h : RdAt w p (l, e)) :
    Calls Tryd.prog 95 #[.pointer (some ⟨p, 0, none⟩), .int .i64 m] w fun r w' => r = .returned (.string (bs [])) ∧ RdAt w' p (l, e) ∧ w.grownBy w' (some p) := by
  have he' : ((e : Int) == 0) = false := by rw [beq_eq_false_iff_ne]; omega
  have c0 := h.c0
  have c1 := h.c1
  have c2 := h.c2
  have k0 := h.fz 0
  have k1 := h.fz 1
  have hlt := h.lt
  go_enter Tryd.func95, Tryd.ntmps95
  go_wp2
  refine bodyPost_ret (results_cell1 rfl _ _ ⟨w.heap.size + 1, 0, none⟩ (.string ⟨#[]⟩) rfl (Tryd.isAgg9 _) ?_) rfl ?_
  · go_simp
  · exact ⟨rfl, (h.below (below_one _ _)).below (below_one _ _), grown_alloc (grown_alloc (grown_of_below (Below.refl _ _) _) _) _⟩

set_option maxHeartbeats 1600000 in
set_option maxRecDepth 100000 in
theorem text_ok (p : Nat) (c k : Nat) (m : Int) (l : Bs) (w : World) (h : RdAt w p (l, 0)) (hl : l.length ≤ 4611686018427387904) (hm : m ≤ 9223372036854775807) (hr : countF l m = (c, k, 0)) (hkc : k + c ≤ l.length) :
    Calls Tryd.prog 95 #[.pointer (some ⟨p, 0, none⟩), .int .i64 m] w fun r w' => r = .returned (.string (bs ((l.drop k).take c))) ∧ RdAt w' p (l.drop (k + c), 0) ∧ w.grownBy w' (some p) := by
  have c0 := h.c0
  have c1 := h.c1
  have c2 := h.c2
  have hlt := h.lt
  have hk : k + c ≤ (bs l).size := by rw [bs_size]; exact hkc
  have HR : Hid (∀ W, Calls Tryd.prog 118 #[.string (bs l), .int .i64 m] W fun e w' => e = .returned (.tuple #[.int .i64 (c : Int), .int .i64 (k : Int), .int .i64 0]) ∧ Below W.heap.size W w') := fun W => by
    have h := counted_calls l m W hl hm
    rw [hr] at h
    exact h
  clear hr
  obtain ⟨t, ht⟩ : ∃ t, t = bs l := ⟨_, rfl⟩
  have hts : t.size ≤ 4611686018427387904 := by rw [ht, bs_size]; exact hl
  simp only [← ht] at c0 hk HR
  have HT := Lib.hid ht
  clear ht
  go_enter Tryd.func95, Tryd.ntmps95
  go_wp2_with (first | (go_at_call 114; go_in) | (go_at_call 129; go_in) | (go_at_call 117; go_in))
  refine (HR.out _).mono ?_
  rintro e w1 ⟨rfl, hb1⟩
  obtain ⟨h1, g1, q0, q1, f1, d0, d1, k0, k1, n0, n1, n2⟩ := after_two h hb1
  simp only [← HT.out] at d0
  clear c0 c1 c2
  go_wp2_with (first | (go_at_call 114; go_in) | (go_at_call 129; go_in) | (go_at_call 117; go_in))
  refine bodyPost_ret (results_cell1 rfl _ _ ⟨w.heap.size + 1, 0, none⟩ (.string (t.extract k (k + c))) rfl (Tryd.isAgg9 _) ?_) rfl ?_
  · go_simp
  · refine ⟨?_, ?_, grown_set (grown_set (grown_set (grown_set g1 _ (.inr (by simp)) _) _ (.inl rfl) _) _ (.inl rfl) _) _ (.inr (by simp)) _⟩
    · rw [HT.out, bs_slice]
    · rw [HT.out, bs_drop l (k + c) _ (bs_size l)]
      exact (((h1.setOther _ n2 _).set1 0).set0 _).setOther _ n2 _

set_option maxHeartbeats 1600000 in
set_option maxRecDepth 100000 in
theorem text_fail (p : Nat) (g : Nat) (m : Int) (l : Bs) (w : World) (h : RdAt w p (l, 0)) (hl : l.length ≤ 4611686018427387904) (hm : m ≤ 9223372036854775807) (hr : countF l m = (0, 0, g)) (hg : g ≠ 0) :
    Calls Tryd.prog 95 #[.pointer (some ⟨p, 0, none⟩), .int .i64 m] w fun r w' => r = .returned (.string (bs [])) ∧ RdAt w' p (l, g) ∧ w.grownBy w' (some p) := by
  have c0 := h.c0
  have c1 := h.c1
  have c2 := h.c2
  have hlt := h.lt
  have hg' : ((g : Int) == 0) = false := by rw [beq_eq_false_iff_ne]; omega
  have HR : Hid (∀ W, Calls Tryd.prog 118 #[.string (bs l), .int .i64 m] W fun e w' => e = .returned (.tuple #[.int .i64 0, .int .i64 0, .int .i64 (g : Int)]) ∧ Below W.heap.size W w') := fun W => by
    have h := counted_calls l m W hl hm
    rw [hr] at h
    exact h
  clear hr
  obtain ⟨t, ht⟩ : ∃ t, t = bs l := ⟨_, rfl⟩
  have hts : t.size ≤ 4611686018427387904 := by rw [ht, bs_size]; exact hl
  simp only [← ht] at c0  HR
  have HT := Lib.hid ht
  clear ht
  go_enter Tryd.func95, Tryd.ntmps95
  go_wp2_with (first | (go_at_call 114; go_in) | (go_at_call 129; go_in) | (go_at_call 117; go_in))
  refine (HR.out _).mono ?_
  rintro e w1 ⟨rfl, hb1⟩
  obtain ⟨h1, g1, q0, q1, f1, d0, d1, k0, k1, n0, n1, n2⟩ := after_two h hb1
  simp only [← HT.out] at d0
  clear c0 c1 c2
  go_wp2_with (first | (go_at_call 114; go_in) | (go_at_call 129; go_in) | (go_at_call 117; go_in))
  refine bodyPost_ret (results_cell1 rfl _ _ ⟨w.heap.size + 1, 0, none⟩ (.string (t.extract 0 0)) rfl (Tryd.isAgg9 _) ?_) rfl ?_
  · go_simp
  · refine ⟨?_, ?_, grown_set (grown_set (grown_set g1 _ (.inr (by simp)) _) _ (.inl rfl) _) _ (.inr (by simp)) _⟩
    · rw [HT.out, bs_slice l 0 0]; rfl
    · exact ((h1.setOther _ n2 _).set1 g).setOther _ n2 _

set_option maxRecDepth 100000 in
theorem err_calls (p : Nat) (st : St) (w : World) (h : RdAt w p st) :
    Calls Tryd.prog 119 #[.pointer (some ⟨p, 0, none⟩)] w fun r w' => r = .returned (.int .i64 (st.2 : Int)) ∧ w' = w := by
  have c1 := h.c1
  have c2 := h.c2
  go_enter Tryd.func119, Tryd.ntmps119
  go_wp2
  go_ret
  exact ⟨rfl, rfl⟩

set_option maxHeartbeats 1600000 in
set_option maxRecDepth 100000 in
theorem bool_stuck (p : Nat) (e : Nat) (l : Bs) (w : World) (h : RdAt w p (l, e)) (he : e ≠ 0) :
    Calls Tryd.prog 97 #[.pointer (some ⟨p, 0, none⟩)] w fun r w' => r = .returned (.bool false) ∧ RdAt w' p (l, e) ∧ w.grownBy w' (some p) := by
  have he' : ((e : Int) == 0) = false := by rw [beq_eq_false_iff_ne]; omega
  have c0 := h.c0
  have c1 := h.c1
  have c2 := h.c2
  have k0 := h.fz 0
  have k1 := h.fz 1
  have hlt := h.lt
  go_enter Tryd.func97, Tryd.ntmps97
  go_wp2
  refine bodyPost_ret (results_cell1 rfl _ _ ⟨w.heap.size, 0, none⟩ (.bool false) rfl (Tryd.isAgg4 _) ?_) rfl ?_
  · go_simp
  · exact ⟨rfl, h.below (below_one _ _), grown_alloc (grown_of_below (Below.refl _ _) _) _⟩

set_option maxHeartbeats 1600000 in
set_option maxRecDepth 100000 in
theorem bool_nil (p : Nat)  (w : World) (h : RdAt w p ([], 0)) :
    Calls Tryd.prog 97 #[.pointer (some ⟨p, 0, none⟩)] w fun r w' => r = .returned (.bool false) ∧ RdAt w' p ([], 10) ∧ w.grownBy w' (some p) := by
  have c0 := h.c0
  have c1 := h.c1
  have c2 := h.c2
  have k0 := h.fz 0
  have k1 := h.fz 1
  have hlt := h.lt
  have e0 : bs [] = ⟨#[]⟩ := rfl
  simp only [e0] at c0
  have n0 : p ≠ w.heap.size := by omega
  have n2 : w.heap.size ≠ p := by omega
  go_enter Tryd.func97, Tryd.ntmps97
  go_wp2
  refine bodyPost_ret (results_cell1 rfl _ _ ⟨w.heap.size, 0, none⟩ (.bool false) rfl (Tryd.isAgg4 _) ?_) rfl ?_
  · go_simp
  · exact ⟨rfl, (h.set1 10).below (below_one _ _), grown_alloc (grown_set (grown_of_below (Below.refl _ _) _) _ (.inl rfl) _) _⟩

set_option maxHeartbeats 1600000 in
set_option maxRecDepth 100000 in
theorem bool_form (p : Nat) (c : Nat) (l : Bs) (t : ByteArray) (w : World) (h : RdAt w p (l, 0)) (hl : l.length ≤ 4611686018427387904) (HT : Hid (t = bs l)) (h0 : 0 < t.size) (hc : t[0].toNat = c) (hc1 : 1 < c) :
    Calls Tryd.prog 97 #[.pointer (some ⟨p, 0, none⟩)] w fun r w' => r = .returned (.bool false) ∧ RdAt w' p (l, 8) ∧ w.grownBy w' (some p) := by
  have c0 := h.c0
  have c1 := h.c1
  have c2 := h.c2
  have k0 := h.fz 0
  have k1 := h.fz 1
  have hlt := h.lt
  have he := not_empty t h0
  have hts : t.size ≤ 4611686018427387904 := by rw [HT.out, bs_size]; exact hl
  simp only [← HT.out] at c0
  have n0 : p ≠ w.heap.size := by omega
  have n2 : w.heap.size ≠ p := by omega
  go_enter Tryd.func97, Tryd.ntmps97
  go_wp2
  refine bodyPost_ret (results_cell1 rfl _ _ ⟨w.heap.size, 0, none⟩ (.bool false) rfl (Tryd.isAgg4 _) ?_) rfl ?_
  · go_simp
  · exact ⟨rfl, (h.set1 8).below (below_one _ _), grown_alloc (grown_set (grown_of_below (Below.refl _ _) _) _ (.inl rfl) _) _⟩

set_option maxHeartbeats 1600000 in
set_option maxRecDepth 100000 in
theorem bool_ok (p : Nat) (c : Nat) (l : Bs) (t : ByteArray) (w : World) (h : RdAt w p (l, 0)) (hl : l.length ≤ 4611686018427387904) (HT : Hid (t = bs l)) (h0 : 0 < t.size) (hc : t[0].toNat = c) (hc1 : c ≤ 1) :
    Calls Tryd.prog 97 #[.pointer (some ⟨p, 0, none⟩)] w fun r w' => r = .returned (.bool (decide (c = 1))) ∧ RdAt w' p (l.drop 1, 0) ∧ w.grownBy w' (some p) := by
  have c0 := h.c0
  have c1 := h.c1
  have c2 := h.c2
  have k0 := h.fz 0
  have k1 := h.fz 1
  have hlt := h.lt
  have he := not_empty t h0
  have hts : t.size ≤ 4611686018427387904 := by rw [HT.out, bs_size]; exact hl
  simp only [← HT.out] at c0
  have n0 : p ≠ w.heap.size := by omega
  have n2 : w.heap.size ≠ p := by omega
  have g0 : w.grownBy w (some p) := grown_of_below (Below.refl _ _) _
  obtain rfl | rfl : c = 0 ∨ c = 1 := by omega
  · clear hc1
    go_enter Tryd.func97, Tryd.ntmps97
    go_wp2
    refine bodyPost_ret (results_cell1 rfl _ _ ⟨w.heap.size, 0, none⟩ (.bool false) rfl (Tryd.isAgg4 _) ?_) rfl ?_
    · go_simp
    · have e1 : t.extract 1 t.size = bs l.tail := by rw [HT.out, bs_drop l 1 _ (bs_size l), List.drop_one]
      have g2 := grown_alloc (grown_set (grown_set g0 ⟨p, 1, none⟩ (.inl rfl) (.int .i64 0)) ⟨p, 0, none⟩ (.inl rfl) (.string (t.extract 1 t.size))) (.cells #[.bool false] 4)
      have r2 := ((h.set1 0).set0 l.tail).below (below_one _ (.cells #[.bool false] 4))
      rw [← e1] at r2
      exact ⟨rfl, r2, g2⟩
  · clear hc1
    go_enter Tryd.func97, Tryd.ntmps97
    go_wp2
    refine bodyPost_ret (results_cell1 rfl _ _ ⟨w.heap.size, 0, none⟩ (.bool true) rfl (Tryd.isAgg4 _) ?_) rfl ?_
    · go_simp
    · have e1 : t.extract 1 t.size = bs l.tail := by rw [HT.out, bs_drop l 1 _ (bs_size l), List.drop_one]
      have g2 := grown_alloc (grown_set (grown_set g0 ⟨p, 1, none⟩ (.inl rfl) (.int .i64 0)) ⟨p, 0, none⟩ (.inl rfl) (.string (t.extract 1 t.size))) (.cells #[.bool true] 4)
      have r2 := ((h.set1 0).set0 l.tail).below (below_one _ (.cells #[.bool true] 4))
      rw [← e1] at r2
      exact ⟨rfl, r2, g2⟩

set_option maxHeartbeats 1600000 in
set_option maxRecDepth 100000 in
theorem end_stuck (p : Nat) (e : Nat) (l : Bs) (w : World) (h : RdAt w p (l, e)) (he : e ≠ 0) :
    Calls Tryd.prog 98 #[.pointer (some ⟨p, 0, none⟩)] w fun r w' => r = .returned (.int .i64 (e : Int)) ∧ RdAt w' p (l, e) ∧ w.grownBy w' (some p) := by
  have he' : ((e : Int) == 0) = false := by rw [beq_eq_false_iff_ne]; omega
  have c0 := h.c0
  have c1 := h.c1
  have c2 := h.c2
  have k0 := h.fz 0
  have k1 := h.fz 1
  have hlt := h.lt
  go_enter Tryd.func98, Tryd.ntmps98
  go_wp2
  go_ret
  exact ⟨rfl, h, grown_of_below (Below.refl _ _) _⟩

set_option maxHeartbeats 1600000 in
set_option maxRecDepth 100000 in
theorem end_nil (p : Nat)  (w : World) (h : RdAt w p ([], 0)) :
    Calls Tryd.prog 98 #[.pointer (some ⟨p, 0, none⟩)] w fun r w' => r = .returned (.int .i64 0) ∧ RdAt w' p ([], 0) ∧ w.grownBy w' (some p) := by
  have c0 := h.c0
  have c1 := h.c1
  have c2 := h.c2
  have k0 := h.fz 0
  have k1 := h.fz 1
  have hlt := h.lt
  have g0 : w.grownBy w (some p) := grown_of_below (Below.refl _ _) _
  have e0 : bs [] = ⟨#[]⟩ := rfl
  simp only [e0] at c0
  go_enter Tryd.func98, Tryd.ntmps98
  go_wp2
  go_ret
  have g2 := grown_set (grown_set g0 ⟨p, 1, none⟩ (.inl rfl) (.int .i64 0)) ⟨p, 0, none⟩ (.inl rfl) (.string ⟨#[]⟩)
  have r2 := (h.set1 0).set0 []
  rw [e0] at r2
  exact ⟨rfl, r2, g2⟩

set_option maxHeartbeats 1600000 in
set_option maxRecDepth 100000 in
theorem end_more (p : Nat) (l : Bs) (t : ByteArray) (w : World) (h : RdAt w p (l, 0)) (HT : Hid (t = bs l)) (h0 : 0 < t.size) :
    Calls Tryd.prog 98 #[.pointer (some ⟨p, 0, none⟩)] w fun r w' => r = .returned (.int .i64 8) ∧ RdAt w' p (l, 8) ∧ w.grownBy w' (some p) := by
  have c0 := h.c0
  have c1 := h.c1
  have c2 := h.c2
  have k0 := h.fz 0
  have k1 := h.fz 1
  have hlt := h.lt
  have g0 : w.grownBy w (some p) := grown_of_below (Below.refl _ _) _
  have he := not_empty t h0
  simp only [← HT.out] at c0
  go_enter Tryd.func98, Tryd.ntmps98
  go_wp2
  go_ret
  have g2 := grown_set g0 ⟨p, 1, none⟩ (.inl rfl) (.int .i64 8)
  have r2 := h.set1 8
  exact ⟨rfl, r2, g2⟩

theorem text_calls (p : Nat) (m : Int) (st : St) (w : World) (h : RdAt w p st) (hl : st.1.length ≤ 4611686018427387904) (hm : m ≤ 9223372036854775807) :
    Calls Tryd.prog 95 #[.pointer (some ⟨p, 0, none⟩), .int .i64 m] w fun r w' => r = .returned (.string (bs (textR m st).1)) ∧ RdAt w' p (textR m st).2 ∧ w.grownBy w' (some p) := by
  obtain ⟨l, e⟩ := st
  by_cases he : e = 0
  · subst he
    obtain ⟨r, hr⟩ : ∃ r, countF l m = r := ⟨_, rfl⟩
    obtain ⟨c, k, g⟩ := r
    have hb := read_bounds l
    by_cases hg : g = 0
    · subst hg
      have hkc : k + c ≤ l.length := by
        unfold countF at hr
        split at hr
        · rename_i h1; simp at hr; exact absurd hr.2.2 h1
        · split at hr
          · simp at hr
          · split at hr
            · simp at hr
            · simp at hr; omega
      have := text_ok p c k m l w h hl hm hr hkc
      simp only [textR, hr, ne_eq, not_true_eq_false, if_false]
      exact this
    · have h0 : c = 0 ∧ k = 0 := by
        unfold countF at hr
        split at hr
        · simp at hr; exact ⟨hr.1.symm, hr.2.1.symm⟩
        · split at hr
          · simp at hr; exact ⟨hr.1.symm, hr.2.1.symm⟩
          · split at hr
            · simp at hr; exact ⟨hr.1.symm, hr.2.1.symm⟩
            · simp at hr; omega
      obtain ⟨rfl, rfl⟩ := h0
      have := text_fail p g m l w h hl hm hr hg
      simp only [textR, hr, ne_eq, not_true_eq_false, if_false, hg, not_false_eq_true, if_true]
      exact this
  · have := text_stuck p e m l he w h
    unfold textR
    rw [if_pos he]
    exact this
theorem boolR_calls (p : Nat) (st : St) (w : World) (h : RdAt w p st) (hl : st.1.length ≤ 4611686018427387904) :
    Calls Tryd.prog 97 #[.pointer (some ⟨p, 0, none⟩)] w fun r w' => r = .returned (.bool (boolR st).1) ∧ RdAt w' p (boolR st).2 ∧ w.grownBy w' (some p) := by
  obtain ⟨l, e⟩ := st
  by_cases he : e = 0
  · subst he
    cases l with
    | nil => exact bool_nil p w h
    | cons c l =>
      by_cases hc : 1 < c.toNat
      · have := bool_form p c.toNat (c :: l) (bs (c :: l)) w h hl (Lib.hid rfl) (by rw [bs_size]; simp) rfl hc
        simp only [boolR, ne_eq, not_true_eq_false, if_false, if_pos hc]
        exact this
      · have := bool_ok p c.toNat (c :: l) (bs (c :: l)) w h hl (Lib.hid rfl) (by rw [bs_size]; simp) rfl (by omega)
        simp only [boolR, ne_eq, not_true_eq_false, if_false, if_neg hc]
        exact this
  · have := bool_stuck p e l w h he
    unfold boolR
    rw [if_pos he]
    exact this
theorem end_calls (p : Nat) (st : St) (w : World) (h : RdAt w p st) :
    Calls Tryd.prog 98 #[.pointer (some ⟨p, 0, none⟩)] w fun r w' => r = .returned (.int .i64 ((endR st).2 : Int)) ∧ RdAt w' p (endR st) ∧ w.grownBy w' (some p) := by
  obtain ⟨l, e⟩ := st
  by_cases he : e = 0
  · subst he
    cases l with
    | nil => exact end_nil p w h
    | cons c l => exact end_more p (c :: l) (bs (c :: l)) w h (Lib.hid rfl) (by rw [bs_size]; simp)
  · have := end_stuck p e l w h he
    unfold endR
    rw [if_pos he]
    exact this

end Go.Proofs.YtaeiahkomdpcoaaDoor.Wire
end

section
/- Cells' bytes, and what a reader reads of them: plain Lean, no program in sight. -/
namespace Go.Proofs.YtaeiahkomdpcoaaDoor.Cell
open Go.Proofs.YtaeiahkomdpcoaaDoor.Num Go.Proofs.YtaeiahkomdpcoaaDoor.Wire

structure Piece where
  row : Int
  stamp : Nat
  len : Int
structure Body where
  len : Int
  inl : ByteArray
  pcs : List Piece
structure Cel where
  kind : Nat
  n : Nat
  gone : Bool
  name : ByteArray
  body : Body
def Body.zero : Body := ⟨0, ⟨#[]⟩, []⟩
def Cel.zero : Cel := ⟨0, 0, false, ⟨#[]⟩, Body.zero⟩

def big : Nat := 281474976710656
def pcOk (left : Int) (p : Piece) : Bool := decide (0 ≤ p.row ∧ p.row < 4096) && decide (p.stamp ≤ big) && decide (1 ≤ p.len ∧ p.len ≤ left)
def sumOk : Int → List Piece → Bool
  | left, [] => decide (left = 0)
  | left, p :: ps => pcOk left p && sumOk (left - p.len) ps
def mayBody (b : Body) : Bool := decide (0 ≤ b.len ∧ b.len ≤ 32768) && (if b.pcs.length = 0 then decide ((b.inl.size : Int) = b.len) && decide (b.len ≤ 64) else decide (b.inl = ⟨#[]⟩) && decide (b.pcs.length ≤ 512) && sumOk b.len b.pcs)
/-- What a kind has, of a cell. -/
def hasC (c : Cel) : Cel :=
  if c.kind = 1 ∨ c.kind = 2 ∨ c.kind = 6 then { Cel.zero with kind := c.kind, n := c.n }
  else if c.kind = 4 then { Cel.zero with kind := c.kind, name := c.name }
  else if c.kind = 5 then { Cel.zero with kind := c.kind, body := c.body }
  else if c.gone then { Cel.zero with kind := c.kind, gone := c.gone } else { Cel.zero with kind := c.kind, gone := c.gone, body := c.body }
def mayC (c : Cel) : Prop := (1 ≤ c.kind ∧ c.kind ≤ 6) ∧ c = hasC c ∧ c.n ≤ big ∧ c.name.size ≤ 200 ∧ mayBody c.body = true

def pcW (p : Piece) : Bs := numsW [p.row.toNat, p.stamp, p.len.toNat]
def pcsW : List Piece → Bs
  | [] => []
  | p :: ps => pcW p ++ pcsW ps
def bodyW (b : Body) : Bs := numsW [b.len.toNat] ++ boolW (decide (0 < b.pcs.length)) ++ (if b.pcs.length = 0 then textsW [b.inl.data.toList] else numsW [b.pcs.length] ++ pcsW b.pcs)
def cellW (c : Cel) : Bs := numsW [c.kind] ++ (if c.kind = 4 then textsW [c.name.data.toList] else if c.kind = 5 then bodyW c.body else if c.kind = 3 then boolW c.gone ++ (if c.gone then [] else bodyW c.body) else numsW [c.n])

def pcsR : Nat → St → List Piece × St
  | 0, st => ([], st)
  | k + 1, st => if st.2 ≠ 0 then ([], st) else
      (⟨(numR 4096 st).1, (numR big (numR 4096 st).2).1, (numR 32768 (numR big (numR 4096 st).2).2).1⟩ :: (pcsR k (numR 32768 (numR big (numR 4096 st).2).2).2).1, (pcsR k (numR 32768 (numR big (numR 4096 st).2).2).2).2)
def unbR (st : St) : Body × St :=
  if (boolR (numR 32768 st).2).1 = false then (⟨(numR 32768 st).1, bs (textR 64 (boolR (numR 32768 st).2).2).1, []⟩, (textR 64 (boolR (numR 32768 st).2).2).2)
  else (⟨(numR 32768 st).1, ⟨#[]⟩, (pcsR (numR 512 (boolR (numR 32768 st).2).2).1 (numR 512 (boolR (numR 32768 st).2).2).2).1⟩, (pcsR (numR 512 (boolR (numR 32768 st).2).2).1 (numR 512 (boolR (numR 32768 st).2).2).2).2)
def cellR2 (k : Nat) (st : St) : Cel × St :=
  if k = 4 then ({ Cel.zero with kind := k, name := bs (textR 200 st).1 }, (textR 200 st).2)
  else if k = 5 then ({ Cel.zero with kind := k, body := (unbR st).1 }, (unbR st).2)
  else if k = 3 then (if (boolR st).1 then ({ Cel.zero with kind := k, gone := true }, (boolR st).2) else ({ Cel.zero with kind := k, body := (unbR (boolR st).2).1 }, (unbR (boolR st).2).2))
  else ({ Cel.zero with kind := k, n := (numR big st).1 }, (numR big st).2)
def cellR (s : Bs) : Cel × St := cellR2 (numR 6 (s, 0)).1 (numR 6 (s, 0)).2

theorem numR_le (m x : Nat) (hx : x < 18446744073709551616) (hm : x ≤ m) (s : Bs) : numR m (up x ++ s, 0) = (x, (s, 0)) := by
  have h := read_up x s hx
  simp only [numR, h]
  rw [if_neg (by simp), if_neg (by simp), if_neg (by omega)]
  simp
theorem numsW_one (x : Nat) : numsW [x] = up x := by simp [numsW]
theorem textsW_one (t : Bs) : textsW [t] = textW t := by simp [textsW]
theorem textR_le (m : Int) (t s : Bs) (ht : t.length < 18446744073709551616) (hm : (t.length : Int) ≤ m) : textR m (textW t ++ s, 0) = (t, (s, 0)) := by
  have h := read_up t.length (t ++ s) ht
  have hc : countF (textW t ++ s) m = (t.length, (up t.length).length, 0) := by
    unfold countF textW
    rw [List.append_assoc, h]
    rw [if_neg (by simp), if_neg (by simp only; omega), if_neg (by simp only [List.length_append]; omega)]
  unfold textR
  simp only [hc]
  rw [if_neg (by simp), if_neg (by simp)]
  simp only [textW, List.append_assoc, List.drop_append, List.drop_length, List.nil_append, Nat.sub_self, List.drop_zero, List.take_left']
  simp

theorem pcsR_back : ∀ (ps : List Piece) (left : Int) (t : Bs), left ≤ 32768 → sumOk left ps = true → pcsR ps.length (pcsW ps ++ t, 0) = (ps, (t, 0))
  | [], _, t, _, _ => rfl
  | p :: ps, left, t, hl, h => by
    unfold sumOk pcOk at h
    simp only [Bool.and_eq_true, decide_eq_true_eq] at h
    obtain ⟨⟨⟨h1, h2⟩, h3⟩, h4⟩ := h
    have ih := pcsR_back ps (left - p.len) t (by omega) h4
    have hb : big = 281474976710656 := rfl
    have e1 : pcsW (p :: ps) ++ t = up p.row.toNat ++ (up p.stamp ++ (up p.len.toNat ++ (pcsW ps ++ t))) := by
      simp [pcsW, pcW, numsW]
    have r1 := numR_le 4096 p.row.toNat (by omega) (by omega) (up p.stamp ++ (up p.len.toNat ++ (pcsW ps ++ t)))
    have r2 := numR_le big p.stamp (by omega) h2 (up p.len.toNat ++ (pcsW ps ++ t))
    have r3 := numR_le 32768 p.len.toNat (by omega) (by omega) (pcsW ps ++ t)
    rw [List.length_cons, pcsR, if_neg (by simp), e1, r1, r2, r3]
    simp only [ih]
    rw [Int.toNat_of_nonneg h1.1, Int.toNat_of_nonneg (by omega)]
theorem unbR_back (b : Body) (t : Bs) (h : mayBody b = true) : unbR (bodyW b ++ t, 0) = (b, (t, 0)) := by
  obtain ⟨len, inl, pcs⟩ := b
  unfold mayBody at h
  simp only [Bool.and_eq_true, decide_eq_true_eq] at h
  obtain ⟨h1, h2⟩ := h
  unfold bodyW
  simp only
  rw [numsW_one, List.append_assoc, List.append_assoc]
  unfold unbR
  rw [numR_le 32768 len.toNat (by omega) (by omega)]
  simp only [boolR_whole]
  by_cases hp : pcs.length = 0
  · rw [if_pos hp] at h2
    simp only [Bool.and_eq_true, decide_eq_true_eq] at h2
    have hp' : pcs = [] := List.eq_nil_of_length_eq_zero hp
    subst hp'
    have hsz : inl.data.toList.length = inl.size := by simp
    rw [if_pos hp, textsW_one, if_pos (by simp), textR_le 64 _ _ (by omega) (by omega)]
    rw [Int.toNat_of_nonneg h1.1]
    rfl
  · rw [if_neg hp] at h2
    simp only [Bool.and_eq_true, decide_eq_true_eq] at h2
    have hd : decide (0 < pcs.length) = true := decide_eq_true (by omega)
    rw [if_neg hp, hd, if_neg (show ¬ (true = false) by decide), numsW_one, List.append_assoc, numR_le 512 _ (by omega) h2.1.2]
    simp only [pcsR_back pcs len t (by omega) h2.2]
    rw [Int.toNat_of_nonneg h1.1, h2.1.1]

/-- A cell's bytes are read as the cell, whatever stands behind. -/
theorem cellR_back (c : Cel) (t : Bs) (h : mayC c) : cellR (cellW c ++ t) = (c, (t, 0)) := by
  obtain ⟨⟨h1, h6⟩, hh, hn, hnm, hb⟩ := h
  have hbg : big = 281474976710656 := rfl
  unfold cellR cellW
  rw [numsW_one, List.append_assoc, numR_le 6 c.kind (by omega) h6]
  simp only
  unfold cellR2
  unfold hasC at hh
  have hsz : c.name.data.toList.length = c.name.size := by simp
  by_cases k4 : c.kind = 4
  · rw [if_pos k4, if_pos k4, textsW_one, textR_le 200 _ _ (by omega) (by omega)]
    rw [if_neg (by omega), if_pos k4] at hh
    show (_, (t, 0)) = (c, (t, 0))
    rw [show bs c.name.data.toList = c.name from rfl]
    rw [← hh]
  rw [if_neg k4, if_neg k4]
  rw [if_neg k4] at hh
  by_cases k5 : c.kind = 5
  · rw [if_pos k5, if_pos k5, unbR_back _ _ hb]
    rw [if_neg (by omega), if_pos k5] at hh
    show (_, (t, 0)) = (c, (t, 0))
    rw [← hh]
  rw [if_neg k5, if_neg k5]
  rw [if_neg k5] at hh
  by_cases k3 : c.kind = 3
  · rw [if_neg (by omega)] at hh
    rw [if_pos k3, if_pos k3]
    cases hg : c.gone
    · rw [hg, if_neg (show ¬ (false = true) by decide)] at hh
      rw [if_neg (show ¬ (false = true) by decide), List.append_assoc, boolR_whole]
      simp only
      rw [if_neg (show ¬ (false = true) by decide), unbR_back _ _ hb]
      show (_, (t, 0)) = (c, (t, 0))
      exact congrArg (fun x => (x, (t, 0))) hh.symm
    · rw [hg, if_pos rfl] at hh
      rw [if_pos rfl, List.append_nil, boolR_whole]
      simp only
      rw [if_pos trivial]
      show (_, (t, 0)) = (c, (t, 0))
      exact congrArg (fun x => (x, (t, 0))) hh.symm
  rw [if_neg k3, if_neg k3, numsW_one, numR_le big _ (by omega) hn]
  rw [if_pos (by omega)] at hh
  show (_, (t, 0)) = (c, (t, 0))
  rw [← hh]

/-- Of two cells' bytes neither begins the other's. -/
theorem cell_apart {c d : Cel} (hc : mayC c) (hd : mayC d) (t : Bs) (h : cellW d = cellW c ++ t) : t = [] := by
  have h1 := cellR_back c t hc
  have h2 := cellR_back d [] hd
  rw [List.append_nil, h, h1] at h2
  have := congrArg (fun x => x.2.1) h2
  exact this

end Go.Proofs.YtaeiahkomdpcoaaDoor.Cell
end

section
/- Pieces in memory; the walks of package cell's MayBody, of slices.Equal over pieces. -/
namespace Go.Proofs.YtaeiahkomdpcoaaDoor.Cell
open Go.RowKit Go.Proofs.YtaeiahkomdpcoaaDoor.Num Go.Proofs.YtaeiahkomdpcoaaDoor.Wire

/-- A list of pieces at an address, nil let in. -/
def PcsAt (w : World) (A : Option Addr) (ps : List Piece) : Prop := ∀ i p, ps[i]? = some p → ∃ ad, A = some ad ∧ ad.block < w.heap.size ∧ w.cell? (ad.add (i * 3)) = some (.int .i64 p.row) ∧ w.cell? (ad.add (i * 3 + 1)) = some (.int .u64 (p.stamp : Int)) ∧ w.cell? (ad.add (i * 3 + 2)) = some (.int .i64 p.len)
theorem PcsAt.below {w w' : World} {A : Option Addr} {ps : List Piece} (h : PcsAt w A ps) (hb : Below w.heap.size w w') : PcsAt w' A ps := fun i s hs => by
  obtain ⟨ad, h0, h1, h2, h3, h4⟩ := h i s hs
  have hk : ∀ n, w'.cell? (ad.add n) = w.cell? (ad.add n) := fun n => World.cell?_of_block (by rw [block_of_add]; exact hb.block _ h1)
  exact ⟨ad, h0, Nat.lt_of_lt_of_le h1 hb.size, (hk _).trans h2, (hk _).trans h3, (hk _).trans h4⟩
theorem PcsAt.at_ {w : World} {A : Option Addr} {ps : List Piece} (h : PcsAt w A ps) {k : Nat} (hk : k < ps.length) : ∃ ad, A = some ad ∧ ad.block < w.heap.size ∧ w.cell? (ad.add (k * 3)) = some (.int .i64 ps[k].row) ∧ w.cell? ⟨(ad.add (k * 3)).block, (ad.add (k * 3)).off + 1, none⟩ = some (.int .u64 (ps[k].stamp : Int)) ∧
    w.cell? ⟨(ad.add (k * 3)).block, (ad.add (k * 3)).off + 2, none⟩ = some (.int .i64 ps[k].len) := by
  obtain ⟨ad, h0, h1, h2, h3, h4⟩ := h k _ (List.getElem?_eq_getElem hk)
  refine ⟨ad, h0, h1, h2, ?_, ?_⟩
  · rw [← h3, ← Deep.add_add]; rfl
  · rw [← h4, ← Deep.add_add]; rfl
theorem PcsAt.nil (w : World) (A : Option Addr) : PcsAt w A [] := fun i p h => by simp at h

theorem sumOk_drop (left : Int) (ps : List Piece) (k : Nat) (h : k < ps.length) : sumOk left (ps.drop k) = (pcOk left ps[k] && sumOk (left - ps[k].len) (ps.drop (k + 1))) := by
  rw [List.drop_eq_getElem_cons h]; rfl
theorem empty_iff (s : ByteArray) : s.toList.isEmpty = decide (s = ⟨#[]⟩) := by
  rw [ByteArray.toList_eq]
  by_cases h : s = ⟨#[]⟩
  · subst h; rfl
  · rw [decide_eq_false h]
    cases hs : s.data.toList with
    | nil => exact absurd (ByteArray.ext (Array.toList_inj.1 hs)) h
    | cons a l => rfl

set_option maxHeartbeats 3200000 in
set_option maxRecDepth 100000 in
theorem mayBody_calls (len : Int) (inl : ByteArray) (A : Option Addr) (c : Nat) (ps : List Piece) (w : World) (hP : PcsAt w A ps) :
    Calls Tryd.prog 101 #[.agg #[.int .i64 len, .string inl, .slice A ps.length c]] w fun e w' => e = .returned (.bool (mayBody ⟨len, inl, ps⟩)) ∧ Below w.heap.size w w' := by
  have hb1 := below_one w (.cells #[.int .i64 len, .string inl, .slice A ps.length c] 97)
  by_cases g1 : len < 0
  · rw [show mayBody ⟨len, inl, ps⟩ = false by unfold mayBody; rw [decide_eq_false (show ¬ (0 ≤ len ∧ len ≤ 32768) by omega)]; rfl]
    go_enter Tryd.func101, Tryd.ntmps101
    go_wp2
    go_step3
    go_wp2
    rw [Exit.noGoto_ret]
    go_ret
    exact ⟨rfl, hb1⟩
  by_cases g2 : 32768 < len
  · rw [show mayBody ⟨len, inl, ps⟩ = false by unfold mayBody; rw [decide_eq_false (show ¬ (0 ≤ len ∧ len ≤ 32768) by omega)]; rfl]
    go_enter Tryd.func101, Tryd.ntmps101
    go_wp2
    go_step3
    go_wp2
    rw [Exit.noGoto_ret]
    go_ret
    exact ⟨rfl, hb1⟩
  have e0 : decide (0 ≤ len ∧ len ≤ 32768) = true := decide_eq_true (by omega)
  by_cases g3 : ps.length = 0
  · have e1 : mayBody ⟨len, inl, ps⟩ = (decide ((inl.size : Int) = len) && decide (len ≤ 64)) := by unfold mayBody; rw [e0, if_pos g3]; rfl
    rw [e1]
    clear e0 e1
    by_cases g4 : (inl.size : Int) = len
    · have g4' : ((inl.size : Int) == len) = true := by rw [beq_iff_eq]; exact g4
      rw [decide_eq_true g4]
      have g4h := Lib.hid g4
      clear g4
      go_enter Tryd.func101, Tryd.ntmps101
      go_wp2
      go_step3
      go_wp2
      rw [Exit.noGoto_ret]
      go_ret
      exact ⟨by simp, below_one _ _⟩
    · have g4' : ((inl.size : Int) == len) = false := by rw [beq_eq_false_iff_ne]; exact g4
      rw [decide_eq_false g4]
      go_enter Tryd.func101, Tryd.ntmps101
      go_wp2
      go_step3
      go_wp2
      rw [Exit.noGoto_ret]
      go_ret
      exact ⟨rfl, below_one _ _⟩
  have hie := empty_iff inl
  have i3 : ((ps.length : Int) == 0) = false := by rw [beq_eq_false_iff_ne]; omega
  by_cases g5 : inl = ⟨#[]⟩
  case neg =>
    rw [decide_eq_false g5] at hie
    rw [show mayBody ⟨len, inl, ps⟩ = false by unfold mayBody; rw [e0, if_neg g3, decide_eq_false g5]; rfl]
    clear e0 g3
    go_enter Tryd.func101, Tryd.ntmps101
    go_wp2
    go_step3
    go_wp2
    rw [Exit.noGoto_ret]
    go_ret
    exact ⟨rfl, hb1⟩
  rw [decide_eq_true g5] at hie
  by_cases g6 : 512 < ps.length
  · rw [show mayBody ⟨len, inl, ps⟩ = false by unfold mayBody; rw [e0, if_neg g3, decide_eq_true g5, decide_eq_false (show ¬ ps.length ≤ 512 by omega)]; rfl]
    have i4 : (512 : Int) < (ps.length : Int) := by omega
    clear e0 g3 g5
    go_enter Tryd.func101, Tryd.ntmps101
    go_wp2
    go_step3
    go_wp2
    rw [Exit.noGoto_ret]
    go_ret
    exact ⟨rfl, hb1⟩
  have i4 : ¬ (512 : Int) < (ps.length : Int) := by omega
  obtain ⟨out, qo⟩ : ∃ x, x = mayBody ⟨len, inl, ps⟩ := ⟨_, rfl⟩
  have qs : out = sumOk len ps := by rw [qo]; unfold mayBody; rw [e0, if_neg g3, decide_eq_true g5, decide_eq_true (show ps.length ≤ 512 by omega)]; rfl
  rw [← qo]
  have QS := Lib.hid qs
  have hP1 := hP.below hb1
  clear e0 g3 g5 qo qs hP
  go_enter Tryd.func101, Tryd.ntmps101
  go_wp2
  go_step3
  go_wp2
  go_step3
  go_wp2
  go_loopw [3, 42] (fun lv iv wr => ∃ (k : Nat) (left : Int), k ≤ ps.length ∧ 0 ≤ left ∧ left ≤ 32768 ∧ lv = .int .i64 left ∧ iv = .int .i64 (k : Int) ∧ PcsAt wr A ps ∧ Hid (out = sumOk left (ps.drop k)) ∧ Below w.heap.size w wr) (fun _ iv _ => ps.length - (intOf iv).toNat)
  case atStart => exact ⟨0, len, by omega, by omega, by omega, rfl, rfl, hP1, QS, hb1⟩
  case round =>
    obtain ⟨k, left, hk, hl0, hl1, rfl, rfl, hPr, hO, hb⟩ := hrel
    by_cases hlt : k < ps.length
    · obtain ⟨ad, rfl, had, c0, c1, c2⟩ := hPr.at_ hlt
      have hst := sumOk_drop left ps k hlt
      obtain ⟨p, hp⟩ : ∃ p, p = ps[k] := ⟨_, rfl⟩
      rw [← hp] at c0 c1 c2 hst
      clear hp
      obtain ⟨row, stamp, ln⟩ := p
      simp only at c0 c1 c2 hst
      have HST := Lib.hid hst
      have bw := below_alloc hb (.cells #[.int .i64 row, .int .u64 (stamp : Int), .int .i64 ln] 144)
      have hPn := hPr.below (below_one wr (.cells #[.int .i64 row, .int .u64 (stamp : Int), .int .i64 ln] 144))
      clear hst
      have hbg : big = 281474976710656 := rfl
      by_cases x1 : row < 0
      · have HO := Lib.hid (show out = false by rw [hO.out, HST.out]; unfold pcOk; simp only; rw [decide_eq_false (show ¬ (0 ≤ row ∧ row < 4096) by omega)]; rfl)
        clear hO HST
        go_wp2
        (try rw [Exit.noGoto_ret])
        go_ret
        exact ⟨by rw [HO.out]; rfl, bw⟩
      by_cases x2 : 4096 ≤ row
      · have HO := Lib.hid (show out = false by rw [hO.out, HST.out]; unfold pcOk; simp only; rw [decide_eq_false (show ¬ (0 ≤ row ∧ row < 4096) by omega)]; rfl)
        clear hO HST
        go_wp2
        (try rw [Exit.noGoto_ret])
        go_ret
        exact ⟨by rw [HO.out]; rfl, bw⟩
      by_cases x3 : big < stamp
      · have x3' : (281474976710656 : Int) < (stamp : Int) := by omega
        have HO := Lib.hid (show out = false by rw [hO.out, HST.out]; unfold pcOk; simp only; rw [decide_eq_false (show ¬ stamp ≤ big by omega), Bool.and_false]; rfl)
        clear hO HST
        go_wp2
        (try rw [Exit.noGoto_ret])
        go_ret
        exact ⟨by rw [HO.out]; rfl, bw⟩
      have x3' : ¬ (281474976710656 : Int) < (stamp : Int) := by omega
      by_cases x4 : ln < 1
      · have HO := Lib.hid (show out = false by rw [hO.out, HST.out]; unfold pcOk; simp only; rw [decide_eq_false (show ¬ (1 ≤ ln ∧ ln ≤ left) by omega), Bool.and_false]; rfl)
        clear hO HST
        go_wp2
        (try rw [Exit.noGoto_ret])
        go_ret
        exact ⟨by rw [HO.out]; rfl, bw⟩
      by_cases x5 : left < ln
      · have HO := Lib.hid (show out = false by rw [hO.out, HST.out]; unfold pcOk; simp only; rw [decide_eq_false (show ¬ (1 ≤ ln ∧ ln ≤ left) by omega), Bool.and_false]; rfl)
        clear hO HST
        go_wp2
        (try rw [Exit.noGoto_ret])
        go_ret
        exact ⟨by rw [HO.out]; rfl, bw⟩
      have HO := Lib.hid (show out = sumOk (left - ln) (ps.drop (k + 1)) by
        rw [hO.out, HST.out]
        unfold pcOk
        simp only
        rw [decide_eq_true (show 0 ≤ row ∧ row < 4096 by omega), decide_eq_true (show stamp ≤ big by omega), decide_eq_true (show 1 ≤ ln ∧ ln ≤ left by omega)]; rfl)
      have hw1 : IntKind.i64.wrap (left - ln) = left - ln := IntWalk.i64_in _ (by omega)
      clear hO HST hbg
      go_wp2
      go_roundw
      case rel => exact ⟨k + 1, left - ln, by omega, by omega, by omega, rfl, by go_num, hPn, HO, bw⟩
      case measure => simp [intOf]; omega
    · obtain rfl : k = ps.length := by omega
      by_cases x0 : left = 0
      · have HO := Lib.hid (show out = true by rw [hO.out, List.drop_length]; exact decide_eq_true x0)
        subst x0
        go_wp2
        (try rw [Exit.noGoto_ret])
        go_ret
        exact ⟨by rw [HO.out]; rfl, hb⟩
      · have HO := Lib.hid (show out = false by rw [hO.out, List.drop_length]; exact decide_eq_false x0)
        have x0' : (left == 0) = false := by rw [beq_eq_false_iff_ne]; exact x0
        go_wp2
        (try rw [Exit.noGoto_ret])
        go_ret
        exact ⟨by rw [HO.out]; rfl, hb⟩

end Go.Proofs.YtaeiahkomdpcoaaDoor.Cell
end

section
/- The walk of slices.Equal over pieces, of package cell's Same. -/
namespace Go.Proofs.YtaeiahkomdpcoaaDoor.Cell
open Go.RowKit Go.Proofs.YtaeiahkomdpcoaaDoor.Num Go.Proofs.YtaeiahkomdpcoaaDoor.Wire

def pcEq (p q : Piece) : Bool := (p.row == q.row) && (p.stamp == q.stamp) && (p.len == q.len)
def pcsEq : List Piece → List Piece → Bool
  | [], [] => true
  | p :: ps, q :: qs => pcEq p q && pcsEq ps qs
  | [], _ :: _ => false
  | _ :: _, [] => false
theorem pcEq_iff (p q : Piece) : pcEq p q = true ↔ p = q := by
  obtain ⟨a, b, c⟩ := p
  obtain ⟨d, e, f⟩ := q
  unfold pcEq
  simp only [Bool.and_eq_true, beq_iff_eq, Piece.mk.injEq, and_assoc]
theorem pcsEq_iff : ∀ ps qs : List Piece, pcsEq ps qs = true ↔ ps = qs
  | [], [] => by simp [pcsEq]
  | p :: ps, q :: qs => by rw [pcsEq, Bool.and_eq_true, pcEq_iff, pcsEq_iff ps qs]; simp
  | [], _ :: _ => by simp [pcsEq]
  | _ :: _, [] => by simp [pcsEq]
theorem pcsEq_len (ps qs : List Piece) (h : ps.length ≠ qs.length) : pcsEq ps qs = false := by
  rw [Bool.eq_false_iff, Ne, pcsEq_iff]; intro e; exact h (by rw [e])
theorem pcsEq_drop (ps qs : List Piece) (k : Nat) (h1 : k < ps.length) (h2 : k < qs.length) : pcsEq (ps.drop k) (qs.drop k) = (pcEq ps[k] qs[k] && pcsEq (ps.drop (k + 1)) (qs.drop (k + 1))) := by
  rw [List.drop_eq_getElem_cons h1, List.drop_eq_getElem_cons h2, pcsEq]

set_option maxHeartbeats 400000 in
set_option maxRecDepth 100000 in
theorem pc_neq_run (r : Int) (s : Nat) (l : Int) (r' : Int) (s' : Nat) (l' : Int) (W : World) : (binOp .neq 144 (.agg #[.int .i64 r, .int .u64 (s : Int), .int .i64 l]) (.agg #[.int .i64 r', .int .u64 (s' : Int), .int .i64 l'])).run Tryd.prog W = .ok (.bool (!pcEq ⟨r, s, l⟩ ⟨r', s', l'⟩)) W := by
  have hu := Tryd.underlying144
  have h22 := Tryd.underlying22
  have h3 := Tryd.underlying3
  have hp : Tryd.prog.stoodInHeld 144 = false := by kernel_rfl
  have hf : Tryd.prog.underlying 144 = some (.struct (Tryd.prog.fieldsOf 144)) := by kernel_rfl
  rw [run_neq_struct, run_equalIn_agg W 9999 _ _ _ hf hp]
  clear hf hp
  simp [Program.fieldsOf, hu, Op.eqFields, go_sem, h22, h3]
  unfold pcEq
  simp only
  by_cases h1 : r = r'
  · subst h1
    by_cases h2 : s = s'
    · subst h2
      by_cases h3 : l = l'
      · subst h3; simp
      · simp [h3]
    · have h2' : ¬ (s : Int) = (s' : Int) := by omega
      simp [h2, h2']
  · simp [h1]

set_option maxHeartbeats 1600000 in
set_option maxRecDepth 100000 in
theorem equal_calls (A B : Option Addr) (c d : Nat) (ps qs : List Piece) (w : World) (hA : PcsAt w A ps) (hB : PcsAt w B qs) (hl : ps.length ≤ 100000) :
    Calls Tryd.prog 122 #[.slice A ps.length c, .slice B qs.length d] w fun e w' => e = .returned (.bool (pcsEq ps qs)) ∧ Below w.heap.size w w' := by
  by_cases hle : ps.length = qs.length
  case neg =>
    rw [pcsEq_len ps qs hle]
    have i1 : ((ps.length : Int) != (qs.length : Int)) = true := by rw [bne_iff_ne]; omega
    go_enter Tryd.func122, Tryd.ntmps122
    go_wp2
    go_ret
    exact ⟨rfl, Below.refl _ _⟩
  have i1 : ((ps.length : Int) != (qs.length : Int)) = false := by rw [bne_eq_false_iff_eq]; omega
  obtain ⟨out, qo⟩ : ∃ x, x = pcsEq ps qs := ⟨_, rfl⟩
  rw [← qo]
  have QO := Lib.hid qo
  have HLE := Lib.hid hle
  obtain ⟨m, hm⟩ : ∃ m, qs.length = m := ⟨_, rfl⟩
  rw [hm] at i1 ⊢
  have HM := Lib.hid hm
  clear qo hle hm
  go_enter Tryd.func122, Tryd.ntmps122
  go_wp2
  go_loopw [13] (fun iv wr => ∃ k : Nat, k ≤ ps.length ∧ iv = .int .i64 (k : Int) ∧ PcsAt wr A ps ∧ PcsAt wr B qs ∧ Hid (out = pcsEq (ps.drop k) (qs.drop k)) ∧ Below w.heap.size w wr) (fun iv _ => ps.length - (intOf iv).toNat)
  case atStart => exact ⟨0, by omega, rfl, hA, hB, QO, Below.refl _ _⟩
  case round =>
    obtain ⟨k, hk, rfl, hAr, hBr, hO, hb⟩ := hrel
    by_cases hlt : k < ps.length
    · have hlt2 : k < qs.length := by rw [← HLE.out]; exact hlt
      have hlt3 : k < m := by rw [← HM.out]; exact hlt2
      obtain ⟨ad, rfl, had, c0, c1, c2⟩ := hAr.at_ hlt
      obtain ⟨bd, rfl, hbd, d0, d1, d2⟩ := hBr.at_ hlt2
      have hst := pcsEq_drop ps qs k hlt hlt2
      obtain ⟨p, hp⟩ : ∃ p, p = ps[k] := ⟨_, rfl⟩
      obtain ⟨q, hq⟩ : ∃ q, q = qs[k] := ⟨_, rfl⟩
      rw [← hp] at c0 c1 c2 hst
      rw [← hq] at d0 d1 d2 hst
      clear hp hq
      obtain ⟨r, s, l⟩ := p
      obtain ⟨r', s', l'⟩ := q
      simp only at c0 c1 c2 d0 d1 d2
      have hnq := fun W => pc_neq_run r s l r' s' l' W
      have HST := Lib.hid hst
      have i2 : (k : Int) < (ps.length : Int) := by omega
      have i3 : (k : Int) < (m : Int) := by omega
      obtain ⟨t, qt⟩ : ∃ t, t = pcEq ⟨r, s, l⟩ ⟨r', s', l'⟩ := ⟨_, rfl⟩
      simp only [← qt] at hnq
      have QT := Lib.hid qt
      clear hst qt hlt2
      cases t
      · have HO := Lib.hid (show out = false by rw [hO.out, HST.out, ← QT.out]; rfl)
        go_wp2
        go_region
        go_wp2
        go_ret
        exact ⟨by rw [HO.out]; rfl, below_drew hb⟩
      · have HO := Lib.hid (show out = pcsEq (ps.drop (k + 1)) (qs.drop (k + 1)) by rw [hO.out, HST.out, ← QT.out]; rfl)
        go_wp2
        go_region
        go_wp2
        go_roundw
        case rel => exact ⟨k + 1, by omega, by go_num, hAr, hBr, HO, below_drew hb⟩
        case measure => simp [intOf]; omega
    · obtain rfl : k = ps.length := by omega
      have HO := Lib.hid (show out = true by rw [hO.out, List.drop_length, show ps.length = qs.length from HLE.out, List.drop_length]; rfl)
      go_wp2
      go_ret
      exact ⟨by rw [HO.out]; rfl, hb⟩

end Go.Proofs.YtaeiahkomdpcoaaDoor.Cell
end

section
/- Cells in memory; the walks of package cell's has and Same. -/
namespace Go.Proofs.YtaeiahkomdpcoaaDoor.Cell
open Go.RowKit Go.Proofs.YtaeiahkomdpcoaaDoor.Num Go.Proofs.YtaeiahkomdpcoaaDoor.Wire

/-- A cell's values, its pieces at A. -/
def cvs (c : Cel) (A : Option Addr) (cp : Nat) : Array Value := #[.int .u8 (c.kind : Int), .int .u64 (c.n : Int), .bool c.gone, .string c.name, .int .i64 c.body.len, .string c.body.inl, .slice A c.body.pcs.length cp]
def celEq (c d : Cel) : Bool := (c.kind == d.kind) && (c.n == d.n) && (c.gone == d.gone) && (c.name.toList == d.name.toList) && (c.body.len == d.body.len) && (c.body.inl.toList == d.body.inl.toList) && pcsEq c.body.pcs d.body.pcs
theorem str_beq (x y : ByteArray) : (x.toList == y.toList) = decide (x = y) := by
  rw [ByteArray.toList_eq, ByteArray.toList_eq]
  by_cases h : x = y
  · subst h; simp
  · rw [decide_eq_false h, beq_eq_false_iff_ne]
    intro e
    exact h (ByteArray.ext (Array.toList_inj.1 e))
theorem celEq_iff (c d : Cel) : celEq c d = true ↔ c = d := by
  obtain ⟨a1, a2, a3, a4, a5, a6, a7⟩ := c
  obtain ⟨b1, b2, b3, b4, b5, b6, b7⟩ := d
  unfold celEq
  rw [str_beq, str_beq]
  simp only [Bool.and_eq_true, beq_iff_eq, decide_eq_true_eq, Cel.mk.injEq, Body.mk.injEq, and_assoc, pcsEq_iff]
theorem nat_beq (a b : Nat) : ((a : Int) == (b : Int)) = (a == b) := by
  by_cases h : a = b
  · subst h; simp
  · rw [beq_eq_false_iff_ne.2 h, beq_eq_false_iff_ne]; omega

set_option maxHeartbeats 3200000 in
set_option maxRecDepth 100000 in
theorem same_calls (c d : Cel) (A B : Option Addr) (cp dp : Nat) (w : World) (hA : PcsAt w A c.body.pcs) (hB : PcsAt w B d.body.pcs) (hl : c.body.pcs.length ≤ 100000) :
    Calls Tryd.prog 99 #[.agg (cvs c A cp), .agg (cvs d B dp)] w fun e w' => e = .returned (.bool (celEq c d)) ∧ Below w.heap.size w w' := by
  have HE := fun (W : World) (hb : Below w.heap.size w W) => equal_calls A B cp dp c.body.pcs d.body.pcs W (hA.below hb) (hB.below hb) hl
  have b1 := below_alloc (below_one w (.cells (cvs c A cp) 99)) (.cells (cvs d B dp) 99)
  obtain ⟨a1, a2, a3, a4, a5, a6, a7⟩ := c
  obtain ⟨d1, d2, d3, d4, d5, d6, d7⟩ := d
  unfold cvs celEq at *
  simp only at HE b1 ⊢
  have e1 := nat_beq a1 d1
  have e2 := nat_beq a2 d2
  obtain ⟨x1, q1⟩ : ∃ x, x = (a1 == d1) := ⟨_, rfl⟩
  obtain ⟨x2, q2⟩ : ∃ x, x = (a2 == d2) := ⟨_, rfl⟩
  obtain ⟨x3, q3⟩ : ∃ x, (a3 == d3) = x := ⟨_, rfl⟩
  obtain ⟨x4, q4⟩ : ∃ x, (a4.toList == d4.toList) = x := ⟨_, rfl⟩
  obtain ⟨x5, q5⟩ : ∃ x, (a5 == d5) = x := ⟨_, rfl⟩
  obtain ⟨x6, q6⟩ : ∃ x, (a6.toList == d6.toList) = x := ⟨_, rfl⟩
  obtain ⟨x7, q7⟩ : ∃ x, x = pcsEq a7 d7 := ⟨_, rfl⟩
  rw [← q1] at e1
  rw [← q2] at e2
  simp only [← q7] at HE
  rw [← q1, ← q2, q3, q4, q5, q6, ← q7]
  have HH := Lib.hid HE
  clear q1 q2 q7 HE hA hB hl
  cases x1
  case false =>
    go_enter Tryd.func99, Tryd.ntmps99
    go_wp2_with fail
    go_ret
    exact ⟨rfl, b1⟩
  cases x2
  case false =>
    go_enter Tryd.func99, Tryd.ntmps99
    go_wp2_with fail
    go_ret
    exact ⟨rfl, b1⟩
  cases x3
  case false =>
    go_enter Tryd.func99, Tryd.ntmps99
    go_wp2_with fail
    go_ret
    exact ⟨rfl, b1⟩
  cases x4
  case false =>
    go_enter Tryd.func99, Tryd.ntmps99
    go_wp2_with fail
    go_ret
    exact ⟨rfl, b1⟩
  cases x5
  case false =>
    go_enter Tryd.func99, Tryd.ntmps99
    go_wp2_with fail
    go_ret
    exact ⟨rfl, b1⟩
  cases x6
  case false =>
    go_enter Tryd.func99, Tryd.ntmps99
    go_wp2_with fail
    go_ret
    exact ⟨rfl, b1⟩
  go_enter Tryd.func99, Tryd.ntmps99
  go_wp2_with fail
  refine (HH.out _ b1).mono ?_
  rintro e w2 ⟨rfl, hb2⟩
  go_wp2_with fail
  go_ret
  exact ⟨by simp, below_of b1 hb2⟩

end Go.Proofs.YtaeiahkomdpcoaaDoor.Cell
end
