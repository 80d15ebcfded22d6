/- The walks of wire's counted and of a reader's Text, Bool, Rest, Err, End. -/
import Derived.Test.YtaeiahkomdpcoaaWireRd
import Derived.OwnWalk
namespace Go.Proofs.Ytaeiahkomdpcoaa.Wire
open Go.RowKit Go.Proofs.Ytaeiahkomdpcoaa.Num

def tri (c : Nat × Nat × Nat) : Value := .tuple #[.int .i64 (c.1 : Int), .int .i64 (c.2.1 : Int), .int .i64 (c.2.2 : Int)]
def endR (st : St) : St := if st.2 ≠ 0 then st else if st.1 = [] then ([], 0) else (st.1, 8)
def restR (st : St) : Bs × St := if st.2 ≠ 0 then ([], st) else (st.1, ([], 0))

theorem bs_slice (l : Bs) (n c : Nat) : (bs l).extract n (n + c) = bs ((l.drop n).take c) := by
  apply ByteArray.ext
  apply Array.toList_inj.1
  rw [Lib.extract_data]
  show (l.drop n).take (n + c - n) = (l.drop n).take c
  rw [Nat.add_sub_cancel_left]

set_option maxHeartbeats 1600000 in
set_option maxRecDepth 100000 in
theorem counted_walk (l : Bs) (most : Int) (v k g : Nat) (w : World) (hl : l.length ≤ 4611686018427387904) (hm : most ≤ 9223372036854775807) (hr : Num.read l = (v, k, g)) :
    Calls Try.prog 36 #[.string (bs l), .int .i64 most] w fun r w' => r = .returned (tri (if g ≠ 0 then (0, 0, g) else if most < 0 ∨ most < (v : Int) then (0, 0, 4) else if l.length - k < v then (0, 0, 10) else (v, k, 0))) ∧ Below w.heap.size w w' := by
  have hb := read_bounds l
  rw [hr] at hb
  have hk : k ≤ (bs l).size := by rw [bs_size]; exact hb.2.1
  have hk9 : k ≤ 9 := hb.2.2.1
  have hv : v < 18446744073709551616 := hb.1
  have HR : Hid (∀ W, Calls Try.prog 34 #[.string (bs l)] W fun e w' => e = .returned (.tuple #[.int .u64 (v : Int), .int .i64 (k : Int), .int .i64 (g : Int)]) ∧ Below W.heap.size W w') := fun W => by
    have h := read_calls (bs l) W (by rw [bs_size]; unfold maxLen; omega)
    rw [bs_data, hr] at h
    exact h
  have hls := bs_size l
  clear hr hb
  obtain ⟨t, ht⟩ : ∃ t, t = bs l := ⟨_, rfl⟩
  obtain ⟨n, hn⟩ : ∃ n, n = l.length := ⟨_, rfl⟩
  rw [← hn] at hls hl
  simp only [← ht] at hk HR hls
  rw [← ht, ← hn]
  clear ht hn
  have hts : t.size ≤ 4611686018427387904 := by omega
  subst hls
  by_cases hg : g = 0
  · subst hg
    simp only [ne_eq, not_true_eq_false, if_false]
    by_cases hm0 : most < 0
    · rw [if_pos (.inl hm0)]
      have HM := Lib.hid hv
      go_enter Try.func36, Try.ntmps36
      go_wp2_with fail
      refine (HR.out _).mono ?_
      rintro e w1 ⟨rfl, hb1⟩
      go_wp2
      go_ret3
      exact ⟨rfl, hb1⟩
    · by_cases hmv : most < (v : Int)
      · rw [if_pos (.inr hmv)]
        have hw : IntKind.u64.wrap most = most := IntWalk.u64_in _ (by omega)
        go_enter Try.func36, Try.ntmps36
        go_wp2_with fail
        refine (HR.out _).mono ?_
        rintro e w1 ⟨rfl, hb1⟩
        go_wp2
        go_ret3
        exact ⟨rfl, hb1⟩
      · rw [if_neg (by omega)]
        have hw : IntKind.u64.wrap most = most := IntWalk.u64_in _ (by omega)
        have hw2 : IntKind.i64.wrap (v : Int) = (v : Int) := IntWalk.i64_in _ (by omega)
        have hv63 : ¬ (9223372036854775807 : Int) < (v : Int) := by omega
        have hw3 : IntKind.i64.wrap ((t.size : Int) - (k : Int)) = (t.size : Int) - (k : Int) := IntWalk.i64_in _ (by omega)
        by_cases hs : t.size - k < v
        · rw [if_pos hs]
          have hs' : (t.size : Int) - (k : Int) < (v : Int) := by omega
          go_enter Try.func36, Try.ntmps36
          go_wp2_with fail
          refine (HR.out _).mono ?_
          rintro e w1 ⟨rfl, hb1⟩
          go_wp2
          go_ret3
          exact ⟨rfl, hb1⟩
        · rw [if_neg hs]
          have hs' : ¬ (t.size : Int) - (k : Int) < (v : Int) := by omega
          go_enter Try.func36, Try.ntmps36
          go_wp2_with fail
          refine (HR.out _).mono ?_
          rintro e w1 ⟨rfl, hb1⟩
          go_wp2
          go_ret3
          exact ⟨rfl, hb1⟩
  · rw [if_pos hg]
    have hg' : ((g : Int) == 0) = false := by rw [beq_eq_false_iff_ne]; omega
    clear hg hv
    go_enter Try.func36, Try.ntmps36
    go_wp2_with fail
    refine (HR.out _).mono ?_
    rintro e w1 ⟨rfl, hb1⟩
    go_wp2
    go_ret3
    exact ⟨rfl, hb1⟩

end Go.Proofs.Ytaeiahkomdpcoaa.Wire
