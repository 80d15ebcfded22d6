/- The walks of package cond and of the document's answer for it: each function once. -/
import Derived.Test.YtfddnhmcbhblpaaKit
namespace Go.Proofs.Ytfddnhmcbhblpaa.Cond
open Go.RowKit

def mayB (k n : Int) : Bool := decide ((k = 0 ∨ k = 1) ∧ n = 0 ∨ k = 2 ∧ 1 ≤ n ∧ n ≤ 281474976710656)
def holdsI (k n : Int) (there : Bool) (m : Int) : Int := if mayB k n = true then (if (k = 1 ∧ there = true) ∨ (k = 2 ∧ (there = false ∨ m ≠ n)) then 230 else 0) else 2
def impB (k n k' n' : Int) : Bool := mayB k n && (mayB k' n' && decide (k' = 0 ∨ (k = k' ∧ n = n')))

set_option maxHeartbeats 400000 in
theorem may_calls (k n : Int) (w : World) (_h0 : 0 ≤ k) (_hn : 0 ≤ n) : Calls Try.prog 11 #[.agg #[.int .u8 k, .int .u64 n]] w fun e w' => e = .returned (.bool (mayB k n)) ∧ Below w.heap.size w w' := by
  go_enter Try.func11, Try.ntmps11
  go_wp2
  all_goals go_ret
  all_goals refine ⟨ret_bool ?_, below_one _ _⟩
  all_goals (simp only [beq_iff_eq, beq_eq_false_iff_ne] at *)
  all_goals (unfold mayB; rw [Bool.eq_iff_iff]; simp; omega)

set_option maxHeartbeats 400000 in
theorem refMay_calls (k n : Int) (w : World) (_h0 : 0 ≤ k) (_hn : 0 ≤ n) : Calls Try.prog 12 #[.agg #[.int .u8 k, .int .u64 n]] w fun e w' => e = .returned (.bool (mayB k n)) ∧ Below w.heap.size w w' := by
  go_enter Try.func12, Try.ntmps12
  go_wp2
  all_goals go_ret
  all_goals refine ⟨ret_bool ?_, below_one _ _⟩
  all_goals (simp only [beq_iff_eq, beq_eq_false_iff_ne] at *)
  all_goals (unfold mayB; rw [Bool.eq_iff_iff]; simp; omega)

set_option maxHeartbeats 400000 in
theorem holds_calls (k n : Int) (there : Bool) (m : Int) (w : World) (h0 : 0 ≤ k) (hn : 0 ≤ n) :
    Calls Try.prog 13 #[.agg #[.int .u8 k, .int .u64 n], .bool there, .int .u64 m] w fun e w' => e = .returned (.int .i64 (holdsI k n there m)) ∧ Below w.heap.size w w' := by
  cases hm : mayB k n <;> cases there
  all_goals go_enter Try.func13, Try.ntmps13
  all_goals go_wp2_with (go_at_call 11; refine (may_calls _ _ _ h0 hn).mono ?_; rintro e w1 ⟨rfl, hb⟩; obtain ⟨hc, hf⟩ := bcell hb)
  all_goals go_ret
  all_goals refine ⟨ret_int ?_, below_of (below_one _ _) (by assumption)⟩
  all_goals (simp_all [holdsI])

set_option maxHeartbeats 400000 in
theorem refHolds_calls (k n : Int) (there : Bool) (m : Int) (w : World) (h0 : 0 ≤ k) (hn : 0 ≤ n) :
    Calls Try.prog 14 #[.agg #[.int .u8 k, .int .u64 n], .bool there, .int .u64 m] w fun e w' => e = .returned (.int .i64 (holdsI k n there m)) ∧ Below w.heap.size w w' := by
  cases hm : mayB k n <;> cases there
  all_goals go_enter Try.func14, Try.ntmps14
  all_goals go_wp2_with (go_at_call 12; refine (refMay_calls _ _ _ h0 hn).mono ?_; rintro e w1 ⟨rfl, hb⟩; obtain ⟨hc, hf⟩ := bcell hb)
  all_goals go_ret
  all_goals refine ⟨ret_int ?_, below_of (below_one _ _) (by assumption)⟩
  all_goals (simp_all [holdsI])

set_option maxHeartbeats 400000 in
theorem implies_calls (k n k' n' : Int) (w : World) (h0 : 0 ≤ k) (hn : 0 ≤ n) (h0' : 0 ≤ k') (hn' : 0 ≤ n') :
    Calls Try.prog 16 #[.agg #[.int .u8 k, .int .u64 n], .agg #[.int .u8 k', .int .u64 n']] w fun e w' => e = .returned (.bool (impB k n k' n')) ∧ Below w.heap.size w w' := by
  cases hm : mayB k n <;> cases hm' : mayB k' n'
  all_goals go_enter Try.func16, Try.ntmps16
  all_goals go_wp2_with fail
  all_goals (refine (may_calls _ _ _ h0 hn).mono ?_; rintro e w1 ⟨rfl, hb⟩; obtain ⟨hc, hf⟩ := bcell hb; have hz : w.heap.size + 1 < w1.heap.size := (by have := hb.size; simp at this; omega); have hz0 : w.heap.size < w1.heap.size := (by omega))
  all_goals go_wp2_with (go_at_call 11; refine (may_calls _ _ _ h0' hn').mono ?_; rintro e w2 ⟨rfl, hb2⟩; obtain ⟨hc2, hf2⟩ := bcell hb2)
  all_goals go_ret
  all_goals refine ⟨ret_bool ?_, ?_⟩
  all_goals first
    | (simp_all [impB]; done)
    | (repeat (first | exact Below.refl _ _ | apply below_alloc | refine below_of ?_ (by assumption)))

set_option maxHeartbeats 800000 in
theorem works_calls (w : World) : Calls Try.prog 15 #[] w fun e w' => e = .returned (.bool true) ∧ Below w.heap.size w w' := by
  have e1 : holdsI 1 0 true 3 = 230 := by decide
  have e2 : holdsI 2 3 true 3 = 0 := by decide
  have e3 : holdsI 2 0 true 0 = 2 := by decide
  have e4 : impB 2 3 0 0 = true := by decide
  have e5 : impB 0 0 1 0 = false := by decide
  go_enter Try.func15, Try.ntmps15
  go_wp2_with (first
    | (go_at_call 13; refine (holds_calls _ _ _ _ _ (by omega) (by omega)).mono ?_; rintro e w1 ⟨rfl, hb⟩)
    | (go_at_call 16; refine (implies_calls _ _ _ _ _ (by omega) (by omega) (by omega) (by omega)).mono ?_; rintro e w1 ⟨rfl, hb⟩))
  go_ret
  refine ⟨rfl, ?_⟩
  repeat (first | exact Below.refl _ _ | assumption | refine below_of ?_ (by assumption))

end Go.Proofs.Ytfddnhmcbhblpaa.Cond
