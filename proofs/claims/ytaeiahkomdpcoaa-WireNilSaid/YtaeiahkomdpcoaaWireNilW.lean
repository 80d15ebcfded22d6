/- What no reader answers, and the walk of hoardlaw03.WireNil. -/
import Derived.Test.YtaeiahkomdpcoaaWireAlive
namespace Go.Proofs.Ytaeiahkomdpcoaa.Wire
open Go.RowKit Go.Proofs.Ytaeiahkomdpcoaa.Num

/-- No reader: nil, or one that was not made. -/
def NoRd (w : World) (q : Option Addr) : Prop := q = none ∨ ∃ p, q = some ⟨p, 0, none⟩ ∧ p < w.heap.size ∧ w.cell? ⟨p, 2, none⟩ = some (.bool false)
theorem NoRd.below {w w' : World} {q : Option Addr} (h : NoRd w q) (hb : Below w.heap.size w w') : NoRd w' q := by
  rcases h with rfl | ⟨p, rfl, hp, hc⟩
  · exact .inl rfl
  · exact .inr ⟨p, rfl, Nat.lt_of_lt_of_le hp hb.size, (hb.cell (p := ⟨p, 2, none⟩) hp).trans hc⟩

set_option maxRecDepth 100000 in
theorem no_num (q : Option Addr) (n : Nat) (w : World) (h : NoRd w q) :
    Calls Try.prog 16 #[.pointer q, .int .u64 (n : Int)] w fun e w' => e = .returned (.int .u64 0) ∧ Below w.heap.size w w' := by
  rcases h with rfl | ⟨p, rfl, hp, hc⟩
  · go_enter Try.func16, Try.ntmps16
    go_wp2
    refine bodyPost_ret (results_cell1 rfl _ _ ⟨w.heap.size + 1, 0, none⟩ (.int .u64 0) rfl (Try.isAgg26 _) ?_) rfl ?_
    · go_simp
    · exact ⟨rfl, below_alloc (below_one _ _) _⟩
  · go_enter Try.func16, Try.ntmps16
    go_wp2
    refine bodyPost_ret (results_cell1 rfl _ _ ⟨w.heap.size + 1, 0, none⟩ (.int .u64 0) rfl (Try.isAgg26 _) ?_) rfl ?_
    · go_simp
    · exact ⟨rfl, below_alloc (below_one _ _) _⟩

set_option maxRecDepth 100000 in
theorem no_text (q : Option Addr) (n : Int) (w : World) (h : NoRd w q) :
    Calls Try.prog 17 #[.pointer q, .int .i64 n] w fun e w' => e = .returned (.string ⟨#[]⟩) ∧ Below w.heap.size w w' := by
  rcases h with rfl | ⟨p, rfl, hp, hc⟩
  · go_enter Try.func17, Try.ntmps17
    go_wp2
    refine bodyPost_ret (results_cell1 rfl _ _ ⟨w.heap.size + 1, 0, none⟩ (.string ⟨#[]⟩) rfl (Try.isAgg9 _) ?_) rfl ?_
    · go_simp
    · exact ⟨rfl, below_alloc (below_one _ _) _⟩
  · go_enter Try.func17, Try.ntmps17
    go_wp2
    refine bodyPost_ret (results_cell1 rfl _ _ ⟨w.heap.size + 1, 0, none⟩ (.string ⟨#[]⟩) rfl (Try.isAgg9 _) ?_) rfl ?_
    · go_simp
    · exact ⟨rfl, below_alloc (below_one _ _) _⟩

set_option maxRecDepth 100000 in
theorem no_bool (q : Option Addr) (w : World) (h : NoRd w q) :
    Calls Try.prog 18 #[.pointer q] w fun e w' => e = .returned (.bool false) ∧ Below w.heap.size w w' := by
  rcases h with rfl | ⟨p, rfl, hp, hc⟩
  · go_enter Try.func18, Try.ntmps18
    go_wp2
    refine bodyPost_ret (results_cell1 rfl _ _ ⟨w.heap.size, 0, none⟩ (.bool false) rfl (Try.isAgg4 _) ?_) rfl ?_
    · go_simp
    · exact ⟨rfl, below_one _ _⟩
  · go_enter Try.func18, Try.ntmps18
    go_wp2
    refine bodyPost_ret (results_cell1 rfl _ _ ⟨w.heap.size, 0, none⟩ (.bool false) rfl (Try.isAgg4 _) ?_) rfl ?_
    · go_simp
    · exact ⟨rfl, below_one _ _⟩

set_option maxRecDepth 100000 in
theorem no_count (q : Option Addr) (n : Int) (w : World) (h : NoRd w q) :
    Calls Try.prog 21 #[.pointer q, .int .i64 n] w fun e w' => e = .returned (.int .i64 0) ∧ Below w.heap.size w w' := by
  rcases h with rfl | ⟨p, rfl, hp, hc⟩
  · go_enter Try.func21, Try.ntmps21
    go_wp2
    refine bodyPost_ret (results_cell1 rfl _ _ ⟨w.heap.size + 1, 0, none⟩ (.int .i64 0) rfl (Try.isAgg3 _) ?_) rfl ?_
    · go_simp
    · exact ⟨rfl, below_alloc (below_one _ _) _⟩
  · go_enter Try.func21, Try.ntmps21
    go_wp2
    refine bodyPost_ret (results_cell1 rfl _ _ ⟨w.heap.size + 1, 0, none⟩ (.int .i64 0) rfl (Try.isAgg3 _) ?_) rfl ?_
    · go_simp
    · exact ⟨rfl, below_alloc (below_one _ _) _⟩

set_option maxRecDepth 100000 in
theorem no_rest (q : Option Addr) (w : World) (h : NoRd w q) :
    Calls Try.prog 22 #[.pointer q] w fun e w' => e = .returned (.string ⟨#[]⟩) ∧ Below w.heap.size w w' := by
  rcases h with rfl | ⟨p, rfl, hp, hc⟩
  · go_enter Try.func22, Try.ntmps22
    go_wp2
    refine bodyPost_ret (results_cell1 rfl _ _ ⟨w.heap.size, 0, none⟩ (.string ⟨#[]⟩) rfl (Try.isAgg9 _) ?_) rfl ?_
    · go_simp
    · exact ⟨rfl, below_one _ _⟩
  · go_enter Try.func22, Try.ntmps22
    go_wp2
    refine bodyPost_ret (results_cell1 rfl _ _ ⟨w.heap.size, 0, none⟩ (.string ⟨#[]⟩) rfl (Try.isAgg9 _) ?_) rfl ?_
    · go_simp
    · exact ⟨rfl, below_one _ _⟩

set_option maxRecDepth 100000 in
theorem no_err (q : Option Addr) (w : World) (h : NoRd w q) :
    Calls Try.prog 20 #[.pointer q] w fun e w' => e = .returned (.int .i64 1) ∧ Below w.heap.size w w' := by
  rcases h with rfl | ⟨p, rfl, hp, hc⟩
  · go_enter Try.func20, Try.ntmps20
    go_wp2
    go_ret
    exact ⟨rfl, Below.refl _ _⟩
  · go_enter Try.func20, Try.ntmps20
    go_wp2
    go_ret
    exact ⟨rfl, Below.refl _ _⟩

set_option maxRecDepth 100000 in
theorem no_end (q : Option Addr) (w : World) (h : NoRd w q) :
    Calls Try.prog 19 #[.pointer q] w fun e w' => e = .returned (.int .i64 1) ∧ Below w.heap.size w w' := by
  rcases h with rfl | ⟨p, rfl, hp, hc⟩
  · go_enter Try.func19, Try.ntmps19
    go_wp2
    go_ret
    exact ⟨rfl, Below.refl _ _⟩
  · go_enter Try.func19, Try.ntmps19
    go_wp2
    go_ret
    exact ⟨rfl, Below.refl _ _⟩

set_option maxHeartbeats 3200000 in
set_option maxRecDepth 100000 in
theorem nil_calls (n : Int) (most : Nat) (made : Bool) (w : World) :
    Calls Try.prog 6 #[.int .i64 n, .int .u64 (most : Int), .bool made] w fun e w' => e = .returned (.bool true) ∧ Below w.heap.size w w' := by
  cases made
  · have HN : NoRd w none := .inl rfl
    go_enter Try.func6, Try.ntmps6
    go_wp2_with fail
    refine (no_num _ most _ HN).mono ?_
    rintro e w1 ⟨rfl, b1⟩
    have c1 := b1
    have q1 : NoRd w1 _ := HN.below b1
    go_wp2_with fail
    refine (no_text _ n _ q1).mono ?_
    rintro e w2 ⟨rfl, b2⟩
    have c2 := below_of c1 b2
    have q2 := q1.below b2
    go_wp2_with fail
    refine (no_bool _ _ q2).mono ?_
    rintro e w3 ⟨rfl, b3⟩
    have c3 := below_of c2 b3
    have q3 := q2.below b3
    go_wp2_with fail
    refine (no_count _ n _ q3).mono ?_
    rintro e w4 ⟨rfl, b4⟩
    have c4 := below_of c3 b4
    have q4 := q3.below b4
    go_wp2_with fail
    refine (no_rest _ _ q4).mono ?_
    rintro e w5 ⟨rfl, b5⟩
    have c5 := below_of c4 b5
    have q5 := q4.below b5
    go_wp2_with fail
    refine (no_err _ _ q5).mono ?_
    rintro e w6 ⟨rfl, b6⟩
    have c6 := below_of c5 b6
    have q6 := q5.below b6
    go_wp2_with fail
    refine (no_end _ _ q6).mono ?_
    rintro e w7 ⟨rfl, b7⟩
    have c7 := below_of c6 b7
    go_wp2_with fail
    refine (alive_calls _).mono ?_
    rintro e w8 ⟨rfl, b8⟩
    go_wp2
    go_ret
    exact ⟨rfl, below_of c7 b8⟩
  · have HN : NoRd (w.alloc (.cells #[.string ⟨#[]⟩, .int .i64 0, .bool false] 42)) (some ⟨w.heap.size, 0, none⟩) := .inr ⟨w.heap.size, rfl, by simp, by simp⟩
    go_enter Try.func6, Try.ntmps6
    go_wp2_with fail
    refine (no_num _ most _ HN).mono ?_
    rintro e w1 ⟨rfl, b1⟩
    have c1 := below_of (below_one w _) b1
    have q1 : NoRd w1 _ := HN.below b1
    go_wp2_with fail
    refine (no_text _ n _ q1).mono ?_
    rintro e w2 ⟨rfl, b2⟩
    have c2 := below_of c1 b2
    have q2 := q1.below b2
    go_wp2_with fail
    refine (no_bool _ _ q2).mono ?_
    rintro e w3 ⟨rfl, b3⟩
    have c3 := below_of c2 b3
    have q3 := q2.below b3
    go_wp2_with fail
    refine (no_count _ n _ q3).mono ?_
    rintro e w4 ⟨rfl, b4⟩
    have c4 := below_of c3 b4
    have q4 := q3.below b4
    go_wp2_with fail
    refine (no_rest _ _ q4).mono ?_
    rintro e w5 ⟨rfl, b5⟩
    have c5 := below_of c4 b5
    have q5 := q4.below b5
    go_wp2_with fail
    refine (no_err _ _ q5).mono ?_
    rintro e w6 ⟨rfl, b6⟩
    have c6 := below_of c5 b6
    have q6 := q5.below b6
    go_wp2_with fail
    refine (no_end _ _ q6).mono ?_
    rintro e w7 ⟨rfl, b7⟩
    have c7 := below_of c6 b7
    go_wp2_with fail
    refine (alive_calls _).mono ?_
    rintro e w8 ⟨rfl, b8⟩
    go_wp2
    go_ret
    exact ⟨rfl, below_of c7 b8⟩

end Go.Proofs.Ytaeiahkomdpcoaa.Wire
