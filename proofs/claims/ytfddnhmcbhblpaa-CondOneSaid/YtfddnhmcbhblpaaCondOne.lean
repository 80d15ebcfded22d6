/- For any two versions, any object, hoardlaw23.CondOne returns true: of two conditions of unlike versions one at most holds; where an object is, IfAbsent does not hold, and where it is not, IfIs does not. No condition on the input. -/
import Derived.Test.YtfddnhmcbhblpaaCondWalks
import Derived.Test.YtfddnhmcbhblpaaLaw
namespace Go.Proofs.Ytfddnhmcbhblpaa.CondOne
open Go.RowKit Go.Sort Go.Proofs.Ytfddnhmcbhblpaa.Cond

theorem holds2 (a : Int) (there : Bool) (n : Int) : (holdsI 2 a there n = 0 ∧ there = true ∧ n = a) ∨ holdsI 2 a there n = 2 ∨ holdsI 2 a there n = 230 := by
  unfold holdsI
  split
  · cases there
    · simp
    · by_cases h : n = a <;> simp [h]
  · simp

set_option maxHeartbeats 4000000 in
theorem walkB (a b : Int) (there : Bool) (n : Int) (w : World) (h0 : 0 ≤ a) (hn : 0 ≤ b) (x y : Int) (hx : x = 0 ∨ x = 2 ∨ x = 230) (hy : y = 0 ∨ y = 2 ∨ y = 230) (ht : there = false → x ≠ 0) (ht' : there = false → y ≠ 0)
    (hab : a = b ∨ (a ≠ b ∧ (x ≠ 0 ∨ y ≠ 0))) (hX : holdsI 2 a there n = x) (hY : holdsI 2 b there n = y) :
    Calls Try.prog 5 #[.int .u64 a, .int .u64 b, .bool there, .int .u64 n] w fun e w' => e = .returned (.bool true) ∧ Below w.heap.size w w' := by
  have hz : holdsI 1 0 there n = if there = true then 230 else 0 := by cases there <;> simp [holdsI, mayB]
  have hz0 : holdsI 0 0 there n = 0 := by cases there <;> simp [holdsI, mayB]
  rcases hab with rfl | ⟨hab, hxy⟩
  · obtain rfl : x = y := hX.symm.trans hY
    clear hY hy ht'
    cases there
    all_goals rcases hx with rfl | rfl | rfl
    all_goals first
      | (exact absurd rfl (ht rfl))
      | (clear ht
         simp only [Bool.false_eq_true, if_false, if_true] at hz
         go_enter Try.func5, Try.ntmps5
         go_wp2_with (first
           | (go_at_call 13; refine (holds_calls _ _ _ _ _ (by omega) (by omega)).mono ?_; rintro e w1 ⟨rfl, hb⟩)
           | (go_at_call 15; refine (works_calls _).mono ?_; rintro e w1 ⟨rfl, hb⟩))
         go_ret
         refine ⟨rfl, ?_⟩
         repeat (first | exact Below.refl _ _ | assumption | refine below_of ?_ (by assumption)))
  · have hne : (a == b) = false := by simpa using hab
    cases there
    all_goals rcases hx with rfl | rfl | rfl
    all_goals rcases hy with rfl | rfl | rfl
    all_goals first
      | (exact absurd rfl (ht rfl))
      | (exact absurd rfl (ht' rfl))
      | (exact absurd hxy (by decide))
      | (clear ht ht' hxy
         simp only [Bool.false_eq_true, if_false, if_true] at hz
         go_enter Try.func5, Try.ntmps5
         go_wp2_with (first
           | (go_at_call 13; refine (holds_calls _ _ _ _ _ (by omega) (by omega)).mono ?_; rintro e w1 ⟨rfl, hb⟩)
           | (go_at_call 15; refine (works_calls _).mono ?_; rintro e w1 ⟨rfl, hb⟩))
         go_ret
         refine ⟨rfl, ?_⟩
         repeat (first | exact Below.refl _ _ | assumption | refine below_of ?_ (by assumption)))

theorem walk (a b : Int) (there : Bool) (n : Int) (w : World) (h0 : 0 ≤ a) (hn : 0 ≤ b) :
    Calls Try.prog 5 #[.int .u64 a, .int .u64 b, .bool there, .int .u64 n] w fun e w' => e = .returned (.bool true) ∧ Below w.heap.size w w' := by
  have h1 := holds2 a there n
  have h2 := holds2 b there n
  refine walkB a b there n w h0 hn _ _ ?_ ?_ ?_ ?_ ?_ rfl rfl
  · rcases h1 with ⟨h, _⟩ | h | h <;> simp [h]
  · rcases h2 with ⟨h, _⟩ | h | h <;> simp [h]
  · intro ht; rcases h1 with ⟨_, h, _⟩ | h | h <;> simp_all
  · intro ht; rcases h2 with ⟨_, h, _⟩ | h | h <;> simp_all
  · by_cases hab : a = b
    · exact Or.inl hab
    · refine Or.inr ⟨hab, ?_⟩
      rcases h1 with ⟨_, _, h⟩ | h | h
      · rcases h2 with ⟨_, _, h'⟩ | h' | h'
        · omega
        · simp [h']
        · simp [h']
      · simp [h]
      · simp [h]

open Go.ChangeShapes Go.WideShapes Go.ChangeAt Go.Joins

set_option maxRecDepth 100000 in
theorem lifted (os : Os) (started : os.Started) (H : Type) (enc : TypeId × Value → H) :
    ReturnsInHanded {} Try.checked os 5 .any (Rows.condOneSpec.pre6 enc Try.prog Try.f5 Rows.condOneRow.domain false) (Rows.condOneSpec.post enc Try.prog Try.f5 false true false false) := by
  refine returnsInHanded_of_change (C := Try.checked) own started (by kernel_rfl) Try.func5
    (ChangeSpec.witness6 (enc := enc) (C := Try.checked) false ⟨#[], #[.int .u64 0, .int .u64 0, .bool false, .int .u64 0], []⟩ 8 (by kernel_rfl) (by kernel_rfl) (by kernel_rfl) (by kernel_rfl)) ?_
  intro W base args ds gs before hval0 hW hcnd _
  have hval : ∀ (j : Nat) t v, Try.f5.params[j]? = some t → args[j]? = some v → Value.okWide Try.prog W .any base t v := hval0
  have hW' := hW
  obtain ⟨p, q, hA0, hV, rfl, _, _⟩ := hW'
  have hA : DataW.TrodAll enc Try.prog W 0 (fun _ => true) true Try.f5.params.toList args.toList ds p := hA0
  rw [Try.params5] at hA hval
  obtain ⟨v0, v1, v2, v3, d0, d1, d2, d3, p0, p1, p2, p3, rfl, rfl, rfl, h0, h1, h2, h3⟩ := trodAll_four hA
  obtain ⟨rfl, rfl⟩ := trodVars_none hV
  obtain ⟨a, rfl, rfl, rfl, wa⟩ := open_int Try.underlying22 (hval 0 22 v0 rfl rfl) h0
  obtain ⟨b, rfl, rfl, rfl, wb⟩ := open_int Try.underlying22 (hval 1 22 v1 rfl rfl) h1
  obtain ⟨there, rfl, rfl, rfl⟩ := open_bool Try.underlying4 (hval 2 4 v2 rfl rfl) h2
  obtain ⟨n, rfl, rfl, rfl, wn⟩ := open_int Try.underlying22 (hval 3 22 v3 rfl rfl) h3
  refine (walk a b there n W (bounds_u64 wa).1 (bounds_u64 wb).1).mono fun e W' ⟨he, hb⟩ => ⟨_, he, ?_⟩
  exact law_post (tb := 4) hW hb laidOut (by kernel_rfl) (by kernel_rfl) Try.underlying4 rfl rfl

theorem proved : Rows.CondOneSaid :=
  OpenClaim.holds_of_wide 5 Try.f5 rfl rfl rfl rfl rfl rfl rfl ⟨rfl, rfl, rfl, rfl, rfl⟩ rfl rfl rfl rfl rfl (by kernel_rfl) Try.func5 (by kernel_rfl)
    (of_decide_eq_true (by kernel_rfl)) (by unfold Func.isWrapper; first | (rw [if_pos (by decide +kernel)]; kernel_rfl) | (rw [if_neg (by decide +kernel)]; exact ⟨rfl, rfl⟩))
    (fun os started H enc _ => lifted os started H enc)

#print axioms proved
end Go.Proofs.Ytfddnhmcbhblpaa.CondOne
