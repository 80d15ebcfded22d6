/- For any two numbers hoardlaw01.NumSizes returns true: a greater number never has fewer bytes; each has as many as is told, nine at most. No condition on the input. -/
import Derived.Test.YtfddnhmcbhblpaaNumAlive
import Derived.Test.YtfddnhmcbhblpaaLaw
namespace Go.Proofs.Ytfddnhmcbhblpaa.NumSizes
open Go.RowKit Go.Proofs.Ytfddnhmcbhblpaa.Num

theorem lsb_mono (f : Nat) : ∀ {x y : Nat}, x ≤ y → (lsb f x).length ≤ (lsb f y).length := by
  induction f with
  | zero => intro x y _; simp [lsb]
  | succ f ih =>
    intro x y h
    unfold lsb
    split
    · simp
    · rw [if_neg (by omega)]
      simp only [List.length_cons]
      have := ih (Nat.div_le_div_right (c := 256) h)
      omega
theorem up_mono {x y : Nat} (h : x ≤ y) : (up x).length ≤ (up y).length := by
  rw [up_length, up_length]
  have := lsb_mono 8 h
  unfold digs
  rw [List.length_reverse, List.length_reverse]
  omega

set_option maxHeartbeats 1600000 in
theorem walk (x y : Nat) (w : World) (hx : Hid (x < 18446744073709551616)) (hy : Hid (y < 18446744073709551616)) :
    Calls Try.prog 10 #[.int .u64 (x : Int), .int .u64 (y : Int)] w fun e w' => e = .returned (.bool true) ∧ Below w.heap.size w w' := by
  have lx : (bs (up x)).size = (up x).length := bs_size _
  have ly : (bs (up y)).size = (up y).length := bs_size _
  have dx : (bs (down x)).size = (up x).length := (bs_size _).trans (turn_length _)
  have x9 := up_length_le x
  have y9 := up_length_le y
  have x1 : 1 ≤ (up x).length := by rw [up_length]; omega
  have ⟨m, M, hm⟩ : ∃ m M : Nat, (m = x ∧ M = y ∨ m = y ∧ M = x) ∧ min (x : Int) (y : Int) = (m : Int) ∧ max (x : Int) (y : Int) = (M : Int) ∧ (up m).length ≤ (up M).length := by
    rcases Nat.le_total x y with h | h
    · exact ⟨x, y, Or.inl ⟨rfl, rfl⟩, by omega, by omega, up_mono h⟩
    · exact ⟨y, x, Or.inr ⟨rfl, rfl⟩, by omega, by omega, up_mono h⟩
  obtain ⟨hc, hmin, hmax, hle⟩ := hm
  rcases hc with ⟨rfl, rfl⟩ | ⟨rfl, rfl⟩
  all_goals go_enter Try.func10, Try.ntmps10
  all_goals go_wp2_with (first
    | (go_at_call 17; refine (up_calls _ _ (by assumption)).mono ?_; rintro e w1 ⟨rfl, hb⟩)
    | (go_at_call 19; refine (down_calls _ _ (by assumption)).mono ?_; rintro e w1 ⟨rfl, hb⟩)
    | (go_at_call 21; refine (size_calls _ _ (by assumption)).mono ?_; rintro e w1 ⟨rfl, hb⟩)
    | (go_at_call 22; refine (alive_calls _).mono ?_; rintro e w1 ⟨rfl, hb⟩))
  all_goals go_ret
  all_goals refine ⟨rfl, ?_⟩
  all_goals repeat (first | exact Below.refl _ _ | assumption | refine below_of ?_ (by assumption))

open Go.ChangeShapes Go.WideShapes Go.ChangeAt Go.Joins
open Go.ChangeMaps (open_string)

set_option maxRecDepth 100000 in
theorem lifted (os : Os) (started : os.Started) (H : Type) (enc : TypeId × Value → H) :
    ReturnsInHanded {} Try.checked os 10 .any (Rows.numSizesSpec.pre6 enc Try.prog Try.f10 Rows.numSizesRow.domain false) (Rows.numSizesSpec.post enc Try.prog Try.f10 false true false false) := by
  refine returnsInHanded_of_change (C := Try.checked) own started (by kernel_rfl) Try.func10
    (ChangeSpec.witness6 (enc := enc) (C := Try.checked) false ⟨#[], #[.int .u64 0, .int .u64 0], []⟩ 8 (by kernel_rfl) (by kernel_rfl) (by kernel_rfl) (by kernel_rfl)) ?_
  intro W base args ds gs before hval0 hW hcnd _
  have hval : ∀ (j : Nat) t v, Try.f10.params[j]? = some t → args[j]? = some v → Value.okWide Try.prog W .any base t v := hval0
  have hW' := hW
  obtain ⟨p, q, hA0, hV, rfl, _, _⟩ := hW'
  have hA : DataW.TrodAll enc Try.prog W 0 (fun _ => true) true Try.f10.params.toList args.toList ds p := hA0
  rw [Try.params10] at hA hval
  obtain ⟨v0, v1, d0, d1, p0, p1, rfl, rfl, rfl, h0, h1⟩ := trodAll_two hA
  obtain ⟨rfl, rfl⟩ := trodVars_none hV
  obtain ⟨a0, rfl, rfl, rfl, wf0⟩ := open_int Try.underlying22 (hval 0 22 v0 rfl rfl) h0
  obtain ⟨x0, rfl⟩ := Int.eq_ofNat_of_zero_le (bounds_u64 wf0).1
  obtain ⟨a1, rfl, rfl, rfl, wf1⟩ := open_int Try.underlying22 (hval 1 22 v1 rfl rfl) h1
  obtain ⟨x1, rfl⟩ := Int.eq_ofNat_of_zero_le (bounds_u64 wf1).1
  refine (walk x0 x1 W (Lib.hid (by have := (bounds_u64 wf0).2; omega)) (Lib.hid (by have := (bounds_u64 wf1).2; omega))).mono fun e W' ⟨he, hb⟩ => ⟨_, he, ?_⟩
  exact law_post (tb := 4) hW hb laidOut (by kernel_rfl) (by kernel_rfl) Try.underlying4 rfl rfl

theorem proved : Rows.NumSizesSaid :=
  OpenClaim.holds_of_wide 10 Try.f10 rfl rfl rfl rfl rfl rfl rfl ⟨rfl, rfl, rfl, rfl, rfl⟩ rfl rfl rfl rfl rfl (by kernel_rfl) Try.func10 (by kernel_rfl)
    (of_decide_eq_true (by kernel_rfl)) (by unfold Func.isWrapper; first | (rw [if_pos (by decide +kernel)]; kernel_rfl) | (rw [if_neg (by decide +kernel)]; exact ⟨rfl, rfl⟩))
    (fun os started H enc _ => lifted os started H enc)

#print axioms proved
end Go.Proofs.Ytfddnhmcbhblpaa.NumSizes
