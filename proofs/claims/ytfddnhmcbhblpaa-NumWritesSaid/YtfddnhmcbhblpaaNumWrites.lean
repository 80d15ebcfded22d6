/- For every number hoardlaw01.NumWrites returns true: the bytes of a number, upwards and downwards, and how many there are, are the document's. No condition on the input. -/
import Derived.Test.YtfddnhmcbhblpaaNumAlive
import Derived.Test.YtfddnhmcbhblpaaLaw
namespace Go.Proofs.Ytfddnhmcbhblpaa.NumWrites
open Go.RowKit Go.Proofs.Ytfddnhmcbhblpaa.Num

set_option maxHeartbeats 800000 in
theorem walk (x : Nat) (w : World) (hx : Hid (x < 18446744073709551616)) :
    Calls Try.prog 6 #[.int .u64 (x : Int)] w fun e w' => e = .returned (.bool true) ∧ Below w.heap.size w w' := by
  have hl := bs_size (up x)
  go_enter Try.func6, Try.ntmps6
  go_wp2_with (first
    | (go_at_call 17; refine (up_calls _ _ (by assumption)).mono ?_; rintro e w1 ⟨rfl, hb⟩)
    | (go_at_call 18; refine (refUp_calls _ _ (by assumption)).mono ?_; rintro e w1 ⟨rfl, hb⟩)
    | (go_at_call 19; refine (down_calls _ _ (by assumption)).mono ?_; rintro e w1 ⟨rfl, hb⟩)
    | (go_at_call 20; refine (refDown_calls _ _ (by assumption)).mono ?_; rintro e w1 ⟨rfl, hb⟩)
    | (go_at_call 21; refine (size_calls _ _ (by assumption)).mono ?_; rintro e w1 ⟨rfl, hb⟩)
    | (go_at_call 22; refine (alive_calls _).mono ?_; rintro e w1 ⟨rfl, hb⟩))
  all_goals go_ret
  all_goals refine ⟨rfl, ?_⟩
  all_goals repeat (first | exact Below.refl _ _ | assumption | refine below_of ?_ (by assumption))

open Go.ChangeShapes Go.WideShapes Go.ChangeAt Go.Joins
open Go.ChangeMaps (open_string)

set_option maxRecDepth 100000 in
theorem lifted (os : Os) (started : os.Started) (H : Type) (enc : TypeId × Value → H) :
    ReturnsInHanded {} Try.checked os 6 .any (Rows.numWritesSpec.pre6 enc Try.prog Try.f6 Rows.numWritesRow.domain false) (Rows.numWritesSpec.post enc Try.prog Try.f6 false true false false) := by
  refine returnsInHanded_of_change (C := Try.checked) own started (by kernel_rfl) Try.func6
    (ChangeSpec.witness6 (enc := enc) (C := Try.checked) false ⟨#[], #[.int .u64 0], []⟩ 8 (by kernel_rfl) (by kernel_rfl) (by kernel_rfl) (by kernel_rfl)) ?_
  intro W base args ds gs before hval0 hW hcnd _
  have hval : ∀ (j : Nat) t v, Try.f6.params[j]? = some t → args[j]? = some v → Value.okWide Try.prog W .any base t v := hval0
  have hW' := hW
  obtain ⟨p, q, hA0, hV, rfl, _, _⟩ := hW'
  have hA : DataW.TrodAll enc Try.prog W 0 (fun _ => true) true Try.f6.params.toList args.toList ds p := hA0
  rw [Try.params6] at hA hval
  obtain ⟨v0, d0, rfl, rfl, h0⟩ := trodAll_one hA
  obtain ⟨rfl, rfl⟩ := trodVars_none hV
  obtain ⟨a0, rfl, rfl, rfl, wf0⟩ := open_int Try.underlying22 (hval 0 22 v0 rfl rfl) h0
  obtain ⟨x0, rfl⟩ := Int.eq_ofNat_of_zero_le (bounds_u64 wf0).1
  refine (walk x0 W (Lib.hid (by have := (bounds_u64 wf0).2; omega))).mono fun e W' ⟨he, hb⟩ => ⟨_, he, ?_⟩
  exact law_post (tb := 4) hW hb laidOut (by kernel_rfl) (by kernel_rfl) Try.underlying4 rfl rfl

theorem proved : Rows.NumWritesSaid :=
  OpenClaim.holds_of_wide 6 Try.f6 rfl rfl rfl rfl rfl rfl rfl ⟨rfl, rfl, rfl, rfl, rfl⟩ rfl rfl rfl rfl rfl (by kernel_rfl) Try.func6 (by kernel_rfl)
    (of_decide_eq_true (by kernel_rfl)) (by unfold Func.isWrapper; first | (rw [if_pos (by decide +kernel)]; kernel_rfl) | (rw [if_neg (by decide +kernel)]; exact ⟨rfl, rfl⟩))
    (fun os started H enc _ => lifted os started H enc)

#print axioms proved
end Go.Proofs.Ytfddnhmcbhblpaa.NumWrites
