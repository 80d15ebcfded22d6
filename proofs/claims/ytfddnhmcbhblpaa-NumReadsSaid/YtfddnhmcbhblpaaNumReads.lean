/- For every text hoardlaw01.NumReads returns true: which number stands at the front of bytes, upwards and downwards, or why there is none, is as the document says. No condition on the input. -/
import Derived.Test.YtfddnhmcbhblpaaNumAlive
import Derived.Test.YtfddnhmcbhblpaaLaw
namespace Go.Proofs.Ytfddnhmcbhblpaa.NumReads
open Go.RowKit Go.Proofs.Ytfddnhmcbhblpaa.Num

set_option maxHeartbeats 1600000 in
theorem walk (s : ByteArray) (w : World) (hs : s.size ≤ maxLen) :
    Calls Try.prog 7 #[.string s] w fun e w' => e = .returned (.bool true) ∧ Below w.heap.size w w' := by
  have hs' := hs
  unfold maxLen at hs'
  obtain ⟨a, ha⟩ : ∃ a, a = read s.data.toList := ⟨_, rfl⟩
  obtain ⟨b, hb⟩ : ∃ b, b = readDown s.data.toList := ⟨_, rfl⟩
  have HA := Lib.hid ha
  have HB := Lib.hid hb
  clear ha hb
  by_cases hc : (4096 : Int) < (s.size : Int)
  all_goals go_enter Try.func7, Try.ntmps7
  all_goals go_wp2_with (first
    | (go_at_call 23; refine (read_calls _ _ (by assumption)).mono ?_; rintro e w1 ⟨rfl, hb⟩)
    | (go_at_call 24; refine (refRead_calls _ _ (by assumption)).mono ?_; rintro e w1 ⟨rfl, hb⟩)
    | (go_at_call 25; refine (readDown_calls _ _ (by assumption)).mono ?_; rintro e w1 ⟨rfl, hb⟩)
    | (go_at_call 26; refine (refReadDown_calls _ _ (by assumption)).mono ?_; rintro e w1 ⟨rfl, hb⟩)
    | (go_at_call 22; refine (alive_calls _).mono ?_; rintro e w1 ⟨rfl, hb⟩))
  all_goals go_ret
  all_goals refine ⟨rfl, ?_⟩
  all_goals repeat (first | exact Below.refl _ _ | assumption | refine below_of ?_ (by assumption))

open Go.ChangeShapes Go.WideShapes Go.ChangeAt Go.Joins
open Go.ChangeMaps (open_string)

set_option maxRecDepth 100000 in
theorem lifted (os : Os) (started : os.Started) (H : Type) (enc : TypeId × Value → H) :
    ReturnsInHanded {} Try.checked os 7 .any (Rows.numReadsSpec.pre6 enc Try.prog Try.f7 Rows.numReadsRow.domain false) (Rows.numReadsSpec.post enc Try.prog Try.f7 false true false false) := by
  refine returnsInHanded_of_change (C := Try.checked) own started (by kernel_rfl) Try.func7
    (ChangeSpec.witness6 (enc := enc) (C := Try.checked) false ⟨#[], #[.string ⟨#[]⟩], []⟩ 8 (by kernel_rfl) (by kernel_rfl) (by kernel_rfl) (by kernel_rfl)) ?_
  intro W base args ds gs before hval0 hW hcnd _
  have hval : ∀ (j : Nat) t v, Try.f7.params[j]? = some t → args[j]? = some v → Value.okWide Try.prog W .any base t v := hval0
  have hW' := hW
  obtain ⟨p, q, hA0, hV, rfl, _, _⟩ := hW'
  have hA : DataW.TrodAll enc Try.prog W 0 (fun _ => true) true Try.f7.params.toList args.toList ds p := hA0
  rw [Try.params7] at hA hval
  obtain ⟨v0, d0, rfl, rfl, h0⟩ := trodAll_one hA
  obtain ⟨rfl, rfl⟩ := trodVars_none hV
  obtain ⟨s0, rfl, rfl, rfl, ws0⟩ := open_string Try.underlying9 (hval 0 9 v0 rfl rfl) h0
  refine (walk s0 W ws0).mono fun e W' ⟨he, hb⟩ => ⟨_, he, ?_⟩
  exact law_post (tb := 4) hW hb laidOut (by kernel_rfl) (by kernel_rfl) Try.underlying4 rfl rfl

theorem proved : Rows.NumReadsSaid :=
  OpenClaim.holds_of_wide 7 Try.f7 rfl rfl rfl rfl rfl rfl rfl ⟨rfl, rfl, rfl, rfl, rfl⟩ rfl rfl rfl rfl rfl (by kernel_rfl) Try.func7 (by kernel_rfl)
    (of_decide_eq_true (by kernel_rfl)) (by unfold Func.isWrapper; first | (rw [if_pos (by decide +kernel)]; kernel_rfl) | (rw [if_neg (by decide +kernel)]; exact ⟨rfl, rfl⟩))
    (fun os started H enc _ => lifted os started H enc)

#print axioms proved
end Go.Proofs.Ytfddnhmcbhblpaa.NumReads
