/- For every number of rows and every script hoardlaw10.AllocOnce returns true: no row is taken twice, unless it was dropped and cleared between, and each row is one of the three at every time. No condition on the input. -/
import Derived.Test.YtnmnecjelpglhaaAllocOnceW
import Derived.Test.YtnmnecjelpglhaaAllocOpen
import Derived.Test.YtnmnecjelpglhaaLaw
namespace Go.Proofs.Ytnmnecjelpglhaa.AllocOnce
open Go.RowKit Go.Proofs.Ytnmnecjelpglhaa.Alloc

theorem walk (x : Nat) (A : Option Addr) (c : Nat) (ss : List Step) (w : World) (hx : Hid (x < 65536)) (hs : StepsAt w A ss) :
    Calls Try.prog 4 #[.int .u16 (x : Int), .slice A ss.length c] w fun e w' => e = .returned (.bool true) ∧ Below w.heap.size w w' := once_calls x A c ss w hs hx

open Go.ChangeShapes Go.WideShapes Go.ChangeAt Go.Joins
open Go.ChangeMaps (open_string)

set_option maxRecDepth 100000 in
theorem lifted (os : Os) (started : os.Started) (H : Type) (enc : TypeId × Value → H) :
    ReturnsInHanded {} Try.checked os 4 .any (Rows.allocOnceSpec.pre6 enc Try.prog Try.f4 Rows.allocOnceRow.domain false) (Rows.allocOnceSpec.post enc Try.prog Try.f4 false true false false) := by
  refine returnsInHanded_of_change (C := Try.checked) own started (by kernel_rfl) Try.func4
    (ChangeSpec.witness6 (enc := enc) (C := Try.checked) false ⟨#[], #[.int .u16 0, .slice none 0 0], []⟩ 8 (by kernel_rfl) (by kernel_rfl) (by kernel_rfl) (by kernel_rfl)) ?_
  intro W base args ds gs before hval0 hW hcnd _
  have hval : ∀ (j : Nat) t v, Try.f4.params[j]? = some t → args[j]? = some v → Value.okWide Try.prog W .any base t v := hval0
  have hW' := hW
  obtain ⟨p, q, hA0, hV, rfl, _, _⟩ := hW'
  have hA : DataW.TrodAll enc Try.prog W 0 (fun _ => true) true Try.f4.params.toList args.toList ds p := hA0
  rw [Try.params4] at hA hval
  obtain ⟨v0, v1, d0, d1, p0, p1, rfl, rfl, rfl, h0, h1⟩ := trodAll_two hA
  obtain ⟨rfl, rfl⟩ := trodVars_none hV
  obtain ⟨a0, rfl, rfl, rfl, wf0⟩ := open_int Try.underlying49 (hval 0 49 v0 rfl rfl) h0
  obtain ⟨x0, rfl⟩ := Int.eq_ofNat_of_zero_le (bounds_u16 wf0).1
  obtain ⟨A1, c1, l1, rfl, m1⟩ := open_steps_arg (hval 1 23 v1 rfl rfl) h1
  refine (walk x0 A1 c1 l1 W (Lib.hid (by have := (bounds_u16 wf0).2; omega)) m1).mono fun e W' ⟨he, hb⟩ => ⟨_, he, ?_⟩
  exact law_post (tb := 4) hW hb laidOut (by kernel_rfl) (by kernel_rfl) Try.underlying4 rfl rfl

theorem proved : Rows.AllocOnceSaid :=
  OpenClaim.holds_of_wide 4 Try.f4 rfl rfl rfl rfl rfl rfl rfl ⟨rfl, rfl, rfl, rfl, rfl⟩ rfl rfl rfl rfl rfl (by kernel_rfl) Try.func4 (by kernel_rfl)
    (of_decide_eq_true (by kernel_rfl)) (by unfold Func.isWrapper; first | (rw [if_pos (by decide +kernel)]; kernel_rfl) | (rw [if_neg (by decide +kernel)]; exact ⟨rfl, rfl⟩))
    (fun os started H enc _ => lifted os started H enc)

#print axioms proved
end Go.Proofs.Ytnmnecjelpglhaa.AllocOnce
