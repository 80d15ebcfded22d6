/- For any rows and any two scripts hoardlaw10.AllocBack returns true: a map that is loaded of another one's rows is that one. No condition on the input. -/
import Derived.Test.YtnmnecjelpglhaaAllocBackW
import Derived.Test.YtnmnecjelpglhaaAllocOpen
import Derived.Test.YtnmnecjelpglhaaLaw
namespace Go.Proofs.Ytnmnecjelpglhaa.AllocBack
open Go.RowKit Go.Proofs.Ytnmnecjelpglhaa.Alloc

theorem walk (x : Nat) (A1 : Option Addr) (c1 : Nat) (one : List Step) (A2 : Option Addr) (c2 : Nat) (two : List Step) (w : World) (hx : Hid (x < 65536)) (h1 : StepsAt w A1 one) (h2 : StepsAt w A2 two) :
    Calls Try.prog 6 #[.int .u16 (x : Int), .slice A1 one.length c1, .slice A2 two.length c2] w fun e w' => e = .returned (.bool true) ∧ Below w.heap.size w w' := back_calls x A1 A2 c1 c2 one two w h1 h2 hx

open Go.ChangeShapes Go.WideShapes Go.ChangeAt Go.Joins
open Go.ChangeMaps (open_string)

set_option maxRecDepth 100000 in
theorem lifted (os : Os) (started : os.Started) (H : Type) (enc : TypeId × Value → H) :
    ReturnsInHanded {} Try.checked os 6 .any (Rows.allocBackSpec.pre6 enc Try.prog Try.f6 Rows.allocBackRow.domain false) (Rows.allocBackSpec.post enc Try.prog Try.f6 false true false false) := by
  refine returnsInHanded_of_change (C := Try.checked) own started (by kernel_rfl) Try.func6
    (ChangeSpec.witness6 (enc := enc) (C := Try.checked) false ⟨#[], #[.int .u16 0, .slice none 0 0, .slice none 0 0], []⟩ 8 (by kernel_rfl) (by kernel_rfl) (by kernel_rfl) (by kernel_rfl)) ?_
  intro W base args ds gs before hval0 hW hcnd _
  have hval : ∀ (j : Nat) t v, Try.f6.params[j]? = some t → args[j]? = some v → Value.okWide Try.prog W .any base t v := hval0
  have hW' := hW
  obtain ⟨p, q, hA0, hV, rfl, _, _⟩ := hW'
  have hA : DataW.TrodAll enc Try.prog W 0 (fun _ => true) true Try.f6.params.toList args.toList ds p := hA0
  rw [Try.params6] at hA hval
  obtain ⟨v0, v1, v2, d0, d1, d2, p0, p1, p2, rfl, rfl, rfl, h0, h1, h2⟩ := trodAll_three hA
  obtain ⟨rfl, rfl⟩ := trodVars_none hV
  obtain ⟨a0, rfl, rfl, rfl, wf0⟩ := open_int Try.underlying49 (hval 0 49 v0 rfl rfl) h0
  obtain ⟨x0, rfl⟩ := Int.eq_ofNat_of_zero_le (bounds_u16 wf0).1
  obtain ⟨A1, c1, l1, rfl, m1⟩ := open_steps_arg (hval 1 23 v1 rfl rfl) h1
  obtain ⟨A2, c2, l2, rfl, m2⟩ := open_steps_arg (hval 2 23 v2 rfl rfl) h2
  refine (walk x0 A1 c1 l1 A2 c2 l2 W (Lib.hid (by have := (bounds_u16 wf0).2; omega)) m1 m2).mono fun e W' ⟨he, hb⟩ => ⟨_, he, ?_⟩
  exact law_post (tb := 4) hW hb laidOut (by kernel_rfl) (by kernel_rfl) Try.underlying4 rfl rfl

theorem proved : Rows.AllocBackSaid :=
  OpenClaim.holds_of_wide 6 Try.f6 rfl rfl rfl rfl rfl rfl rfl ⟨rfl, rfl, rfl, rfl, rfl⟩ rfl rfl rfl rfl rfl (by kernel_rfl) Try.func6 (by kernel_rfl)
    (of_decide_eq_true (by kernel_rfl)) (by unfold Func.isWrapper; first | (rw [if_pos (by decide +kernel)]; kernel_rfl) | (rw [if_neg (by decide +kernel)]; exact ⟨rfl, rfl⟩))
    (fun os started H enc _ => lifted os started H enc)

#print axioms proved
end Go.Proofs.Ytnmnecjelpglhaa.AllocBack
