/- For any rows, any lists, any script hoardlaw10.AllocPlays returns true: what each call answers is the document's. No condition on the input. -/
import Derived.Test.YtnmnecjelpglhaaAllocPlaysW
import Derived.Test.YtnmnecjelpglhaaAllocOpen
import Derived.Test.YtnmnecjelpglhaaLaw
namespace Go.Proofs.Ytnmnecjelpglhaa.AllocPlays
open Go.RowKit Go.Proofs.Ytnmnecjelpglhaa.Alloc

theorem walk (n : Int) (A1 : Option Addr) (c1 : Nat) (U : List Int) (A2 : Option Addr) (c2 : Nat) (D : List Int) (A3 : Option Addr) (c3 : Nat) (ss : List Step) (w : World) (_ : (Lit.int .i64 n).wf = true) (hU : IntsAt w A1 U) (_ : U.length ≤ c1) (_ : U.length ≤ 9223372036854775807) (hD : IntsAt w A2 D) (_ : D.length ≤ c2) (_ : D.length ≤ 9223372036854775807) (hs : StepsAt w A3 ss) :
    Calls Try.prog 3 #[.int .i64 n, .slice A1 U.length c1, .slice A2 D.length c2, .slice A3 ss.length c3] w fun e w' => e = .returned (.bool true) ∧ Below w.heap.size w w' := plays_calls n A1 A2 A3 c1 c2 c3 U D ss w hU hD hs

open Go.ChangeShapes Go.WideShapes Go.ChangeAt Go.Joins
open Go.ChangeMaps (open_string)

set_option maxRecDepth 100000 in
theorem lifted (os : Os) (started : os.Started) (H : Type) (enc : TypeId × Value → H) :
    ReturnsInHanded {} Try.checked os 3 .any (Rows.allocPlaysSpec.pre6 enc Try.prog Try.f3 Rows.allocPlaysRow.domain false) (Rows.allocPlaysSpec.post enc Try.prog Try.f3 false true false false) := by
  refine returnsInHanded_of_change (C := Try.checked) own started (by kernel_rfl) Try.func3
    (ChangeSpec.witness6 (enc := enc) (C := Try.checked) false ⟨#[], #[.int .i64 0, .slice none 0 0, .slice none 0 0, .slice none 0 0], []⟩ 8 (by kernel_rfl) (by kernel_rfl) (by kernel_rfl) (by kernel_rfl)) ?_
  intro W base args ds gs before hval0 hW hcnd _
  have hval : ∀ (j : Nat) t v, Try.f3.params[j]? = some t → args[j]? = some v → Value.okWide Try.prog W .any base t v := hval0
  have hW' := hW
  obtain ⟨p, q, hA0, hV, rfl, _, _⟩ := hW'
  have hA : DataW.TrodAll enc Try.prog W 0 (fun _ => true) true Try.f3.params.toList args.toList ds p := hA0
  rw [Try.params3] at hA hval
  obtain ⟨v0, v1, v2, v3, d0, d1, d2, d3, p0, p1, p2, p3, rfl, rfl, rfl, h0, h1, h2, h3⟩ := trodAll_four hA
  obtain ⟨rfl, rfl⟩ := trodVars_none hV
  obtain ⟨a0, rfl, rfl, rfl, wf0⟩ := open_int Try.underlying3 (hval 0 3 v0 rfl rfl) h0
  obtain ⟨A1, c1, l1, rfl, m1, mc1, mm1⟩ := open_ints_arg (hval 1 22 v1 rfl rfl) h1
  obtain ⟨A2, c2, l2, rfl, m2, mc2, mm2⟩ := open_ints_arg (hval 2 22 v2 rfl rfl) h2
  obtain ⟨A3, c3, l3, rfl, m3⟩ := open_steps_arg (hval 3 23 v3 rfl rfl) h3
  refine (walk a0 A1 c1 l1 A2 c2 l2 A3 c3 l3 W wf0 m1 mc1 mm1 m2 mc2 mm2 m3).mono fun e W' ⟨he, hb⟩ => ⟨_, he, ?_⟩
  exact law_post (tb := 4) hW hb laidOut (by kernel_rfl) (by kernel_rfl) Try.underlying4 rfl rfl

theorem proved : Rows.AllocPlaysSaid :=
  OpenClaim.holds_of_wide 3 Try.f3 rfl rfl rfl rfl rfl rfl rfl ⟨rfl, rfl, rfl, rfl, rfl⟩ rfl rfl rfl rfl rfl (by kernel_rfl) Try.func3 (by kernel_rfl)
    (of_decide_eq_true (by kernel_rfl)) (by unfold Func.isWrapper; first | (rw [if_pos (by decide +kernel)]; kernel_rfl) | (rw [if_neg (by decide +kernel)]; exact ⟨rfl, rfl⟩))
    (fun os started H enc _ => lifted os started H enc)

#print axioms proved
end Go.Proofs.Ytnmnecjelpglhaa.AllocPlays
