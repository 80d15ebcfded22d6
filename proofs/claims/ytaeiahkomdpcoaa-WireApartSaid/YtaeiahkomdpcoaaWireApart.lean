/- For any two lists of texts and any two lists of numbers hoardlaw03.WireApart returns true: lists that are not the same have bytes that are not. No condition on the input. -/
import Derived.Test.YtaeiahkomdpcoaaWireApartW
namespace Go.Proofs.Ytaeiahkomdpcoaa.WireApart
open Go.RowKit Go.Proofs.Ytaeiahkomdpcoaa.Wire

theorem walk (A : Option Addr) (c : Nat) (a : List ByteArray) (B : Option Addr) (d : Nat) (b : List ByteArray) (C : Option Addr) (e : Nat) (u : List Nat) (D : Option Addr) (f : Nat) (v : List Nat) (w : World)
    (hA : ListAt w A (textsV a)) (has : ∀ s ∈ a, s.size ≤ maxLen) (hal : a.length ≤ 9223372036854775807) (hB : ListAt w B (textsV b)) (hbs : ∀ s ∈ b, s.size ≤ maxLen) (hbl : b.length ≤ 9223372036854775807)
    (hC : ListAt w C (numsV u)) (hu : ∀ x ∈ u, x < 18446744073709551616) (hul : u.length ≤ 9223372036854775807) (hD : ListAt w D (numsV v)) (hv : ∀ x ∈ v, x < 18446744073709551616) (hvl : v.length ≤ 9223372036854775807) :
    Calls Try.prog 5 #[.slice A a.length c, .slice B b.length d, .slice C u.length e, .slice D v.length f] w fun e w' => e = .returned (.bool true) ∧ Below w.heap.size w w' := apart_calls A B C D c d e f a b u v w hA hB hC hD hu hv hal hbl hul hvl has hbs

open Go.ChangeShapes Go.WideShapes Go.ChangeAt Go.Joins
open Go.ChangeMaps (open_string)

set_option maxRecDepth 100000 in
theorem lifted (os : Os) (started : os.Started) (H : Type) (enc : TypeId × Value → H) :
    ReturnsInHanded {} Try.checked os 5 .any (Rows.wireApartSpec.pre6 enc Try.prog Try.f5 Rows.wireApartRow.domain false) (Rows.wireApartSpec.post enc Try.prog Try.f5 false true false false) := by
  refine returnsInHanded_of_change (C := Try.checked) own started (by kernel_rfl) Try.func5
    (ChangeSpec.witness6 (enc := enc) (C := Try.checked) false ⟨#[], #[.slice none 0 0, .slice none 0 0, .slice none 0 0, .slice none 0 0], []⟩ 8 (by kernel_rfl) (by kernel_rfl) (by kernel_rfl) (by kernel_rfl)) ?_
  intro W base args ds gs before hval0 hW hcnd _
  have hval : ∀ (j : Nat) t v, Try.f5.params[j]? = some t → args[j]? = some v → Value.okWide Try.prog W .any base t v := hval0
  have hW' := hW
  obtain ⟨p, q, hA0, hV, rfl, _, _⟩ := hW'
  have hA : DataW.TrodAll enc Try.prog W 0 (fun _ => true) true Try.f5.params.toList args.toList ds p := hA0
  rw [Try.params5] at hA hval
  obtain ⟨v0, v1, v2, v3, d0, d1, d2, d3, p0, p1, p2, p3, rfl, rfl, rfl, h0, h1, h2, h3⟩ := trodAll_four hA
  obtain ⟨rfl, rfl⟩ := trodVars_none hV
  obtain ⟨A0, c0, l0, rfl, m0, ml0, mc0, mm0⟩ := open_texts_arg (hval 0 23 v0 rfl rfl) h0
  obtain ⟨A1, c1, l1, rfl, m1, ml1, mc1, mm1⟩ := open_texts_arg (hval 1 23 v1 rfl rfl) h1
  obtain ⟨A2, c2, l2, rfl, m2, ml2, mc2, mm2⟩ := open_nums_arg (hval 2 22 v2 rfl rfl) h2
  obtain ⟨A3, c3, l3, rfl, m3, ml3, mc3, mm3⟩ := open_nums_arg (hval 3 22 v3 rfl rfl) h3
  refine (walk A0 c0 l0 A1 c1 l1 A2 c2 l2 A3 c3 l3 W m0 ml0 mm0 m1 ml1 mm1 m2 ml2 mm2 m3 ml3 mm3).mono fun e W' ⟨he, hb⟩ => ⟨_, he, ?_⟩
  exact law_post (tb := 4) hW hb laidOut (by kernel_rfl) (by kernel_rfl) Try.underlying4 rfl rfl

theorem proved : Rows.WireApartSaid :=
  OpenClaim.holds_of_wide 5 Try.f5 rfl rfl rfl rfl rfl rfl rfl ⟨rfl, rfl, rfl, rfl, rfl⟩ rfl rfl rfl rfl rfl (by kernel_rfl) Try.func5 (by kernel_rfl)
    (of_decide_eq_true (by kernel_rfl)) (by unfold Func.isWrapper; first | (rw [if_pos (by decide +kernel)]; kernel_rfl) | (rw [if_neg (by decide +kernel)]; exact ⟨rfl, rfl⟩))
    (fun os started H enc _ => lifted os started H enc)

#print axioms proved
end Go.Proofs.Ytaeiahkomdpcoaa.WireApart
