/- For every list of numbers, every list of texts and either bool hoardlaw03.WireWrites returns true: the bytes of bricks are what the document says. No condition on the input. -/
import Derived.Test.YtaeiahkomdpcoaaWireWritesW
namespace Go.Proofs.Ytaeiahkomdpcoaa.WireWrites
open Go.RowKit Go.Proofs.Ytaeiahkomdpcoaa.Wire

theorem walk (A : Option Addr) (c : Nat) (u : List Nat) (B : Option Addr) (d : Nat) (t : List ByteArray) (b : Bool) (w : World) (hA : ListAt w A (numsV u)) (hu : ∀ x ∈ u, x < 18446744073709551616) (hul : u.length ≤ 9223372036854775807) (hB : ListAt w B (textsV t)) (hts : ∀ s ∈ t, s.size ≤ maxLen) (htl : t.length ≤ 9223372036854775807) :
    Calls Try.prog 3 #[.slice A u.length c, .slice B t.length d, .bool b] w fun e w' => e = .returned (.bool true) ∧ Below w.heap.size w w' := writes_calls A B c d u t b w hA hu hB hul htl hts

open Go.ChangeShapes Go.WideShapes Go.ChangeAt Go.Joins
open Go.ChangeMaps (open_string)

set_option maxRecDepth 100000 in
theorem lifted (os : Os) (started : os.Started) (H : Type) (enc : TypeId × Value → H) :
    ReturnsInHanded {} Try.checked os 3 .any (Rows.wireWritesSpec.pre6 enc Try.prog Try.f3 Rows.wireWritesRow.domain false) (Rows.wireWritesSpec.post enc Try.prog Try.f3 false true false false) := by
  refine returnsInHanded_of_change (C := Try.checked) own started (by kernel_rfl) Try.func3
    (ChangeSpec.witness6 (enc := enc) (C := Try.checked) false ⟨#[], #[.slice none 0 0, .slice none 0 0, .bool false], []⟩ 8 (by kernel_rfl) (by kernel_rfl) (by kernel_rfl) (by kernel_rfl)) ?_
  intro W base args ds gs before hval0 hW hcnd _
  have hval : ∀ (j : Nat) t v, Try.f3.params[j]? = some t → args[j]? = some v → Value.okWide Try.prog W .any base t v := hval0
  have hW' := hW
  obtain ⟨p, q, hA0, hV, rfl, _, _⟩ := hW'
  have hA : DataW.TrodAll enc Try.prog W 0 (fun _ => true) true Try.f3.params.toList args.toList ds p := hA0
  rw [Try.params3] at hA hval
  obtain ⟨v0, v1, v2, d0, d1, d2, p0, p1, p2, rfl, rfl, rfl, h0, h1, h2⟩ := trodAll_three hA
  obtain ⟨rfl, rfl⟩ := trodVars_none hV
  obtain ⟨A0, c0, l0, rfl, m0, ml0, mc0, mm0⟩ := open_nums_arg (hval 0 22 v0 rfl rfl) h0
  obtain ⟨A1, c1, l1, rfl, m1, ml1, mc1, mm1⟩ := open_texts_arg (hval 1 23 v1 rfl rfl) h1
  obtain ⟨a2, rfl, rfl, rfl⟩ := open_bool Try.underlying4 (hval 2 4 v2 rfl rfl) h2
  refine (walk A0 c0 l0 A1 c1 l1 a2 W m0 ml0 mm0 m1 ml1 mm1).mono fun e W' ⟨he, hb⟩ => ⟨_, he, ?_⟩
  exact law_post (tb := 4) hW hb laidOut (by kernel_rfl) (by kernel_rfl) Try.underlying4 rfl rfl

theorem proved : Rows.WireWritesSaid :=
  OpenClaim.holds_of_wide 3 Try.f3 rfl rfl rfl rfl rfl rfl rfl ⟨rfl, rfl, rfl, rfl, rfl⟩ rfl rfl rfl rfl rfl (by kernel_rfl) Try.func3 (by kernel_rfl)
    (of_decide_eq_true (by kernel_rfl)) (by unfold Func.isWrapper; first | (rw [if_pos (by decide +kernel)]; kernel_rfl) | (rw [if_neg (by decide +kernel)]; exact ⟨rfl, rfl⟩))
    (fun os started H enc _ => lifted os started H enc)

#print axioms proved
end Go.Proofs.Ytaeiahkomdpcoaa.WireWrites
