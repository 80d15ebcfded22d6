/- For every list of numbers, every list of texts, either bool and any place hoardlaw03.WireBack returns true: what was written is read as itself, nothing is left, and what is cut off is short. No condition on the input. -/
import Derived.Test.YtaeiahkomdpcoaaWireBackW
namespace Go.Proofs.Ytaeiahkomdpcoaa.WireBack
open Go.RowKit Go.Proofs.Ytaeiahkomdpcoaa.Wire

theorem walk (A : Option Addr) (c : Nat) (u : List Nat) (B : Option Addr) (d : Nat) (t : List ByteArray) (b : Bool) (x : Nat) (w : World) (hA : ListAt w A (numsV u)) (hu : ∀ x ∈ u, x < 18446744073709551616) (hul : u.length ≤ 9223372036854775807) (hB : ListAt w B (textsV t)) (hts : ∀ s ∈ t, s.size ≤ maxLen) (htl : t.length ≤ 9223372036854775807) (hx : Hid (x < 65536)) :
    Calls Try.prog 4 #[.slice A u.length c, .slice B t.length d, .bool b, .int .u16 (x : Int)] w fun e w' => e = .returned (.bool true) ∧ Below w.heap.size w w' := back_calls A B c d u t b x w hA hu hB hul htl hts hx

open Go.ChangeShapes Go.WideShapes Go.ChangeAt Go.Joins
open Go.ChangeMaps (open_string)

set_option maxRecDepth 100000 in
theorem lifted (os : Os) (started : os.Started) (H : Type) (enc : TypeId × Value → H) :
    ReturnsInHanded {} Try.checked os 4 .any (Rows.wireBackSpec.pre6 enc Try.prog Try.f4 Rows.wireBackRow.domain false) (Rows.wireBackSpec.post enc Try.prog Try.f4 false true false false) := by
  refine returnsInHanded_of_change (C := Try.checked) own started (by kernel_rfl) Try.func4
    (ChangeSpec.witness6 (enc := enc) (C := Try.checked) false ⟨#[], #[.slice none 0 0, .slice none 0 0, .bool false, .int .u16 0], []⟩ 8 (by kernel_rfl) (by kernel_rfl) (by kernel_rfl) (by kernel_rfl)) ?_
  intro W base args ds gs before hval0 hW hcnd _
  have hval : ∀ (j : Nat) t v, Try.f4.params[j]? = some t → args[j]? = some v → Value.okWide Try.prog W .any base t v := hval0
  have hW' := hW
  obtain ⟨p, q, hA0, hV, rfl, _, _⟩ := hW'
  have hA : DataW.TrodAll enc Try.prog W 0 (fun _ => true) true Try.f4.params.toList args.toList ds p := hA0
  rw [Try.params4] at hA hval
  obtain ⟨v0, v1, v2, v3, d0, d1, d2, d3, p0, p1, p2, p3, rfl, rfl, rfl, h0, h1, h2, h3⟩ := trodAll_four hA
  obtain ⟨rfl, rfl⟩ := trodVars_none hV
  obtain ⟨A0, c0, l0, rfl, m0, ml0, mc0, mm0⟩ := open_nums_arg (hval 0 22 v0 rfl rfl) h0
  obtain ⟨A1, c1, l1, rfl, m1, ml1, mc1, mm1⟩ := open_texts_arg (hval 1 23 v1 rfl rfl) h1
  obtain ⟨a2, rfl, rfl, rfl⟩ := open_bool Try.underlying4 (hval 2 4 v2 rfl rfl) h2
  obtain ⟨a3, rfl, rfl, rfl, wf3⟩ := open_int Try.underlying32 (hval 3 32 v3 rfl rfl) h3
  obtain ⟨x3, rfl⟩ := Int.eq_ofNat_of_zero_le (bounds_u16 wf3).1
  refine (walk A0 c0 l0 A1 c1 l1 a2 x3 W m0 ml0 mm0 m1 ml1 mm1 (Lib.hid (by have := (bounds_u16 wf3).2; omega))).mono fun e W' ⟨he, hb⟩ => ⟨_, he, ?_⟩
  exact law_post (tb := 4) hW hb laidOut (by kernel_rfl) (by kernel_rfl) Try.underlying4 rfl rfl

theorem proved : Rows.WireBackSaid :=
  OpenClaim.holds_of_wide 4 Try.f4 rfl rfl rfl rfl rfl rfl rfl ⟨rfl, rfl, rfl, rfl, rfl⟩ rfl rfl rfl rfl rfl (by kernel_rfl) Try.func4 (by kernel_rfl)
    (of_decide_eq_true (by kernel_rfl)) (by unfold Func.isWrapper; first | (rw [if_pos (by decide +kernel)]; kernel_rfl) | (rw [if_neg (by decide +kernel)]; exact ⟨rfl, rfl⟩))
    (fun os started H enc _ => lifted os started H enc)

#print axioms proved
end Go.Proofs.Ytaeiahkomdpcoaa.WireBack
