/- The walk of hoardlaw13.works. -/
import Derived.Test.YtaeiahkomdpcoaaDoorNameJ
namespace Go.Proofs.YtaeiahkomdpcoaaDoor.Name
open Go.RowKit Go.Shelf

def keyW : Key := ⟨3, ⟨#[97]⟩, ⟨#[120]⟩, 2, 0⟩
set_option maxRecDepth 100000 in
theorem enc_w : encR keyW = .tuple #[.string ⟨#[3, 97, 0, 120, 0, 1, 255, 255, 255, 255, 255, 255, 255, 253]⟩, .int .i64 0] := by kernel_rfl
set_option maxRecDepth 100000 in
theorem enc_w2 : encR ⟨2, ⟨#[45, 97]⟩, ⟨#[]⟩, 0, 0⟩ = .tuple #[.string ⟨#[]⟩, .int .i64 2] := by kernel_rfl
set_option maxRecDepth 100000 in
theorem dec_w : decEnd ⟨3, bs [97], bs [120], top - val [255, 255, 255, 255, 255, 255, 255, 253], 0⟩ [3, 97, 0, 120, 0, 1, 255, 255, 255, 255, 255, 255, 255, 253] = .tuple #[keyW.val, .int .i64 0] := by kernel_rfl
set_option maxRecDepth 100000 in
theorem dec_w2 : decEnd ⟨3, bs [97], bs [120], top - val [255, 255, 255, 255, 255, 255, 255, 253], 0⟩ [3, 97, 0, 120, 0, 1, 255, 255, 255, 255, 255, 255, 255, 253, 120] = .tuple #[zeroK.val, .int .i64 8] := by kernel_rfl

set_option maxHeartbeats 3200000 in
set_option maxRecDepth 100000 in
theorem works_calls (w : World) (hv : Var0 w) : Calls Tryd.prog 10 #[] w fun e w' => e = .returned (.bool true) ∧ Below w.heap.size w w' := by
  have E1 : Hid (∀ W, Var0 W → Calls Tryd.prog 11 #[.agg #[.int .u8 3, .string ⟨#[97]⟩, .string ⟨#[120]⟩, .int .u64 2, .int .i64 0]] W fun e w' => e = .returned (.tuple #[.string ⟨#[3, 97, 0, 120, 0, 1, 255, 255, 255, 255, 255, 255, 255, 253]⟩, .int .i64 0]) ∧ Below W.heap.size W w') := fun W h => by
    have := encode_calls keyW W h ⟨by decide, by decide, by decide, by decide⟩
    rw [enc_w] at this
    exact this
  have E2 : Hid (∀ W, Var0 W → Calls Tryd.prog 11 #[.agg #[.int .u8 2, .string ⟨#[45, 97]⟩, .string ⟨#[]⟩, .int .u64 0, .int .i64 0]] W fun e w' => e = .returned (.tuple #[.string ⟨#[]⟩, .int .i64 2]) ∧ Below W.heap.size W w') := fun W h => by
    have := encode_calls ⟨2, ⟨#[45, 97]⟩, ⟨#[]⟩, 0, 0⟩ W h ⟨by decide, by decide, by decide, by decide⟩
    rw [enc_w2] at this
    exact this
  have D1 : Hid (∀ W, Var0 W → Calls Tryd.prog 14 #[.string ⟨#[3, 97, 0, 120, 0, 1, 255, 255, 255, 255, 255, 255, 255, 253]⟩] W fun e w' => e = .returned (.tuple #[.agg #[.int .u8 3, .string ⟨#[97]⟩, .string ⟨#[120]⟩, .int .u64 2, .int .i64 0], .int .i64 0]) ∧ Below W.heap.size W w') := fun W h => by
    have := decode3 ⟨#[3, 97, 0, 120, 0, 1, 255, 255, 255, 255, 255, 255, 255, 253]⟩ [97] [120, 0, 1, 255, 255, 255, 255, 255, 255, 255, 253] [120] [255, 255, 255, 255, 255, 255, 255, 253] W h (by decide) (by decide) rfl (by decide) (by decide) (by decide) (by decide) (by decide) (by decide) (by decide)
    rw [show ([255, 255, 255, 255, 255, 255, 255, 253] : Bs).take 8 = [255, 255, 255, 255, 255, 255, 255, 253] from rfl] at this
    rw [show (⟨#[3, 97, 0, 120, 0, 1, 255, 255, 255, 255, 255, 255, 255, 253]⟩ : ByteArray).data.toList = [3, 97, 0, 120, 0, 1, 255, 255, 255, 255, 255, 255, 255, 253] from rfl, dec_w] at this
    exact this
  have D2 : Hid (∀ W, Var0 W → Calls Tryd.prog 14 #[.string ⟨#[3, 97, 0, 120, 0, 1, 255, 255, 255, 255, 255, 255, 255, 253, 120]⟩] W fun e w' => e = .returned (.tuple #[.agg #[.int .u8 0, .string ⟨#[]⟩, .string ⟨#[]⟩, .int .u64 0, .int .i64 0], .int .i64 8]) ∧ Below W.heap.size W w') := fun W h => by
    have := decode3 ⟨#[3, 97, 0, 120, 0, 1, 255, 255, 255, 255, 255, 255, 255, 253, 120]⟩ [97] [120, 0, 1, 255, 255, 255, 255, 255, 255, 255, 253, 120] [120] [255, 255, 255, 255, 255, 255, 255, 253, 120] W h (by decide) (by decide) rfl (by decide) (by decide) (by decide) (by decide) (by decide) (by decide) (by decide)
    rw [show ([255, 255, 255, 255, 255, 255, 255, 253, 120] : Bs).take 8 = [255, 255, 255, 255, 255, 255, 255, 253] from rfl] at this
    rw [show (⟨#[3, 97, 0, 120, 0, 1, 255, 255, 255, 255, 255, 255, 255, 253, 120]⟩ : ByteArray).data.toList = [3, 97, 0, 120, 0, 1, 255, 255, 255, 255, 255, 255, 255, 253, 120] from rfl, dec_w2] at this
    exact this
  have B1 : Hid (∀ W, Calls Tryd.prog 13 #[.string ⟨#[97, 255]⟩] W fun e w' => e = .returned (.string ⟨#[98]⟩) ∧ Below W.heap.size W w') := fun W => behind_calls ⟨#[97, 255]⟩ W (by decide)
  have B2 : Hid (∀ W, Calls Tryd.prog 18 #[.string ⟨#[97, 46, 98, 45, 49]⟩] W fun e w' => e = .returned (.bool true) ∧ Below W.heap.size W w') := fun W => bucket_calls ⟨#[97, 46, 98, 45, 49]⟩ W (by decide)
  have B3 : Hid (∀ W, Calls Tryd.prog 20 #[.string ⟨#[]⟩] W fun e w' => e = .returned (.bool false) ∧ w' = W) := fun W => object_calls ⟨#[]⟩ W (by decide)
  have e1 : (⟨#[3, 97, 0, 120, 0, 1, 255, 255, 255, 255, 255, 255, 255, 253]⟩ : ByteArray) ++ ⟨#[120]⟩ = ⟨#[3, 97, 0, 120, 0, 1, 255, 255, 255, 255, 255, 255, 255, 253, 120]⟩ := by decide
  go_enter Tryd.func10, Tryd.ntmps10
  go_wp2_with fail
  refine (E1.out _ hv).mono ?_
  rintro e w1 ⟨rfl, b1⟩
  have v1 := hv.below b1
  go_wp2_with fail
  refine (D1.out _ v1).mono ?_
  rintro e w2 ⟨rfl, b2⟩
  have v2 := v1.below b2
  have c2 := below_of b1 b2
  have v2' := v2.below (below_one w2 (.cells keyW.cells 24))
  have hK : KeyAt (w2.alloc (.cells keyW.cells 24)) w2.heap.size keyW := (MapKept.heap_alloc w2 _).1
  go_wp2_with fail
  refine (D2.out _ v2').mono ?_
  rintro e w3 ⟨rfl, b3⟩
  have v3 := v2'.below b3
  have hK3 := hK.below b3
  have c3 := below_of (below_alloc c2 _) b3
  have v3' := v3.below (below_one w3 (.cells zeroK.cells 24))
  have hK4 := hK3.below (below_one w3 (.cells zeroK.cells 24))
  go_wp2_with fail
  refine (E2.out _ v3').mono ?_
  rintro e w4 ⟨rfl, b4⟩
  have hK5 := hK4.below b4
  have p2 : w4.cell? ⟨w2.heap.size, 2, none⟩ = some (.string ⟨#[120]⟩) := hK5.c.2.2.1
  have p3 : w4.cell? ⟨w2.heap.size, 3, none⟩ = some (.int .u64 2) := hK5.c.2.2.2.1
  have c4 := below_of (below_alloc c3 _) b4
  go_wp2_with fail
  refine (B1.out _).mono ?_
  rintro e w5 ⟨rfl, b5⟩
  go_wp2_with fail
  refine (B2.out _).mono ?_
  rintro e w6 ⟨rfl, b6⟩
  go_wp2_with fail
  refine (B3.out _).mono ?_
  rintro e w7 ⟨rfl, rfl⟩
  go_wp2
  go_ret
  exact ⟨rfl, below_of (below_of c4 b5) b6⟩

end Go.Proofs.YtaeiahkomdpcoaaDoor.Name
