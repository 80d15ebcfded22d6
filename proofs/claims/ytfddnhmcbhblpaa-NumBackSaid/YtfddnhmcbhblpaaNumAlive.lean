/- The walk of hoardlaw01.alive and of hoardlaw01.begins. -/
import Derived.Test.YtfddnhmcbhblpaaNumRead
namespace Go.Proofs.Ytfddnhmcbhblpaa.Num
open Go.RowKit

set_option maxHeartbeats 1600000 in
theorem alive_calls (w : World) : Calls Try.prog 22 #[] w fun e w' => e = .returned (.bool true) ∧ Below w.heap.size w w' := by
  have r1 : ∀ W, Calls Try.prog 23 #[.string ⟨#[2, 1, 0, 122]⟩] W fun e w' => e = .returned (.tuple #[.int .u64 256, .int .i64 3, .int .i64 0]) ∧ Below W.heap.size W w' := fun W => read_calls ⟨#[2, 1, 0, 122]⟩ W (by decide)
  have r2 : ∀ W, Calls Try.prog 23 #[.string ⟨#[9]⟩] W fun e w' => e = .returned (.tuple #[.int .u64 0, .int .i64 0, .int .i64 8]) ∧ Below W.heap.size W w' := fun W => read_calls ⟨#[9]⟩ W (by decide)
  have r3 : ∀ W, Calls Try.prog 23 #[.string ⟨#[1, 0]⟩] W fun e w' => e = .returned (.tuple #[.int .u64 0, .int .i64 0, .int .i64 8]) ∧ Below W.heap.size W w' := fun W => read_calls ⟨#[1, 0]⟩ W (by decide)
  have r4 : ∀ W, Calls Try.prog 23 #[.string ⟨#[1]⟩] W fun e w' => e = .returned (.tuple #[.int .u64 0, .int .i64 0, .int .i64 10]) ∧ Below W.heap.size W w' := fun W => read_calls ⟨#[1]⟩ W (by decide)
  have d1 : ∀ W, Calls Try.prog 25 #[.string ⟨#[253, 254, 255, 122]⟩] W fun e w' => e = .returned (.tuple #[.int .u64 256, .int .i64 3, .int .i64 0]) ∧ Below W.heap.size W w' := fun W => readDown_calls ⟨#[253, 254, 255, 122]⟩ W (by decide)
  have u1 : ∀ W, Calls Try.prog 17 #[.int .u64 0] W fun e w' => e = .returned (.string ⟨#[0]⟩) ∧ Below W.heap.size W w' := fun W => up_calls 0 W (by show 0 < 18446744073709551616; omega)
  have u2 : ∀ W, Calls Try.prog 17 #[.int .u64 256] W fun e w' => e = .returned (.string ⟨#[2, 1, 0]⟩) ∧ Below W.heap.size W w' := fun W => up_calls 256 W (by show 256 < 18446744073709551616; omega)
  have w1 : ∀ W, Calls Try.prog 19 #[.int .u64 255] W fun e w' => e = .returned (.string ⟨#[254, 0]⟩) ∧ Below W.heap.size W w' := fun W => down_calls 255 W (by show 255 < 18446744073709551616; omega)
  have s1 : ∀ W, Calls Try.prog 21 #[.int .u64 256] W fun e w' => e = .returned (.int .i64 3) ∧ Below W.heap.size W w' := fun W => size_calls 256 W (by show 256 < 18446744073709551616; omega)
  have R1 := Lib.hid r1; have R2 := Lib.hid r2; have R3 := Lib.hid r3; have R4 := Lib.hid r4; have D1 := Lib.hid d1; have U1 := Lib.hid u1; have U2 := Lib.hid u2; have W1 := Lib.hid w1; have S1 := Lib.hid s1
  clear r1 r2 r3 r4 d1 u1 u2 w1 s1
  go_enter Try.func22, Try.ntmps22
  go_wp2_with (first
    | (go_at_call 23; ((with_reducible refine (R1.out _).mono ?_); rintro e w1 ⟨rfl, hb⟩))
    | (go_at_call 23; ((with_reducible refine (R2.out _).mono ?_); rintro e w1 ⟨rfl, hb⟩))
    | (go_at_call 23; ((with_reducible refine (R3.out _).mono ?_); rintro e w1 ⟨rfl, hb⟩))
    | (go_at_call 23; ((with_reducible refine (R4.out _).mono ?_); rintro e w1 ⟨rfl, hb⟩))
    | (go_at_call 25; ((with_reducible refine (D1.out _).mono ?_); rintro e w1 ⟨rfl, hb⟩))
    | (go_at_call 17; ((with_reducible refine (U1.out _).mono ?_); rintro e w1 ⟨rfl, hb⟩))
    | (go_at_call 17; ((with_reducible refine (U2.out _).mono ?_); rintro e w1 ⟨rfl, hb⟩))
    | (go_at_call 19; ((with_reducible refine (W1.out _).mono ?_); rintro e w1 ⟨rfl, hb⟩))
    | (go_at_call 21; ((with_reducible refine (S1.out _).mono ?_); rintro e w1 ⟨rfl, hb⟩)))
  go_ret
  refine ⟨rfl, ?_⟩
  repeat (first | exact Below.refl _ _ | assumption | refine below_of ?_ (by assumption))

end Go.Proofs.Ytfddnhmcbhblpaa.Num
