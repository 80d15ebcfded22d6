/- The walks of wire.New, of the document's bricks, and of hoardlaw03.alive. -/
import Derived.Test.YtaeiahkomdpcoaaWireRd3
namespace Go.Proofs.Ytaeiahkomdpcoaa.Wire
open Go.RowKit Go.Proofs.Ytaeiahkomdpcoaa.Num

theorem below_of_grown {w a b : World} {o : Option Nat} (h : Below w.heap.size w a) (k : a.grownBy b o) (ho : ∀ r, o = some r → w.heap.size ≤ r) : Below w.heap.size w b :=
  ⟨k.os.trans h.os, k.tape.trans h.tape, k.output.trans h.output, Nat.le_trans h.size k.size, fun i hi => (k.block i (Nat.lt_of_lt_of_le hi h.size) (fun e => by have := ho i e.symm; omega)).trans (h.block i hi)⟩

set_option maxRecDepth 100000 in
theorem new_calls (l : Bs) (w : World) :
    Calls Try.prog 15 #[.string (bs l)] w fun e w' => e = .returned (.pointer (some ⟨w.heap.size, 0, none⟩)) ∧ RdAt w' w.heap.size (l, 0) ∧ Below w.heap.size w w' := by
  go_enter Try.func15, Try.ntmps15
  go_wp2
  go_ret
  exact ⟨rfl, (MapKept.heap_alloc w _).1, below_one _ _⟩

set_option maxRecDepth 100000 in
theorem refNum_calls (x : Nat) (w : World) (hx : Hid (x < 18446744073709551616)) :
    Calls Try.prog 9 #[.int .u64 (x : Int)] w fun e w' => e = .returned (.string (bs (up x))) ∧ Below w.heap.size w w' := by
  go_enter Try.func9, Try.ntmps9
  go_wp2_with fail
  refine (refUp_calls x _ hx).mono ?_
  rintro e w1 ⟨rfl, hb⟩
  go_wp2
  go_ret
  exact ⟨rfl, hb⟩
set_option maxRecDepth 100000 in
theorem refText_calls (s : ByteArray) (w : World) (hs : s.size ≤ 4096) :
    Calls Try.prog 10 #[.string s] w fun e w' => e = .returned (.string (bs (textW s.data.toList))) ∧ Below w.heap.size w w' := by
  have hx9 := up_length_le s.size
  have hu64 : IntKind.u64.wrap (s.size : Int) = (s.size : Int) := IntWalk.u64_in _ (by omega)
  have hsz : ¬ 9223372036854775807 < (bs (up s.size)).size + s.size := by rw [bs_size]; omega
  go_enter Try.func10, Try.ntmps10
  go_wp2_with fail
  refine (refNum_calls s.size _ (Lib.hid (by omega))).mono ?_
  rintro e w1 ⟨rfl, hb⟩
  go_wp2
  go_ret
  refine ⟨ret_str ?_, hb⟩
  rw [app_bs]
  unfold textW
  rw [size_list]
theorem refBool_calls (b : Bool) (w : World) : Calls Try.prog 14 #[.bool b] w fun e w' => e = .returned (.string (bs (boolW b))) ∧ Below w.heap.size w w' := by
  cases b
  · go_enter Try.func14, Try.ntmps14
    go_wp2
    go_ret
    exact ⟨rfl, Below.refl _ _⟩
  · go_enter Try.func14, Try.ntmps14
    go_wp2
    go_ret
    exact ⟨rfl, Below.refl _ _⟩

theorem listAt_two (w : World) (a b : Value) (t : TypeId) : ListAt (w.alloc (.cells #[a, b] t)) (some ⟨w.heap.size, 0, none⟩) [a, b] := fun _ => by
  refine ⟨_, rfl, by simp, fun i v hv => ?_⟩
  match i, hv with
  | 0, hv => simp at hv; subst hv; simp [Addr.add]
  | 1, hv => simp at hv; subst hv; simp [Addr.add]

set_option maxHeartbeats 3200000 in
set_option maxRecDepth 100000 in
theorem alive_calls (w : World) : Calls Try.prog 8 #[] w fun e w' => e = .returned (.bool true) ∧ Below w.heap.size w w' := by
  have M1 : Hid (∀ W A, ListAt W A (numsV [5, 300]) → Calls Try.prog 11 #[.slice A 2 2] W fun e w' => e = .returned (.string ⟨#[1, 5, 2, 1, 44]⟩) ∧ Below W.heap.size W w') := fun W A h => nums_calls A 2 [5, 300] W h (by decide) (by decide)
  have M2 : Hid (∀ W A, ListAt W A (textsV [⟨#[97]⟩, ⟨#[]⟩]) → Calls Try.prog 12 #[.slice A 2 2] W fun e w' => e = .returned (.string ⟨#[1, 1, 97, 0]⟩) ∧ Below W.heap.size W w') := fun W A h => texts_calls A 2 [⟨#[97]⟩, ⟨#[]⟩] W h (by decide) (by decide)
  have M3 : Hid (∀ W, Calls Try.prog 13 #[.bool true] W fun e w' => e = .returned (.string ⟨#[1]⟩) ∧ Below W.heap.size W w') := fun W => bool_calls true W
  have M4 : Hid (∀ W, Calls Try.prog 15 #[.string ⟨#[1, 5, 2, 1, 44, 1, 1, 97, 0, 1, 122]⟩] W fun e w' => e = .returned (.pointer (some ⟨W.heap.size, 0, none⟩)) ∧ RdAt w' W.heap.size ([1, 5, 2, 1, 44, 1, 1, 97, 0, 1, 122], 0) ∧ Below W.heap.size W w') := fun W => new_calls _ W
  have M5 : Hid (∀ W, Calls Try.prog 15 #[.string ⟨#[1, 5]⟩] W fun e w' => e = .returned (.pointer (some ⟨W.heap.size, 0, none⟩)) ∧ RdAt w' W.heap.size ([1, 5], 0) ∧ Below W.heap.size W w') := fun W => new_calls _ W
  have N1 : Hid (∀ W p, RdAt W p ([1, 5, 2, 1, 44, 1, 1, 97, 0, 1, 122], 0) → Calls Try.prog 16 #[.pointer (some ⟨p, 0, none⟩), .int .u64 5] W fun e w' => e = .returned (.int .u64 5) ∧ RdAt w' p ([2, 1, 44, 1, 1, 97, 0, 1, 122], 0) ∧ W.grownBy w' (some p)) := fun W p h => num_calls p 5 _ W h (by decide)
  have N2 : Hid (∀ W p, RdAt W p ([2, 1, 44, 1, 1, 97, 0, 1, 122], 0) → Calls Try.prog 16 #[.pointer (some ⟨p, 0, none⟩), .int .u64 300] W fun e w' => e = .returned (.int .u64 300) ∧ RdAt w' p ([1, 1, 97, 0, 1, 122].drop 0, 0) ∧ W.grownBy w' (some p)) := fun W p h => num_calls p 300 _ W h (by decide)
  have N3 : Hid (∀ W p, RdAt W p ([1, 1, 97, 0, 1, 122], 0) → Calls Try.prog 17 #[.pointer (some ⟨p, 0, none⟩), .int .i64 1] W fun e w' => e = .returned (.string ⟨#[97]⟩) ∧ RdAt w' p ([0, 1, 122], 0) ∧ W.grownBy w' (some p)) := fun W p h => text_calls p 1 _ W h (by decide) (by decide)
  have N4 : Hid (∀ W p, RdAt W p ([0, 1, 122], 0) → Calls Try.prog 17 #[.pointer (some ⟨p, 0, none⟩), .int .i64 0] W fun e w' => e = .returned (.string ⟨#[]⟩) ∧ RdAt w' p ([1, 122], 0) ∧ W.grownBy w' (some p)) := fun W p h => text_calls p 0 _ W h (by decide) (by decide)
  have N5 : Hid (∀ W p, RdAt W p ([1, 122], 0) → Calls Try.prog 18 #[.pointer (some ⟨p, 0, none⟩)] W fun e w' => e = .returned (.bool true) ∧ RdAt w' p ([122], 0) ∧ W.grownBy w' (some p)) := fun W p h => boolR_calls p _ W h (by decide)
  have N6 : Hid (∀ W p, RdAt W p ([122], 0) → Calls Try.prog 22 #[.pointer (some ⟨p, 0, none⟩)] W fun e w' => e = .returned (.string ⟨#[122]⟩) ∧ RdAt w' p ([], 0) ∧ W.grownBy w' (some p)) := fun W p h => rest_calls p _ W h (by decide)
  have N7 : Hid (∀ W p, RdAt W p ([], 0) → Calls Try.prog 19 #[.pointer (some ⟨p, 0, none⟩)] W fun e w' => e = .returned (.int .i64 0) ∧ RdAt w' p ([], 0) ∧ W.grownBy w' (some p)) := fun W p h => end_calls p _ W h
  have N8 : Hid (∀ W p, RdAt W p ([1, 5], 0) → Calls Try.prog 16 #[.pointer (some ⟨p, 0, none⟩), .int .u64 4] W fun e w' => e = .returned (.int .u64 0) ∧ RdAt w' p ([1, 5], 9) ∧ W.grownBy w' (some p)) := fun W p h => num_calls p 4 _ W h (by decide)
  have N9 : Hid (∀ W p, RdAt W p ([1, 5], 9) → Calls Try.prog 20 #[.pointer (some ⟨p, 0, none⟩)] W fun e w' => e = .returned (.int .i64 9) ∧ w' = W) := fun W p h => err_calls p _ W h
  have N0 : Hid (∀ W p, RdAt W p ([1, 5], 9) → Calls Try.prog 19 #[.pointer (some ⟨p, 0, none⟩)] W fun e w' => e = .returned (.int .i64 9) ∧ RdAt w' p ([1, 5], 9) ∧ W.grownBy w' (some p)) := fun W p h => end_calls p _ W h
  have e1 : (⟨#[1, 5, 2, 1, 44]⟩ : ByteArray) ++ ⟨#[1, 1, 97, 0]⟩ = ⟨#[1, 5, 2, 1, 44, 1, 1, 97, 0]⟩ := by decide
  have e2 : (⟨#[1, 5, 2, 1, 44, 1, 1, 97, 0]⟩ : ByteArray) ++ ⟨#[1]⟩ = ⟨#[1, 5, 2, 1, 44, 1, 1, 97, 0, 1]⟩ := by decide
  have e3 : (⟨#[1, 5, 2, 1, 44, 1, 1, 97, 0, 1]⟩ : ByteArray) ++ ⟨#[122]⟩ = ⟨#[1, 5, 2, 1, 44, 1, 1, 97, 0, 1, 122]⟩ := by decide
  go_enter Try.func8, Try.ntmps8
  go_wp2_with fail
  refine (M1.out _ _ (listAt_two _ _ _ _)).mono ?_
  rintro e w1 ⟨rfl, b1⟩
  go_wp2_with fail
  refine (M2.out _ _ (listAt_two _ _ _ _)).mono ?_
  rintro e w2 ⟨rfl, b2⟩
  go_wp2_with fail
  refine (M3.out _).mono ?_
  rintro e w3 ⟨rfl, b3⟩
  have b3' := below_of (below_of (below_of (below_one _ _) b1) (below_one _ _)) (below_of b2 b3)
  clear b1 b2 b3 M1 M2 M3
  go_wp2_with fail
  refine (M4.out _).mono ?_
  rintro e w4 ⟨rfl, h4, b4⟩
  have hp : w.heap.size ≤ w3.heap.size := b3'.size
  have hpp : ∀ r', some w3.heap.size = some r' → w.heap.size ≤ r' := fun r' e => by cases e; exact hp
  have b5 := below_of b3' b4
  clear b4 M4 b3' e1 e2 e3
  generalize w3.heap.size = p at *
  go_wp2_with fail
  refine (N1.out _ _ h4).mono ?_
  rintro e w5 ⟨rfl, h5, g5⟩
  have b6 := below_of_grown b5 g5 hpp
  clear b5 g5 h4 N1
  go_wp2_with fail
  refine (N2.out _ _ h5).mono ?_
  rintro e w6 ⟨rfl, h6, g6⟩
  have b7 := below_of_grown b6 g6 hpp
  clear b6 g6 h5 N2
  go_wp2_with fail
  refine (N3.out _ _ h6).mono ?_
  rintro e w7 ⟨rfl, h7, g7⟩
  have b8 := below_of_grown b7 g7 hpp
  clear b7 g7 h6 N3
  go_wp2_with fail
  refine (N4.out _ _ h7).mono ?_
  rintro e w8 ⟨rfl, h8, g8⟩
  have b9 := below_of_grown b8 g8 hpp
  clear b8 g8 h7 N4
  go_wp2_with fail
  refine (N5.out _ _ h8).mono ?_
  rintro e w9 ⟨rfl, h9, g9⟩
  have b10 := below_of_grown b9 g9 hpp
  clear b9 g9 h8 N5
  go_wp2_with fail
  refine (N6.out _ _ h9).mono ?_
  rintro e w10 ⟨rfl, h10, g10⟩
  have b11 := below_of_grown b10 g10 hpp
  clear b10 g10 h9 N6
  go_wp2_with fail
  refine (N7.out _ _ h10).mono ?_
  rintro e w11 ⟨rfl, h11, g11⟩
  have b12 := below_of_grown b11 g11 hpp
  clear b11 g11 h10 h11 N7
  go_wp2_with fail
  refine (M5.out _).mono ?_
  rintro e w12 ⟨rfl, h12, c12⟩
  have hq : ∀ r', some w11.heap.size = some r' → w.heap.size ≤ r' := fun r' e => by cases e; exact b12.size
  have b13 := below_of b12 c12
  clear b12 c12 M5
  generalize w11.heap.size = q at *
  go_wp2_with fail
  refine (N8.out _ _ h12).mono ?_
  rintro e w13 ⟨rfl, h13, g13⟩
  have b14 := below_of_grown b13 g13 hq
  clear b13 g13 h12 N8
  go_wp2_with fail
  refine (N9.out _ _ h13).mono ?_
  rintro e w14 ⟨rfl, rfl⟩
  go_wp2_with fail
  refine (N0.out _ _ h13).mono ?_
  rintro e w15 ⟨rfl, _, g15⟩
  have b15 := below_of_grown b14 g15 hq
  go_wp2
  go_ret
  exact ⟨rfl, b15⟩

end Go.Proofs.Ytaeiahkomdpcoaa.Wire
