/- What Decode answers of cells' bytes, cut off or with something behind; the walk of hoardlaw14.works. -/
import Derived.Test.YtaeiahkomdpcoaaCellS
namespace Go.Proofs.Ytaeiahkomdpcoaa.Cell
open Go.RowKit Go.Proofs.Ytaeiahkomdpcoaa.Num Go.Proofs.Ytaeiahkomdpcoaa.Wire

theorem dec_back {c : Cel} (h : mayC c) : decOk (cellW c) ∧ (cellR (cellW c)).1 = c := by
  have h1 := cellR_back c [] h
  rw [List.append_nil] at h1
  unfold decOk
  rw [h1]
  exact ⟨⟨rfl, h, rfl⟩, rfl⟩
theorem dec_more {c : Cel} (h : mayC c) (t : Bs) (ht : t ≠ []) : ¬ decOk (cellW c ++ t) := fun ⟨_, h2, h3⟩ => ht (cell_apart h h2 t h3)
theorem dec_cut {c : Cel} (h : mayC c) (i : Nat) (hi : i < (cellW c).length) : ¬ decOk ((cellW c).take i) := fun ⟨_, h2, h3⟩ => by
  have h4 := cell_apart h2 h ((cellW c).drop i) (by rw [h3, List.take_append_drop])
  have := congrArg List.length h4
  rw [List.length_drop, List.length_nil] at this
  omega

def c1W : Cel := ⟨1, 5, false, ⟨#[]⟩, Body.zero⟩
def c2W : Cel := ⟨3, 0, false, ⟨#[]⟩, ⟨2, ⟨#[97, 98]⟩, []⟩⟩
def c3W : Cel := ⟨3, 0, false, ⟨#[]⟩, ⟨3, ⟨#[97, 98]⟩, []⟩⟩
set_option maxRecDepth 100000 in
theorem enc1 : encV c1W = .tuple #[.string ⟨#[1, 1, 1, 5]⟩, .int .i64 0] := by kernel_rfl
set_option maxRecDepth 100000 in
theorem enc2 : encV c2W = .tuple #[.string ⟨#[1, 3, 0, 1, 2, 0, 1, 2, 97, 98]⟩, .int .i64 0] := by kernel_rfl
set_option maxRecDepth 100000 in
theorem enc3 : encV c3W = .tuple #[.string ⟨#[]⟩, .int .i64 2] := by kernel_rfl
set_option maxRecDepth 100000 in
theorem may2 : mayCB c2W = true := by kernel_rfl
set_option maxRecDepth 100000 in
theorem bytes2 : cellW c2W = [1, 3, 0, 1, 2, 0, 1, 2, 97, 98] := by kernel_rfl

theorem pcs_lit (W : World) : PcsAt (W.alloc (.cells #[.int .i64 7, .int .u64 0, .int .i64 1, .int .i64 2, .int .u64 0, .int .i64 2] 75)) (some ⟨W.heap.size, 0, none⟩) psW := fun i p hp => by
  have hb := (MapKept.heap_alloc W (.cells #[.int .i64 7, .int .u64 0, .int .i64 1, .int .i64 2, .int .u64 0, .int .i64 2] 75)).1
  have e : ∀ n, (⟨W.heap.size, 0, none⟩ : Addr).add n = ⟨W.heap.size, n, none⟩ := fun n => by unfold Addr.add; split <;> simp_all
  refine ⟨_, rfl, by simp, ?_, ?_, ?_⟩
  all_goals
    rw [e, Joins.cell_of_block hb]
    match i, hp with
    | 0, hp => cases hp; rfl
    | 1, hp => cases hp; rfl
    | i + 2, hp => simp [psW] at hp

set_option maxHeartbeats 3200000 in
set_option maxRecDepth 100000 in
theorem works_calls (w : World) : Calls Try.prog 24 #[] w fun e w' => e = .returned (.bool true) ∧ Below w.heap.size w w' := by
  have E1 : Hid (∀ W, Calls Try.prog 25 #[.agg #[.int .u8 1, .int .u64 5, .bool false, .string ⟨#[]⟩, .int .i64 0, .string ⟨#[]⟩, .slice none 0 0]] W fun e w' => e = .returned (.tuple #[.string ⟨#[1, 1, 1, 5]⟩, .int .i64 0]) ∧ Below W.heap.size W w') := fun W => by
    have := encode_calls c1W none 0 W (PcsAt.nil _ _) (by decide) (by decide)
    rw [enc1] at this
    exact this
  have E2 : Hid (∀ W, Calls Try.prog 25 #[.agg #[.int .u8 3, .int .u64 0, .bool false, .string ⟨#[]⟩, .int .i64 2, .string ⟨#[97, 98]⟩, .slice none 0 0]] W fun e w' => e = .returned (.tuple #[.string ⟨#[1, 3, 0, 1, 2, 0, 1, 2, 97, 98]⟩, .int .i64 0]) ∧ Below W.heap.size W w') := fun W => by
    have := encode_calls c2W none 0 W (PcsAt.nil _ _) (by decide) (by decide)
    rw [enc2] at this
    exact this
  have E3 : Hid (∀ W, Calls Try.prog 25 #[.agg #[.int .u8 3, .int .u64 0, .bool false, .string ⟨#[]⟩, .int .i64 3, .string ⟨#[97, 98]⟩, .slice none 0 0]] W fun e w' => e = .returned (.tuple #[.string ⟨#[]⟩, .int .i64 2]) ∧ Below W.heap.size W w') := fun W => by
    have := encode_calls c3W none 0 W (PcsAt.nil _ _) (by decide) (by decide)
    rw [enc3] at this
    exact this
  have hm2 := (mayCB_iff _).1 may2
  have D1 : Hid (∀ W, Calls Try.prog 27 #[.string ⟨#[1, 3, 0, 1, 2, 0, 1, 2, 97, 98]⟩] W fun e w' => ∃ (A : Option Addr) (cp : Nat), e = .returned (.tuple #[.agg #[.int .u8 3, .int .u64 0, .bool false, .string ⟨#[]⟩, .int .i64 2, .string ⟨#[97, 98]⟩, .slice A 0 cp], .int .i64 0]) ∧ Below W.heap.size W w') := fun W => by
    refine (decode_calls ⟨#[1, 3, 0, 1, 2, 0, 1, 2, 97, 98]⟩ W (by decide)).mono ?_
    rintro e w' ⟨c, A, cp, E, rfl, _, hc, hb⟩
    obtain ⟨h1, h2⟩ := dec_back hm2
    rw [bytes2] at h1 h2
    rcases hc with ⟨_, rfl, rfl⟩ | ⟨hno, _⟩
    · refine ⟨A, cp, ?_, hb⟩
      rw [show (⟨#[1, 3, 0, 1, 2, 0, 1, 2, 97, 98]⟩ : ByteArray).data.toList = [1, 3, 0, 1, 2, 0, 1, 2, 97, 98] from rfl, h2]
      rfl
    · exact absurd h1 hno
  have D2 : Hid (∀ W, Calls Try.prog 27 #[.string ⟨#[1, 3, 0, 1, 2, 0, 1, 2, 97, 98, 120]⟩] W fun e w' => ∃ (A : Option Addr) (cp : Nat), e = .returned (.tuple #[.agg #[.int .u8 0, .int .u64 0, .bool false, .string ⟨#[]⟩, .int .i64 0, .string ⟨#[]⟩, .slice A 0 cp], .int .i64 8]) ∧ Below W.heap.size W w') := fun W => by
    refine (decode_calls ⟨#[1, 3, 0, 1, 2, 0, 1, 2, 97, 98, 120]⟩ W (by decide)).mono ?_
    rintro e w' ⟨c, A, cp, E, rfl, _, hc, hb⟩
    have hno := dec_more hm2 [120] (by decide)
    rw [bytes2] at hno
    rcases hc with ⟨h, _⟩ | ⟨_, rfl, rfl⟩
    · exact absurd h hno
    · exact ⟨A, cp, rfl, hb⟩
  have e1 : (⟨#[1, 3, 0, 1, 2, 0, 1, 2, 97, 98]⟩ : ByteArray) ++ ⟨#[120]⟩ = ⟨#[1, 3, 0, 1, 2, 0, 1, 2, 97, 98, 120]⟩ := by decide
  clear hm2
  go_enter Try.func24, Try.ntmps24
  go_wp2_with fail
  refine (E1.out _).mono ?_
  rintro e w1 ⟨rfl, b1⟩
  go_wp2_with fail
  refine (E2.out _).mono ?_
  rintro e w2 ⟨rfl, b2⟩
  have c2 := below_of b1 b2
  go_wp2_with fail
  refine (D1.out _).mono ?_
  rintro e w3 ⟨A, cp, rfl, b3⟩
  have hK := row_new w3 #[.int .u8 3, .int .u64 0, .bool false, .string ⟨#[]⟩, .int .i64 2, .string ⟨#[97, 98]⟩, .slice A 0 cp]
  have c3 := below_alloc (below_of c2 b3) (.cells #[.int .u8 3, .int .u64 0, .bool false, .string ⟨#[]⟩, .int .i64 2, .string ⟨#[97, 98]⟩, .slice A 0 cp] 50)
  go_wp2_with fail
  refine (D2.out _).mono ?_
  rintro e w4 ⟨A2, cp2, rfl, b4⟩
  have hK4 := (hK.below b4).below (below_one w4 (.cells #[.int .u8 0, .int .u64 0, .bool false, .string ⟨#[]⟩, .int .i64 0, .string ⟨#[]⟩, .slice A2 0 cp2] 50))
  have c4 := below_alloc (below_of c3 b4) (.cells #[.int .u8 0, .int .u64 0, .bool false, .string ⟨#[]⟩, .int .i64 0, .string ⟨#[]⟩, .slice A2 0 cp2] 50)
  go_wp2_with fail
  refine (E3.out _).mono ?_
  rintro e w5 ⟨rfl, b5⟩
  have hK5 := hK4.below b5
  have c5 := below_of c4 b5
  have hR := rows_calls (some ⟨w5.heap.size, 0, none⟩) 2 (w5.alloc (.cells #[.int .i64 7, .int .u64 0, .int .i64 1, .int .i64 2, .int .u64 0, .int .i64 2] 75)) (pcs_lit w5)
  have HR : Hid (Calls Try.prog 42 #[.agg #[.int .u8 5, .int .u64 0, .bool false, .string ⟨#[]⟩, .int .i64 3, .string ⟨#[]⟩, .slice (some ⟨w5.heap.size, 0, none⟩) 2 2]] (w5.alloc (.cells #[.int .i64 7, .int .u64 0, .int .i64 1, .int .i64 2, .int .u64 0, .int .i64 2] 75)) fun e w' => ∃ g cap, e = .returned (.slice (some ⟨g, 0, none⟩) 2 cap) ∧ w'.cell? ⟨g, 0, none⟩ = some (.int .i64 2) ∧ w'.cell? ⟨g, 1, none⟩ = some (.int .i64 7) ∧ Below (w5.alloc (.cells #[.int .i64 7, .int .u64 0, .int .i64 1, .int .i64 2, .int .u64 0, .int .i64 2] 75)).heap.size (w5.alloc (.cells #[.int .i64 7, .int .u64 0, .int .i64 1, .int .i64 2, .int .u64 0, .int .i64 2] 75)) w') := hR
  have c6 := below_alloc c5 (.cells #[.int .i64 7, .int .u64 0, .int .i64 1, .int .i64 2, .int .u64 0, .int .i64 2] 75)
  have hK6 := hK5.below (below_one w5 (.cells #[.int .i64 7, .int .u64 0, .int .i64 1, .int .i64 2, .int .u64 0, .int .i64 2] 75))
  clear hR hK hK4 hK5 c2 c3 c4 c5 b1 b2 b3 b4 b5
  go_wp2_with fail
  refine HR.out.mono ?_
  rintro e w6 ⟨g, cap, rfl, r0, r1, b6⟩
  have hK7 := hK6.below b6
  have c7 := below_of c6 b6
  obtain ⟨q0, q1, q2, q3, q4, q5, q6⟩ := hK7.c
  clear hK6 c6 b6
  go_wp2_with fail
  go_ret
  exact ⟨rfl, c7⟩

end Go.Proofs.Ytaeiahkomdpcoaa.Cell
