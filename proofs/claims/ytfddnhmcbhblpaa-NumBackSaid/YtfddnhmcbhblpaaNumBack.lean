/- For every number and any bytes behind hoardlaw01.NumBack returns true: what was written is read as itself, what is cut off is short, bytes that are read are the number's own. No condition on the input. -/
import Derived.Test.YtfddnhmcbhblpaaNumAlive
import Derived.Test.YtfddnhmcbhblpaaLaw
namespace Go.Proofs.Ytfddnhmcbhblpaa.NumBack
open Go.RowKit Go.Sort Go.Proofs.Ytfddnhmcbhblpaa.Num

theorem app_data (l : List UInt8) (s : ByteArray) : (bs l ++ s).data.toList = l ++ s.data.toList := by simp [bs]
theorem app_size (l : List UInt8) (s : ByteArray) : (bs l ++ s).size = l.length + s.size := by rw [← size_list, app_data, List.length_append, size_list]

/-- What Read and ReadDown answer here. -/
theorem read_own (x : Nat) (s : ByteArray) (hx : Hid (x < 18446744073709551616)) (hs : s.size ≤ 4096) (W : World) :
    Calls Try.prog 23 #[.string (bs (up x) ++ s)] W fun e w' => e = .returned (.tuple #[.int .u64 (x : Int), .int .i64 ((up x).length : Int), .int .i64 0]) ∧ Below W.heap.size W w' := by
  have h := read_calls (bs (up x) ++ s) W (by have := up_length_le x; rw [app_size]; unfold maxLen; omega)
  rw [app_data, read_up x _ hx.out] at h
  exact h
theorem readDown_own (x : Nat) (s : ByteArray) (hx : Hid (x < 18446744073709551616)) (hs : s.size ≤ 4096) (W : World) :
    Calls Try.prog 25 #[.string (bs (down x) ++ s)] W fun e w' => e = .returned (.tuple #[.int .u64 (x : Int), .int .i64 ((up x).length : Int), .int .i64 0]) ∧ Below W.heap.size W w' := by
  have hl : (down x).length = (up x).length := turn_length _
  have h := readDown_calls (bs (down x) ++ s) W (by have := up_length_le x; rw [app_size, hl]; unfold maxLen; omega)
  rw [app_data, readDown_down x _ hx.out, hl] at h
  exact h
theorem read_short (x i : Nat) (hi : i < (up x).length) (W : World) :
    Calls Try.prog 23 #[.string ((bs (up x)).extract 0 i)] W fun e w' => e = .returned (.tuple #[.int .u64 0, .int .i64 0, .int .i64 10]) ∧ Below W.heap.size W w' := by
  have e : ((bs (up x)).extract 0 i).data.toList = (up x).take i := by rw [Lib.extract_data]; rfl
  have h := read_calls ((bs (up x)).extract 0 i) W (by have := up_length_le x; rw [← size_list, e, List.length_take]; unfold maxLen; omega)
  rw [e, read_cut x i hi] at h
  exact h

theorem neq_false (l : List UInt8) (s : ByteArray) (k : Nat) (h : l = s.data.toList.take k) : ((bs l).toList == (s.extract 0 k).toList) = true := by
  rw [Lib.extract_toList, ByteArray.toList_eq, h]
  simp [bs]

set_option maxHeartbeats 3200000 in
set_option maxRecDepth 100000 in
theorem walk_main (x : Nat) (s : ByteArray) (w : World) (hx : Hid (x < 18446744073709551616)) (hs : (s.size : Int) ≤ 4096) (v k g v' k' g' : Nat) (G G' : Int)
    (hr : read s.data.toList = (v, k, g)) (hr' : readDown s.data.toList = (v', k', g')) (hG : (g : Int) = G) (hG' : (g' : Int) = G') (hg : G = 0 ∨ 0 < G) (hg' : G' = 0 ∨ 0 < G') :
    Calls Try.prog 9 #[.int .u64 (x : Int), .string s] w fun e w' => e = .returned (.bool true) ∧ Below w.heap.size w w' := by
  have hs' : s.size ≤ 4096 := by omega
  have x9 := up_length_le x
  have lx := bs_size (up x)
  have dx : (bs (down x)).size = (up x).length := (bs_size _).trans (turn_length _)
  have c1 := Lib.hid (read_own x s hx hs')
  have c2 := Lib.hid (readDown_own x s hx hs')
  have c3 := Lib.hid (read_short x)
  have c4 : Hid (∀ W, Calls Try.prog 23 #[.string s] W fun e w' => e = .returned (.tuple #[.int .u64 (v : Int), .int .i64 (k : Int), .int .i64 G]) ∧ Below W.heap.size W w') := fun W => by
    have h := read_calls s W (by unfold maxLen; omega)
    rw [hr] at h
    rw [← hG]
    exact h
  have c5 : Hid (∀ W, Calls Try.prog 25 #[.string s] W fun e w' => e = .returned (.tuple #[.int .u64 (v' : Int), .int .i64 (k' : Int), .int .i64 G']) ∧ Below W.heap.size W w') := fun W => by
    have h := readDown_calls s W (by unfold maxLen; omega)
    rw [hr'] at h
    rw [← hG']
    exact h
  have b1 := read_bounds s.data.toList
  have b2 := readDown_bounds s.data.toList
  rw [hr, size_list] at b1
  rw [hr', size_list] at b2
  have hv : Hid (v < 18446744073709551616) := b1.1
  have hv' : Hid (v' < 18446744073709551616) := b2.1
  have hk : k ≤ s.size := b1.2.1
  have hk' : k' ≤ s.size := b2.2.1
  clear b1 b2
  have q1 : Hid (G = 0 → ((bs (up v)).toList == (s.extract 0 k).toList) = true) := fun h0 => by
    obtain rfl : g = 0 := by omega
    exact neq_false _ _ _ (read_ok hr).2.2
  have q2 : Hid (G' = 0 → ((bs (down v')).toList == (s.extract 0 k').toList) = true) := fun h0 => by
    obtain rfl : g' = 0 := by omega
    exact neq_false _ _ _ (readDown_ok hr').2.2
  clear hr hr' hG hG'
  have hds : decide ((4096 : Int) < (s.size : Int)) = false := by simp; omega
  go_enter Try.func9, Try.ntmps9
  go_wp2_with (first
    | (go_at_call 17; refine (up_calls x _ hx).mono ?_; rintro e w1 ⟨rfl, hb1⟩)
    | (go_at_call 19; refine (down_calls x _ hx).mono ?_; rintro e w2 ⟨rfl, hb2⟩)
    | (go_at_call 23; refine (c1.out _).mono ?_; rintro e w3 ⟨rfl, hb3⟩)
    | (go_at_call 25; refine (c2.out _).mono ?_; rintro e w4 ⟨rfl, hb4⟩))
  go_loopw [13] (fun iv wr => ∃ i : Nat, i ≤ (up x).length ∧ iv = .int .i64 i ∧ Below w.heap.size w wr) (fun iv _ => (up x).length - (intOf iv).toNat)
  case atStart => exact ⟨0, by omega, rfl, below_of (below_of (below_of hb1 hb2) hb3) hb4⟩
  case round =>
    obtain ⟨i, hi, rfl, hbr⟩ := hrel
    clear hb1 hb2 hb3 hb4 c1 c2
    by_cases hlt : i < (up x).length
    · go_wp2_with (go_at_call 23; refine (c3.out i hlt _).mono ?_; rintro e w5 ⟨rfl, hb5⟩)
      go_roundw
      case rel => exact ⟨i + 1, by omega, by go_num, below_of hbr hb5⟩
      case measure => simp [intOf]; omega
    · obtain rfl : i = (up x).length := by omega
      clear c3
      go_wp2_with (go_at_call 23; refine (c4.out _).mono ?_; rintro e w5 ⟨rfl, hb5⟩)
      rcases hg with rfl | hg
      · have p1 := q1.out rfl
        have n1 : decide ((k : Int) < 0) = false := by rw [decide_eq_false_iff_not]; omega
        have n2 : decide (s.size < k) = false := by rw [decide_eq_false_iff_not]; omega
        have p1' : ((bs (up v)).toList != (s.extract 0 k).toList) = false := by rw [bne, p1]; rfl
        refine wp_region_quiet_below (by kernel_rfl) (by kernel_rfl) ?_
        repeat (go_big_quiet_step ((go_at_call 17; exact Calls.regrown_of (up_calls v _ hv))))
        refine wpQuiet_nil ?_
        intro _ hw'
        obtain ⟨⟨dq, osq⟩, hw''⟩ := hw'
        subst hw''
        have hb6 := below_of (below_of hbr hb5) (below_regrown _ dq osq)
        generalize grow (redrawn w5 dq) osq = w6 at *
        clear p1 p1' n1 n2
        rcases hg' with rfl | hg'
        · have p1 := q2.out rfl
          have n1 : decide ((k' : Int) < 0) = false := by rw [decide_eq_false_iff_not]; omega
          have n2 : decide (s.size < k') = false := by rw [decide_eq_false_iff_not]; omega
          have p1' : ((bs (down v')).toList != (s.extract 0 k').toList) = false := by rw [bne, p1]; rfl
          go_wp2_with (go_at_call 25; refine (c5.out _).mono ?_; rintro e w7 ⟨rfl, hb7⟩)
          refine wp_region_quiet_below (by kernel_rfl) (by kernel_rfl) ?_
          repeat (go_big_quiet_step ((go_at_call 19; exact Calls.regrown_of (down_calls v' _ hv'))))
          refine wpQuiet_nil ?_
          intro _ hw'
          obtain ⟨⟨dq, osq⟩, hw''⟩ := hw'
          subst hw''
          have hb8 := below_of (below_of hb6 hb7) (below_regrown _ dq osq)
          generalize grow (redrawn w7 dq) osq = w8 at *
          go_wp2_with (go_at_call 22; refine (alive_calls _).mono ?_; rintro e w9 ⟨rfl, hb9⟩)
          go_ret
          exact ⟨rfl, below_of hb8 hb9⟩
        · have n1 : (G' == 0) = false := by rw [beq_eq_false_iff_ne]; omega
          go_wp2_with (go_at_call 25; refine (c5.out _).mono ?_; rintro e w7 ⟨rfl, hb7⟩)
          refine wp_region_quiet_below (by kernel_rfl) (by kernel_rfl) ?_
          repeat (go_big_quiet_step ((go_at_call 19; exact Calls.regrown_of (down_calls v' _ hv'))))
          refine wpQuiet_nil ?_
          intro _ hw'
          obtain ⟨⟨dq, osq⟩, hw''⟩ := hw'
          subst hw''
          have hb8 := below_of (below_of hb6 hb7) (below_regrown _ dq osq)
          generalize grow (redrawn w7 dq) osq = w8 at *
          go_wp2_with (go_at_call 22; refine (alive_calls _).mono ?_; rintro e w9 ⟨rfl, hb9⟩)
          go_ret
          exact ⟨rfl, below_of hb8 hb9⟩
      · have n1 : (G == 0) = false := by rw [beq_eq_false_iff_ne]; omega
        refine wp_region_quiet_below (by kernel_rfl) (by kernel_rfl) ?_
        repeat (go_big_quiet_step ((go_at_call 17; exact Calls.regrown_of (up_calls v _ hv))))
        refine wpQuiet_nil ?_
        intro _ hw'
        obtain ⟨⟨dq, osq⟩, hw''⟩ := hw'
        subst hw''
        have hb6 := below_of (below_of hbr hb5) (below_regrown _ dq osq)
        generalize grow (redrawn w5 dq) osq = w6 at *
        clear n1
        rcases hg' with rfl | hg'
        · have p1 := q2.out rfl
          have n1 : decide ((k' : Int) < 0) = false := by rw [decide_eq_false_iff_not]; omega
          have n2 : decide (s.size < k') = false := by rw [decide_eq_false_iff_not]; omega
          have p1' : ((bs (down v')).toList != (s.extract 0 k').toList) = false := by rw [bne, p1]; rfl
          go_wp2_with (go_at_call 25; refine (c5.out _).mono ?_; rintro e w7 ⟨rfl, hb7⟩)
          refine wp_region_quiet_below (by kernel_rfl) (by kernel_rfl) ?_
          repeat (go_big_quiet_step ((go_at_call 19; exact Calls.regrown_of (down_calls v' _ hv'))))
          refine wpQuiet_nil ?_
          intro _ hw'
          obtain ⟨⟨dq, osq⟩, hw''⟩ := hw'
          subst hw''
          have hb8 := below_of (below_of hb6 hb7) (below_regrown _ dq osq)
          generalize grow (redrawn w7 dq) osq = w8 at *
          go_wp2_with (go_at_call 22; refine (alive_calls _).mono ?_; rintro e w9 ⟨rfl, hb9⟩)
          go_ret
          exact ⟨rfl, below_of hb8 hb9⟩
        · have n1 : (G' == 0) = false := by rw [beq_eq_false_iff_ne]; omega
          go_wp2_with (go_at_call 25; refine (c5.out _).mono ?_; rintro e w7 ⟨rfl, hb7⟩)
          refine wp_region_quiet_below (by kernel_rfl) (by kernel_rfl) ?_
          repeat (go_big_quiet_step ((go_at_call 19; exact Calls.regrown_of (down_calls v' _ hv'))))
          refine wpQuiet_nil ?_
          intro _ hw'
          obtain ⟨⟨dq, osq⟩, hw''⟩ := hw'
          subst hw''
          have hb8 := below_of (below_of hb6 hb7) (below_regrown _ dq osq)
          generalize grow (redrawn w7 dq) osq = w8 at *
          go_wp2_with (go_at_call 22; refine (alive_calls _).mono ?_; rintro e w9 ⟨rfl, hb9⟩)
          go_ret
          exact ⟨rfl, below_of hb8 hb9⟩

set_option maxHeartbeats 800000 in
theorem walk (x : Nat) (s : ByteArray) (w : World) (hx : Hid (x < 18446744073709551616)) :
    Calls Try.prog 9 #[.int .u64 (x : Int), .string s] w fun e w' => e = .returned (.bool true) ∧ Below w.heap.size w w' := by
  by_cases hs : (4096 : Int) < (s.size : Int)
  · go_enter Try.func9, Try.ntmps9
    go_wp2_with (go_at_call 22; refine (alive_calls _).mono ?_; rintro e w1 ⟨rfl, hb⟩)
    go_ret
    exact ⟨rfl, hb⟩
  · exact walk_main x s w hx (by omega) _ _ _ _ _ _ _ _ rfl rfl rfl rfl (by omega) (by omega)

open Go.ChangeShapes Go.WideShapes Go.ChangeAt Go.Joins
open Go.ChangeMaps (open_string)

set_option maxRecDepth 100000 in
theorem lifted (os : Os) (started : os.Started) (H : Type) (enc : TypeId × Value → H) :
    ReturnsInHanded {} Try.checked os 9 .any (Rows.numBackSpec.pre6 enc Try.prog Try.f9 Rows.numBackRow.domain false) (Rows.numBackSpec.post enc Try.prog Try.f9 false true false false) := by
  refine returnsInHanded_of_change (C := Try.checked) own started (by kernel_rfl) Try.func9
    (ChangeSpec.witness6 (enc := enc) (C := Try.checked) false ⟨#[], #[.int .u64 0, .string ⟨#[]⟩], []⟩ 8 (by kernel_rfl) (by kernel_rfl) (by kernel_rfl) (by kernel_rfl)) ?_
  intro W base args ds gs before hval0 hW hcnd _
  have hval : ∀ (j : Nat) t v, Try.f9.params[j]? = some t → args[j]? = some v → Value.okWide Try.prog W .any base t v := hval0
  have hW' := hW
  obtain ⟨p, q, hA0, hV, rfl, _, _⟩ := hW'
  have hA : DataW.TrodAll enc Try.prog W 0 (fun _ => true) true Try.f9.params.toList args.toList ds p := hA0
  rw [Try.params9] at hA hval
  obtain ⟨v0, v1, d0, d1, p0, p1, rfl, rfl, rfl, h0, h1⟩ := trodAll_two hA
  obtain ⟨rfl, rfl⟩ := trodVars_none hV
  obtain ⟨a0, rfl, rfl, rfl, wf0⟩ := open_int Try.underlying22 (hval 0 22 v0 rfl rfl) h0
  obtain ⟨x0, rfl⟩ := Int.eq_ofNat_of_zero_le (bounds_u64 wf0).1
  obtain ⟨s1, rfl, rfl, rfl, ws1⟩ := open_string Try.underlying9 (hval 1 9 v1 rfl rfl) h1
  refine (walk x0 s1 W (Lib.hid (by have := (bounds_u64 wf0).2; omega))).mono fun e W' ⟨he, hb⟩ => ⟨_, he, ?_⟩
  exact law_post (tb := 4) hW hb laidOut (by kernel_rfl) (by kernel_rfl) Try.underlying4 rfl rfl

theorem proved : Rows.NumBackSaid :=
  OpenClaim.holds_of_wide 9 Try.f9 rfl rfl rfl rfl rfl rfl rfl ⟨rfl, rfl, rfl, rfl, rfl⟩ rfl rfl rfl rfl rfl (by kernel_rfl) Try.func9 (by kernel_rfl)
    (of_decide_eq_true (by kernel_rfl)) (by unfold Func.isWrapper; first | (rw [if_pos (by decide +kernel)]; kernel_rfl) | (rw [if_neg (by decide +kernel)]; exact ⟨rfl, rfl⟩))
    (fun os started H enc _ => lifted os started H enc)

#print axioms proved
end Go.Proofs.Ytfddnhmcbhblpaa.NumBack
