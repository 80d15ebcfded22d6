/- Texts merged into one: part 8 of 12. -/
import Derived.Deep.RegionHeld3
import Derived.RangeFuncNested
import Derived.RangeFuncBound
import Derived.RangeFuncCalls
import Derived.RangeFuncLeaves
import Derived.WalkKit
import Derived.OwnWalkIn
import Derived.TacticsInMore
import Derived.LoopNIn
import Derived.LoopIn
import Derived.WalkMore
import Derived.Deep.Slices
import Derived.Lib.Hide
import Derived.Conc.LoneCalls
import Derived.Conc.LoneSelect
import Derived.Test.YtaeiahkomdpcoaaDoorW7
import Derived.Test.YtaeiahkomdpcoaaDoorW1
import Derived.Test.YtaeiahkomdpcoaaDoorW4

section
/- The walk of hoardlaw13.NameApart. -/
namespace Go.Proofs.YtaeiahkomdpcoaaDoor.Name
open Go.RowKit Go.Shelf

theorem enc_cases (k : Key) : ∃ (T : ByteArray) (E : Int), encR k = .tuple #[.string T, .int .i64 E] ∧ ((E = 2 ∧ mayB k = false) ∨ (E = 0 ∧ mayB k = true ∧ T = bs (encL k))) := by
  unfold encR
  cases h : mayB k
  · exact ⟨_, _, if_neg (by simp), .inl ⟨rfl, rfl⟩⟩
  · exact ⟨_, _, if_pos rfl, .inr ⟨rfl, rfl, rfl⟩⟩
theorem encL_length (k : Key) (h : k.bucket.size ≤ 4096 ∧ k.name.size ≤ 4096) : (encL k).length ≤ 20000 := by
  have h1 := esc_length k.name.data.toList
  rw [size_list] at h1
  have h2 : (k.bucket.data.toList).length = k.bucket.size := size_list _
  have p1 : (if hasB k.kind = true then k.bucket.data.toList ++ [0] else []).length ≤ k.bucket.size + 1 := by
    split
    · rw [List.length_append, h2]; exact Nat.le_refl _
    · exact Nat.zero_le _
  have p2 : (if k.kind = 3 then esc k.name.data.toList ++ [0, 1] ++ be 8 (top - k.n) else if hasN k.kind = true then be 8 k.n else []).length ≤ 2 * k.name.size + 10 := by
    split
    · rw [List.length_append, List.length_append, be_length]; simp only [List.length_cons, List.length_nil]; omega
    · split
      · rw [be_length]; omega
      · exact Nat.zero_le _
  have p3 : (if k.kind = 5 then be 2 k.part.toNat else []).length ≤ 2 := by
    split
    · rw [be_length]; exact Nat.le_refl _
    · exact Nat.zero_le _
  unfold encL
  rw [List.length_cons, List.length_append, List.length_append]
  omega
/-- Neither's bytes begin the other's. -/
theorem not_pre {x y : Bs} (h1 : ¬ x <+: y) (h2 : ¬ y <+: x) (n : Nat) (hn : n = min x.length y.length) : ((bs x).extract 0 n).toList ≠ ((bs y).extract 0 n).toList := by
  intro e
  rw [ByteArray.toList_eq, ByteArray.toList_eq, Lib.extract_data, Lib.extract_data] at e
  have e2 : x.take n = y.take n := e
  rcases Nat.le_total x.length y.length with hl | hl
  · rw [hn, Nat.min_eq_left hl, List.take_length] at e2
    exact h1 (by rw [e2]; exact List.take_prefix _ _)
  · rw [hn, Nat.min_eq_right hl, List.take_length] at e2
    exact h2 (by rw [← e2]; exact List.take_prefix _ _)

set_option maxHeartbeats 1000000 in
set_option maxRecDepth 100000 in
theorem apart_calls (a b : Key) (w : World) (hv : Var0 w) (ha : a.bucket.size ≤ maxLen ∧ a.name.size ≤ maxLen ∧ a.kind < 256 ∧ a.n ≤ top) (hb : b.bucket.size ≤ maxLen ∧ b.name.size ≤ maxLen ∧ b.kind < 256 ∧ b.n ≤ top) :
    Calls Tryd.prog 3 #[a.val, b.val] w fun e w' => e = .returned (.bool true) ∧ Below w.heap.size w w' := by
  obtain ⟨ak, ab, an, ann, ap⟩ := a
  obtain ⟨bk, bb, bn, bnn, bp⟩ := b
  unfold Key.val
  simp only at ha hb ⊢
  unfold maxLen at ha hb
  have hK0 : KeyAt ((w.alloc (.cells (Key.mk ak ab an ann ap).cells 24)).alloc (.cells (Key.mk bk bb bn bnn bp).cells 24)) w.heap.size ⟨ak, ab, an, ann, ap⟩ := KeyAt.below (w := w.alloc (.cells (Key.mk ak ab an ann ap).cells 24)) (MapKept.heap_alloc w _).1 (below_one _ _)
  have hK1 : KeyAt ((w.alloc (.cells (Key.mk ak ab an ann ap).cells 24)).alloc (.cells (Key.mk bk bb bn bnn bp).cells 24)) (w.heap.size + 1) ⟨bk, bb, bn, bnn, bp⟩ := by
    have := (MapKept.heap_alloc (w.alloc (.cells (Key.mk ak ab an ann ap).cells 24)) (.cells (Key.mk bk bb bn bnn bp).cells 24)).1
    rw [show (w.alloc (.cells (Key.mk ak ab an ann ap).cells 24)).heap.size = w.heap.size + 1 by simp] at this
    exact this
  have hv1 := (hv.below (below_one w (.cells (Key.mk ak ab an ann ap).cells 24))).below (below_one _ (.cells (Key.mk bk bb bn bnn bp).cells 24))
  have b1 := below_alloc (below_one w (.cells (Key.mk ak ab an ann ap).cells 24)) (.cells (Key.mk bk bb bn bnn bp).cells 24)
  have HL : Hid (∀ (W : World) (g : Nat), W.heap.size = g → Calls Tryd.prog 9 #[.slice (some ⟨g, 0, none⟩) 4 4] (W.alloc (.cells #[.string ab, .string an, .string bb, .string bn] 9)) (LongR [ab, an, bb, bn] (W.alloc (.cells #[.string ab, .string an, .string bb, .string bn] 9)))) := fun W g hg => by
    subst hg
    exact long_calls (some ⟨W.heap.size, 0, none⟩) 4 [ab, an, bb, bn] _ (listAt_lit W [.string ab, .string an, .string bb, .string bn] 9) (by simp) (by
    intro s hs
    simp at hs
    rcases hs with rfl | rfl | rfl | rfl <;> omega)
  go_enter Tryd.func3, Tryd.ntmps3
  go_wp2_with fail
  refine (HL.out _ _ (by simp)).mono ?_
  rintro e w2 ⟨lb, rfl, hlb, rfl⟩
  have hA0 := hK0.below (below_one _ (.cells #[.string ab, .string an, .string bb, .string bn] 9))
  have hA1 := hK1.below (below_one _ (.cells #[.string ab, .string an, .string bb, .string bn] 9))
  have hv2 := hv1.below (below_one _ (.cells #[.string ab, .string an, .string bb, .string bn] 9))
  have b2 := below_alloc b1 (.cells #[.string ab, .string an, .string bb, .string bn] 9)
  clear hK0 hK1 hv1 b1 HL
  cases lb
  · have hz := hlb rfl
    have z1 := hz ab (by simp)
    have z2 := hz an (by simp)
    have z3 := hz bb (by simp)
    have z4 := hz bn (by simp)
    have HA := Lib.hid (fun W (h : Var0 W) => encode_calls ⟨ak, ab, an, ann, ap⟩ W h ⟨by show ab.size ≤ 4096; omega, by show an.size ≤ 4096; omega, ha.2.2.1, ha.2.2.2⟩)
    have HB := Lib.hid (fun W (h : Var0 W) => encode_calls ⟨bk, bb, bn, bnn, bp⟩ W h ⟨by show bb.size ≤ 4096; omega, by show bn.size ≤ 4096; omega, hb.2.2.1, hb.2.2.2⟩)
    have hla := encL_length ⟨ak, ab, an, ann, ap⟩ ⟨by show ab.size ≤ 4096; omega, by show an.size ≤ 4096; omega⟩
    have hlbb := encL_length ⟨bk, bb, bn, bnn, bp⟩ ⟨by show bb.size ≤ 4096; omega, by show bn.size ≤ 4096; omega⟩
    obtain ⟨T1, E1, hE1, hc1⟩ := enc_cases ⟨ak, ab, an, ann, ap⟩
    obtain ⟨T2, E2, hE2, hc2⟩ := enc_cases ⟨bk, bb, bn, bnn, bp⟩
    rw [hE1] at HA
    rw [hE2] at HB
    have hEq := fun W => eq_run ak ab an ann ap bk bb bn bnn bp W
    clear hlb hz hE1 hE2
    have HAN := Lib.hid ha.2.2.2
    have HBN := Lib.hid hb.2.2.2
    clear ha hb
    rcases hc1 with ⟨rfl, _⟩ | ⟨rfl, hm1, hT1⟩
    · rcases hc2 with ⟨rfl, _⟩ | ⟨rfl, _, _⟩
      · clear hla hlbb
        go_wp2_with fail
        refine (HA.out _ hv2).mono ?_
        rintro e w3 ⟨rfl, hb3⟩
        have hB0 := hA0.below hb3
        have hB1 := hA1.below hb3
        have hv3 := hv2.below hb3
        have b3 := below_of b2 hb3
        obtain ⟨p0, p1, p2, p3, p4⟩ := hB1.c
        clear hA0 hA1 hv2 b2 hb3 HA
        go_wp2_with fail
        refine (HB.out _ hv3).mono ?_
        rintro e w4 ⟨rfl, hb4⟩
        have hC0 := hB0.below hb4
        have hC1 := hB1.below hb4
        have hv4 := hv3.below hb4
        have b4 := below_of b3 hb4
        clear p0 p1 p2 p3 p4 hB0 hB1 hv3 b3 hb4 HB
        obtain ⟨p0, p1, p2, p3, p4⟩ := hC0.c
        obtain ⟨q0, q1, q2, q3, q4⟩ := hC1.c
        go_wp2_with fail
        refine (works_calls _ hv4).mono ?_
        rintro e w5 ⟨rfl, hb5⟩
        go_wp2
        go_ret
        exact ⟨rfl, below_of b4 hb5⟩
      · clear hla hlbb
        go_wp2_with fail
        refine (HA.out _ hv2).mono ?_
        rintro e w3 ⟨rfl, hb3⟩
        have hB0 := hA0.below hb3
        have hB1 := hA1.below hb3
        have hv3 := hv2.below hb3
        have b3 := below_of b2 hb3
        obtain ⟨p0, p1, p2, p3, p4⟩ := hB1.c
        clear hA0 hA1 hv2 b2 hb3 HA
        go_wp2_with fail
        refine (HB.out _ hv3).mono ?_
        rintro e w4 ⟨rfl, hb4⟩
        have hC0 := hB0.below hb4
        have hC1 := hB1.below hb4
        have hv4 := hv3.below hb4
        have b4 := below_of b3 hb4
        clear p0 p1 p2 p3 p4 hB0 hB1 hv3 b3 hb4 HB
        obtain ⟨p0, p1, p2, p3, p4⟩ := hC0.c
        obtain ⟨q0, q1, q2, q3, q4⟩ := hC1.c
        go_wp2_with fail
        refine (works_calls _ hv4).mono ?_
        rintro e w5 ⟨rfl, hb5⟩
        go_wp2
        go_ret
        exact ⟨rfl, below_of b4 hb5⟩
    · rcases hc2 with ⟨rfl, _⟩ | ⟨rfl, hm2, hT2⟩
      · clear hla hlbb hT1
        go_wp2_with fail
        refine (HA.out _ hv2).mono ?_
        rintro e w3 ⟨rfl, hb3⟩
        have hB0 := hA0.below hb3
        have hB1 := hA1.below hb3
        have hv3 := hv2.below hb3
        have b3 := below_of b2 hb3
        obtain ⟨p0, p1, p2, p3, p4⟩ := hB1.c
        clear hA0 hA1 hv2 b2 hb3 HA
        go_wp2_with fail
        refine (HB.out _ hv3).mono ?_
        rintro e w4 ⟨rfl, hb4⟩
        have hC0 := hB0.below hb4
        have hC1 := hB1.below hb4
        have hv4 := hv3.below hb4
        have b4 := below_of b3 hb4
        clear p0 p1 p2 p3 p4 hB0 hB1 hv3 b3 hb4 HB
        obtain ⟨p0, p1, p2, p3, p4⟩ := hC0.c
        obtain ⟨q0, q1, q2, q3, q4⟩ := hC1.c
        go_wp2_with fail
        refine (works_calls _ hv4).mono ?_
        rintro e w5 ⟨rfl, hb5⟩
        go_wp2
        go_ret
        exact ⟨rfl, below_of b4 hb5⟩
      · cases hab : eqB ⟨ak, ab, an, ann, ap⟩ ⟨bk, bb, bn, bnn, bp⟩
        · have hne : Key.mk ak ab an ann ap ≠ ⟨bk, bb, bn, bnn, bp⟩ := fun e => by rw [(eqB_iff _ _).2 e] at hab; cases hab
          have hs1 : T1.size ≤ 20000 := by rw [hT1, bs_size]; exact hla
          have hs2 : T2.size ≤ 20000 := by rw [hT2, bs_size]; exact hlbb
          have hdiff : ∀ n, n = min T1.size T2.size → ((T1.extract 0 n).toList != (T2.extract 0 n).toList) = true := fun n hn => by
            rw [hT1, hT2]
            rw [hT1, hT2, bs_size, bs_size] at hn
            rw [bne_iff_ne]
            exact not_pre (fun h => hne (enc_apart hm1 hm2 HAN.out HBN.out h)) (fun h => hne (enc_apart hm2 hm1 HBN.out HAN.out h).symm) n hn
          simp only [hab] at hEq
          clear hT1 hT2 hne hla hlbb hm1 hm2 hab
          rcases Nat.le_total T1.size T2.size with hle | hle
          · have hd := hdiff T1.size (Nat.min_eq_left hle).symm
            have hle2 : (T1.size : Int) ≤ (T2.size : Int) := by omega
            clear hdiff
            have hd3 : (T1.toList == (T2.extract 0 T1.size).toList) = false := by
              have := hd
              rw [show T1.extract 0 T1.size = T1 from by apply ByteArray.ext; simp] at this
              simpa using this
            have hd2 : (T1.toList != (T2.extract 0 T1.size).toList) = true := by
              have := hd
              rwa [show T1.extract 0 T1.size = T1 from by apply ByteArray.ext; simp] at this
            have s1 : T1.size ≤ T2.size := hle
            have s2 : (0 : Int) ≤ (T1.size : Int) := by omega
            have s3 : T1.size ≤ T1.size := Nat.le_refl _
            have hmn : min (T1.size : Int) (T2.size : Int) = (T1.size : Int) := Int.min_eq_left hle2
            have hnl : ¬ (T2.size : Int) < (T1.size : Int) := by omega
            go_wp2_with fail
            refine (HA.out _ hv2).mono ?_
            rintro e w3 ⟨rfl, hb3⟩
            have hB0 := hA0.below hb3
            have hB1 := hA1.below hb3
            have hv3 := hv2.below hb3
            have b3 := below_of b2 hb3
            obtain ⟨p0, p1, p2, p3, p4⟩ := hB1.c
            clear hA0 hA1 hv2 b2 hb3 HA
            go_wp2_with fail
            refine (HB.out _ hv3).mono ?_
            rintro e w4 ⟨rfl, hb4⟩
            have hC0 := hB0.below hb4
            have hC1 := hB1.below hb4
            have hv4 := hv3.below hb4
            have b4 := below_of b3 hb4
            clear p0 p1 p2 p3 p4 hB0 hB1 hv3 b3 hb4 HB
            obtain ⟨p0, p1, p2, p3, p4⟩ := hC0.c
            obtain ⟨q0, q1, q2, q3, q4⟩ := hC1.c
            go_wp2_with fail
            refine wp_region_quiet_below (by kernel_rfl) (by kernel_rfl) ?_
            repeat (go_big_quiet_step ((go_at_call 10; exact Calls.regrown_of (works_calls _ (hv4.below (below_regrown _ _ _))))))
            refine wpQuiet_nil ?_
            intro _ hw'
            obtain ⟨⟨dq, osq⟩, hw''⟩ := hw'
            subst hw''
            have hb6 := below_of b4 (below_regrown _ dq osq)
            go_wp2
            go_ret
            exact ⟨rfl, hb6⟩
          · have hd := hdiff T2.size (Nat.min_eq_right hle).symm
            have hle2 : (T2.size : Int) ≤ (T1.size : Int) := by omega
            clear hdiff
            have hd3 : ((T1.extract 0 T2.size).toList == T2.toList) = false := by
              have := hd
              rw [show T2.extract 0 T2.size = T2 from by apply ByteArray.ext; simp] at this
              simpa using this
            have hd2 : ((T1.extract 0 T2.size).toList != T2.toList) = true := by
              have := hd
              rwa [show T2.extract 0 T2.size = T2 from by apply ByteArray.ext; simp] at this
            have s1 : T2.size ≤ T1.size := hle
            have s2 : (0 : Int) ≤ (T2.size : Int) := by omega
            have s3 : T2.size ≤ T2.size := Nat.le_refl _
            have hmn : min (T1.size : Int) (T2.size : Int) = (T2.size : Int) := Int.min_eq_right hle2
            have hnl : ¬ (T1.size : Int) < (T2.size : Int) := by omega
            go_wp2_with fail
            refine (HA.out _ hv2).mono ?_
            rintro e w3 ⟨rfl, hb3⟩
            have hB0 := hA0.below hb3
            have hB1 := hA1.below hb3
            have hv3 := hv2.below hb3
            have b3 := below_of b2 hb3
            obtain ⟨p0, p1, p2, p3, p4⟩ := hB1.c
            clear hA0 hA1 hv2 b2 hb3 HA
            go_wp2_with fail
            refine (HB.out _ hv3).mono ?_
            rintro e w4 ⟨rfl, hb4⟩
            have hC0 := hB0.below hb4
            have hC1 := hB1.below hb4
            have hv4 := hv3.below hb4
            have b4 := below_of b3 hb4
            clear p0 p1 p2 p3 p4 hB0 hB1 hv3 b3 hb4 HB
            obtain ⟨p0, p1, p2, p3, p4⟩ := hC0.c
            obtain ⟨q0, q1, q2, q3, q4⟩ := hC1.c
            go_wp2_with fail
            refine wp_region_quiet_below (by kernel_rfl) (by kernel_rfl) ?_
            repeat (go_big_quiet_step ((go_at_call 10; exact Calls.regrown_of (works_calls _ (hv4.below (below_regrown _ _ _))))))
            refine wpQuiet_nil ?_
            intro _ hw'
            obtain ⟨⟨dq, osq⟩, hw''⟩ := hw'
            subst hw''
            have hb6 := below_of b4 (below_regrown _ dq osq)
            go_wp2
            go_ret
            exact ⟨rfl, hb6⟩
        · simp only [hab] at hEq
          clear hla hlbb hT1 hT2 hm1 hm2 hab
          go_wp2_with fail
          refine (HA.out _ hv2).mono ?_
          rintro e w3 ⟨rfl, hb3⟩
          have hB0 := hA0.below hb3
          have hB1 := hA1.below hb3
          have hv3 := hv2.below hb3
          have b3 := below_of b2 hb3
          obtain ⟨p0, p1, p2, p3, p4⟩ := hB1.c
          clear hA0 hA1 hv2 b2 hb3 HA
          go_wp2_with fail
          refine (HB.out _ hv3).mono ?_
          rintro e w4 ⟨rfl, hb4⟩
          have hC0 := hB0.below hb4
          have hC1 := hB1.below hb4
          have hv4 := hv3.below hb4
          have b4 := below_of b3 hb4
          clear p0 p1 p2 p3 p4 hB0 hB1 hv3 b3 hb4 HB
          obtain ⟨p0, p1, p2, p3, p4⟩ := hC0.c
          obtain ⟨q0, q1, q2, q3, q4⟩ := hC1.c
          go_wp2_with fail
          refine (works_calls _ hv4).mono ?_
          rintro e w5 ⟨rfl, hb5⟩
          go_wp2
          go_ret
          exact ⟨rfl, below_of b4 hb5⟩
  · go_wp2_with fail
    refine (works_calls _ hv2).mono ?_
    rintro e w3 ⟨rfl, hb3⟩
    go_wp2
    go_ret
    exact ⟨rfl, below_of b2 hb3⟩

end Go.Proofs.YtaeiahkomdpcoaaDoor.Name
end

section
/- The walk of hoardlaw13.NameOrder. -/
namespace Go.Proofs.YtaeiahkomdpcoaaDoor.Name
open Go.RowKit Go.Shelf

/-- The bytes of a key that may be are few. -/
theorem encL_small {k : Key} (h : mayB k = true) : (encL k).length ≤ 4096 := by
  obtain ⟨_, a1, a2, a3, a4, _⟩ := may_facts h
  have h1 := esc_length k.name.data.toList
  have hb : k.bucket.data.toList.length ≤ 63 := by
    cases hh : hasB k.kind
    · rw [a2 hh]; decide
    · have := a1 hh
      unfold bucketL at this
      simp only [Bool.and_eq_true, decide_eq_true_eq] at this
      exact this.1.1.1.2
  have hn : k.name.data.toList.length ≤ 200 := by
    by_cases h3 : k.kind = 3
    · have := a3 h3
      unfold objectL at this
      simp only [decide_eq_true_eq] at this
      exact this.2
    · rw [a4 h3]; decide
  have h2 := encL_length k ⟨by rw [← size_list]; omega, by rw [← size_list]; omega⟩
  have p1 : (if hasB k.kind = true then k.bucket.data.toList ++ [0] else []).length ≤ 64 := by
    split
    · rw [List.length_append]; simp only [List.length_singleton]; omega
    · exact Nat.zero_le _
  have p2 : (if k.kind = 3 then esc k.name.data.toList ++ [0, 1] ++ be 8 (top - k.n) else if hasN k.kind = true then be 8 k.n else []).length ≤ 410 := by
    split
    · rw [List.length_append, List.length_append, be_length]; simp only [List.length_cons, List.length_nil]; omega
    · split
      · rw [be_length]; omega
      · exact Nat.zero_le _
  have p3 : (if k.kind = 5 then be 2 k.part.toNat else []).length ≤ 2 := by
    split
    · rw [be_length]; exact Nat.le_refl _
    · exact Nat.zero_le _
  unfold encL
  rw [List.length_cons, List.length_append, List.length_append]
  omega

theorem cmpK_range (a b : Key) : cmpK a b = -1 ∨ cmpK a b = 0 ∨ cmpK a b = 1 := by
  have o : ∀ x y : Int, (x = -1 ∨ x = 0 ∨ x = 1) → (y = -1 ∨ y = 0 ∨ y = 1) → (orZ x y = -1 ∨ orZ x y = 0 ∨ orZ x y = 1) := fun x y hx hy => by
    unfold orZ; split
    · exact hy
    · exact hx
  have hN : ∀ x y : Nat, cmpN x y = -1 ∨ cmpN x y = 0 ∨ cmpN x y = 1 := fun x y => by rw [← cmpN_cast]; exact cmpZ_range _ _
  unfold cmpK
  refine o _ _ (hN _ _) (o _ _ (cmpL_range _ _) (o _ _ (cmpL_range _ _) (o _ _ ?_ (cmpZ_range _ _))))
  have := hN a.n b.n
  split
  · omega
  · exact this

/-- Two keys that may be, in the order of their bytes: the three ways. -/
theorem order_ways {a b : Key} (ha : mayB a = true) (hb : mayB b = true) (na : a.n ≤ top) (nb : b.n ≤ top) :
    (cmpK a b = -1 ∧ cmpK b a = 1 ∧ Op.bytesLess (bs (encL a)).toList (bs (encL b)).toList = true ∧ ((bs (encL a)).toList == (bs (encL b)).toList) = false ∧ eqB a b = false) ∨
    (cmpK a b = 0 ∧ cmpK b a = 0 ∧ Op.bytesLess (bs (encL a)).toList (bs (encL b)).toList = false ∧ ((bs (encL a)).toList == (bs (encL b)).toList) = true ∧ eqB a b = true) ∨
    (cmpK a b = 1 ∧ cmpK b a = -1 ∧ Op.bytesLess (bs (encL a)).toList (bs (encL b)).toList = false ∧ ((bs (encL a)).toList == (bs (encL b)).toList) = false ∧ eqB a b = false) := by
  have hc := cmpL_enc ha hb na nb
  have hl := cmpL_less (encL a) (encL b)
  have hz := cmpL_zero (encL a) (encL b)
  have hk := cmpK_zero a b
  have hn := cmpK_neg a b
  rw [hc] at hl hz
  have e1 : (bs (encL a)).toList = encL a := by rw [ByteArray.toList_eq]; rfl
  have e2 : (bs (encL b)).toList = encL b := by rw [ByteArray.toList_eq]; rfl
  rw [e1, e2]
  have hE : ∀ t : Bool, (cmpK a b = 0 ↔ t = true) → ((encL a == encL b) = t ∧ eqB a b = t) := fun t ht => by
    refine ⟨?_, ?_⟩
    · rw [Bool.eq_iff_iff, beq_iff_eq, ← ht, hz]
    · rw [Bool.eq_iff_iff, eqB_iff, ← ht, hk]
  rcases cmpK_range a b with h | h | h
  · have := hE false (by rw [h]; simp)
    rw [h] at hl hn
    exact .inl ⟨h, hn, hl, this.1, this.2⟩
  · have := hE true (by rw [h]; simp)
    rw [h] at hl hn
    exact .inr (.inl ⟨h, hn, hl, this.1, this.2⟩)
  · have := hE false (by rw [h]; simp)
    rw [h] at hl hn
    exact .inr (.inr ⟨h, hn, hl, this.1, this.2⟩)

set_option maxHeartbeats 2000000 in
set_option maxRecDepth 100000 in
theorem order_calls (a b : Key) (w : World) (hv : Var0 w) (ha : a.bucket.size ≤ maxLen ∧ a.name.size ≤ maxLen ∧ a.kind < 256 ∧ a.n ≤ top) (hb : b.bucket.size ≤ maxLen ∧ b.name.size ≤ maxLen ∧ b.kind < 256 ∧ b.n ≤ top) :
    Calls Tryd.prog 5 #[a.val, b.val] w fun e w' => e = .returned (.bool true) ∧ Below w.heap.size w w' := by
  have H1 := Lib.hid (fun W => cmpKey_calls a b W)
  have H2 := Lib.hid (fun W => cmpKey_calls b a W)
  have HD := fun (ha : mayB a = true) (na : a.n ≤ top) => dec_enc ha na
  have HW := fun (ha : mayB a = true) (hb : mayB b = true) (na : a.n ≤ top) (nb : b.n ≤ top) => order_ways ha hb na nb
  have HS := fun (ha : mayB a = true) => encL_small ha
  obtain ⟨ak, ab, an, ann, ap⟩ := a
  obtain ⟨bk, bb, bn, bnn, bp⟩ := b
  unfold Key.val at H1 H2 HD ⊢
  simp only at ha hb H1 H2 HD ⊢
  unfold maxLen at ha hb
  have hK0 : KeyAt ((w.alloc (.cells (Key.mk ak ab an ann ap).cells 24)).alloc (.cells (Key.mk bk bb bn bnn bp).cells 24)) w.heap.size ⟨ak, ab, an, ann, ap⟩ := KeyAt.below (w := w.alloc (.cells (Key.mk ak ab an ann ap).cells 24)) (MapKept.heap_alloc w _).1 (below_one _ _)
  have hK1 : KeyAt ((w.alloc (.cells (Key.mk ak ab an ann ap).cells 24)).alloc (.cells (Key.mk bk bb bn bnn bp).cells 24)) (w.heap.size + 1) ⟨bk, bb, bn, bnn, bp⟩ := by
    have := (MapKept.heap_alloc (w.alloc (.cells (Key.mk ak ab an ann ap).cells 24)) (.cells (Key.mk bk bb bn bnn bp).cells 24)).1
    rw [show (w.alloc (.cells (Key.mk ak ab an ann ap).cells 24)).heap.size = w.heap.size + 1 by simp] at this
    exact this
  have hv1 := (hv.below (below_one w (.cells (Key.mk ak ab an ann ap).cells 24))).below (below_one _ (.cells (Key.mk bk bb bn bnn bp).cells 24))
  have b1 := below_alloc (below_one w (.cells (Key.mk ak ab an ann ap).cells 24)) (.cells (Key.mk bk bb bn bnn bp).cells 24)
  have HL : Hid (∀ (W : World) (g : Nat), W.heap.size = g → Calls Tryd.prog 9 #[.slice (some ⟨g, 0, none⟩) 4 4] (W.alloc (.cells #[.string ab, .string an, .string bb, .string bn] 9)) (LongR [ab, an, bb, bn] (W.alloc (.cells #[.string ab, .string an, .string bb, .string bn] 9)))) := fun W g hg => by
    subst hg
    exact long_calls (some ⟨W.heap.size, 0, none⟩) 4 [ab, an, bb, bn] _ (listAt_lit W [.string ab, .string an, .string bb, .string bn] 9) (by simp) (by
    intro s hs
    simp at hs
    rcases hs with rfl | rfl | rfl | rfl <;> omega)
  have HHD := Lib.hid HD
  have HHW := Lib.hid HW
  have HHS := Lib.hid HS
  clear HD HW HS
  go_enter Tryd.func5, Tryd.ntmps5
  go_wp2_with fail
  refine (HL.out _ _ (by simp)).mono ?_
  rintro e w2 ⟨lb, rfl, hlb, rfl⟩
  have hA0 := hK0.below (below_one _ (.cells #[.string ab, .string an, .string bb, .string bn] 9))
  have hA1 := hK1.below (below_one _ (.cells #[.string ab, .string an, .string bb, .string bn] 9))
  have hv2 := hv1.below (below_one _ (.cells #[.string ab, .string an, .string bb, .string bn] 9))
  have b2 := below_alloc b1 (.cells #[.string ab, .string an, .string bb, .string bn] 9)
  clear hK0 hK1 hv1 b1 HL
  cases lb
  · have hz := hlb rfl
    have z1 := hz ab (by simp)
    have z2 := hz an (by simp)
    have z3 := hz bb (by simp)
    have z4 := hz bn (by simp)
    have HA := Lib.hid (fun W (h : Var0 W) => encode_calls ⟨ak, ab, an, ann, ap⟩ W h ⟨by show ab.size ≤ 4096; omega, by show an.size ≤ 4096; omega, ha.2.2.1, ha.2.2.2⟩)
    have HB := Lib.hid (fun W (h : Var0 W) => encode_calls ⟨bk, bb, bn, bnn, bp⟩ W h ⟨by show bb.size ≤ 4096; omega, by show bn.size ≤ 4096; omega, hb.2.2.1, hb.2.2.2⟩)
    obtain ⟨T1, E1, hE1, hc1⟩ := enc_cases ⟨ak, ab, an, ann, ap⟩
    obtain ⟨T2, E2, hE2, hc2⟩ := enc_cases ⟨bk, bb, bn, bnn, bp⟩
    rw [hE1] at HA
    rw [hE2] at HB
    have HC1 := Lib.hid hc1
    have HC2 := Lib.hid hc2
    have HAN := Lib.hid ha.2.2.2
    have HBN := Lib.hid hb.2.2.2
    have hE10 : E1 = 2 ∨ E1 = 0 := hc1.elim (fun h => .inl h.1) (fun h => .inr h.1)
    have hE20 : E2 = 2 ∨ E2 = 0 := hc2.elim (fun h => .inl h.1) (fun h => .inr h.1)
    have HX := Lib.hid (And.intro hE10 hE20)
    clear hlb hz hE1 hE2 ha hb hc1 hc2 hE10 hE20 z1 z2 z3 z4
    go_wp2_with fail
    refine (HA.out _ hv2).mono ?_
    rintro e w3 ⟨rfl, hb3⟩
    have hB0 := hA0.below hb3
    have hB1 := hA1.below hb3
    have hv3 := hv2.below hb3
    have b3 := below_of b2 hb3
    obtain ⟨p0, p1, p2, p3, p4⟩ := hB1.c
    clear hA0 hA1 hv2 b2 hb3 HA
    go_wp2_with fail
    refine (HB.out _ hv3).mono ?_
    rintro e w4 ⟨rfl, hb4⟩
    have hC0 := hB0.below hb4
    have hC1 := hB1.below hb4
    have hv4 := hv3.below hb4
    have b4 := below_of b3 hb4
    clear p0 p1 p2 p3 p4 hB0 hB1 hv3 b3 hb4 HB
    by_cases hEE : E1 = 0 ∧ E2 = 0
    · obtain ⟨h1, h2⟩ := hEE
      rcases HC1.out with ⟨h3, _⟩ | ⟨_, hm1, hT1⟩
      · exfalso; omega
      rcases HC2.out with ⟨h3, _⟩ | ⟨_, hm2, hT2⟩
      · exfalso; omega
      have hDe := HHD.out hm1 HAN.out
      have hway := HHW.out hm1 hm2 HAN.out HBN.out
      have hsm := HHS.out hm1
      have hT1s : T1.size ≤ 4096 := by rw [hT1, bs_size]; exact hsm
      have hDD : ∀ W, Var0 W → _ := fun W h => decode_calls T1 W h hT1s
      have hTe : T1.data.toList = encL ⟨ak, ab, an, ann, ap⟩ := by rw [hT1]; rfl
      rw [hTe, hDe] at hDD
      have HDD := Lib.hid hDD
      rw [← hT1, ← hT2] at hway
      have hE1 := fun W => eq_run ak ab an ann ap ak ab an ann ap W
      simp only [(eqB_iff ⟨ak, ab, an, ann, ap⟩ ⟨ak, ab, an, ann, ap⟩).2 rfl] at hE1
      have hE2 := fun W => eq_run ak ab an ann ap bk bb bn bnn bp W
      have HE1 := Lib.hid hE1
      have HE2 := Lib.hid hE2
      have HWY := Lib.hid hway
      subst h1 h2
      clear HHD HHW HHS HAN HBN HC1 HC2 HX hDe hway hsm hT1s hDD hTe hE1 hE2 hm1 hm2 hT1 hT2
      go_wp2_with fail
      refine (HDD.out _ hv4).mono ?_
      rintro e w5 ⟨rfl, hb5⟩
      have hD0 := (hC0.below hb5).below (below_one w5 (.cells (Key.mk ak ab an ann ap).cells 24))
      have hD1 := (hC1.below hb5).below (below_one w5 (.cells (Key.mk ak ab an ann ap).cells 24))
      have hv5 := (hv4.below hb5).below (below_one w5 (.cells (Key.mk ak ab an ann ap).cells 24))
      have b5 := below_alloc (below_of b4 hb5) (.cells (Key.mk ak ab an ann ap).cells 24)
      have hD2 : KeyAt (w5.alloc (.cells (Key.mk ak ab an ann ap).cells 24)) w5.heap.size ⟨ak, ab, an, ann, ap⟩ := (MapKept.heap_alloc w5 _).1
      obtain ⟨p0, p1, p2, p3, p4⟩ := (hC0.below hb5).c
      obtain ⟨q0, q1, q2, q3, q4⟩ := (hC1.below hb5).c
      have l0 : w.heap.size < w5.heap.size := (hC0.below hb5).lt
      have l1 : w.heap.size + 1 < w5.heap.size := (hC1.below hb5).lt
      simp only at p0 p1 p2 p3 p4 q0 q1 q2 q3 q4
      clear hC0 hC1 hv4 b4 hb5 HDD
      go_wp2_with fail
      refine (H1.out _).mono ?_
      rintro e w6 ⟨rfl, hb6⟩
      have hE0 := hD0.below hb6
      have hE1 := hD1.below hb6
      have hE2 := hD2.below hb6
      have hv6 := hv5.below hb6
      have b6 := below_of b5 hb6
      clear p0 p1 p2 p3 p4 q0 q1 q2 q3 q4 l0 l1 hD0 hD1 hD2 hv5 b5 hb6 H1
      obtain ⟨p0, p1, p2, p3, p4⟩ := hE0.c
      obtain ⟨q0, q1, q2, q3, q4⟩ := hE1.c
      obtain ⟨r0, r1, r2, r3, r4⟩ := hE2.c
      have k1 := HE1.out
      have k2 := HE2.out
      rcases HWY.out with ⟨h1, h2, h3, h4, h5⟩ | ⟨h1, h2, h3, h4, h5⟩ | ⟨h1, h2, h3, h4, h5⟩
      all_goals
        rw [h1]
        rw [h2] at H2
        simp only [h5] at k2
        clear h1 h2 h5 HWY HE1 HE2
        go_wp2_with fail
        refine (H2.out _).mono ?_
        rintro e w7 ⟨rfl, hb7⟩
        go_wp2_with fail
        refine (works_calls _ (hv6.below hb7)).mono ?_
        rintro e w8 ⟨rfl, hb8⟩
        go_wp2
        go_ret
        exact ⟨rfl, below_of (below_of b6 hb7) hb8⟩
    · have hX := HX.out
      clear H1 H2 HHD HHW HHS HAN HBN HC1 HC2 HX
      rcases hX with ⟨rfl | rfl, rfl | rfl⟩
      case inr.inr => exact absurd ⟨rfl, rfl⟩ hEE
      all_goals
        clear hEE
        go_wp2_with fail
        refine (works_calls _ hv4).mono ?_
        rintro e w5 ⟨rfl, hb5⟩
        go_wp2
        go_ret
        exact ⟨rfl, below_of b4 hb5⟩
  · clear H1 H2 HHD HHW HHS
    go_wp2_with fail
    refine (works_calls _ hv2).mono ?_
    rintro e w3 ⟨rfl, hb3⟩
    go_wp2
    go_ret
    exact ⟨rfl, below_of b2 hb3⟩

end Go.Proofs.YtaeiahkomdpcoaaDoor.Name
end

section
/- A range over a function whose iterator may itself range over another one: contract and law over a set of blocks that the iterator owns. (The law's proof follows the library's law for a loop over an iterator.) -/
namespace Go.Proofs.YtaeiahkomdpcoaaDoor.Seq
open Go Go.RowKit

section
variable {F : Fence} {n : Nat} {P : Program} {Q : Exit → Act → World → Prop} {a : Act} {w : World} {b : Frame} {k : List Item} {cs : List Frame}
theorem stepR_scope {c : Code} : step P (lone (b.atR a (.code (.scope c) :: k)) cs w) = .next (lone (b.atR a (.code c :: .inScope c :: k)) cs w) :=
  step_lone_go (by simp [stepG, stepG.exec, Frame.atR])
theorem stepR_inScope {c : Code} : step P (lone (b.atR a (.inScope c :: k)) cs w) = .next (lone (b.atR a k) cs w) :=
  step_lone_go (by simp [stepG, stepG.exec, Frame.atR])
/-- A scope, inside a fence, through which the run goes without a goto. -/
theorem wpIn_scope_straight {c : Code} (h : c.wpIn F n P (Exit.noGoto Q) a w) : (Code.scope c).wpIn F n P Q a w := by
  intro b k cs hro hb hr
  have h0 : (lone (b.atR a (.code (.scope c) :: k)) cs w).fenced P F := fenced_calm hb hr rfl
  obtain ⟨e, a₁, w₁, hq, harr⟩ := h b (.inScope c :: k) cs hro hb hr
  cases e with
  | normal => exact ⟨.normal, a₁, w₁, hq, .head h0 stepR_scope (StepsIn.trans harr (.one (fenced_calm hb hr rfl) stepR_inScope))⟩
  | exit id =>
    have hx : exitTo id (.inScope c :: k) = exitTo id k := by simp [exitTo]
    exact ⟨.exit id, a₁, w₁, hq, fun k' hk => .head h0 stepR_scope (harr.1 k' (by rw [hx]; exact hk)),
      fun hr' hk => let ⟨k₁, h1, h2⟩ := harr.2 hr' (by rw [hx]; exact hk); ⟨k₁, h1, .head h0 stepR_scope h2⟩⟩
  | goto l => exact hq.elim
  | ret => exact ⟨_, a₁, w₁, hq, .of_steps (.one h0 stepR_scope) harr⟩
  | panic ch => exact ⟨_, a₁, w₁, hq, .of_steps (.one h0 stepR_scope) harr⟩
  | outgrown => exact ⟨_, a₁, w₁, hq, .of_steps (.one h0 stepR_scope) harr⟩
end

/-- Off O: nothing has turned but what lies in O; new blocks. -/
structure Off (O : Nat → Prop) (W W' : World) : Prop where
  os : W'.os = W.os
  tape : W'.tape = W.tape
  output : W'.output = W.output
  size : W.heap.size ≤ W'.heap.size
  block : ∀ k, k < W.heap.size → ¬ O k → W'.heap[k]? = W.heap[k]?
/-- O with the blocks that are new. -/
def own (O : Nat → Prop) (W W' : World) (k : Nat) : Prop := O k ∨ (W.heap.size ≤ k ∧ k < W'.heap.size)
/-- What is said abides whatever the owner of O does. -/
def Abide {β : Type} (J : (Nat → Prop) → β → World → Prop) : Prop := ∀ O s W W', J O s W → Off O W W' → J (own O W W') s W'
/-- A round's word to the iterator: what lies below n₀ and what the iterator owns lies as it lay. -/
structure Kept (O : Nat → Prop) (n₀ : Nat) (W W' : World) : Prop where
  below : Below n₀ W W'
  same : ∀ k, O k → k < W.heap.size → W'.heap[k]? = W.heap[k]?
theorem Kept.refl (O : Nat → Prop) (n₀ : Nat) (W : World) : Kept O n₀ W W := ⟨Below.refl _ _, fun _ _ _ => rfl⟩
theorem Kept.trans {O : Nat → Prop} {n₀ : Nat} {A B C : World} (h : Kept O n₀ A B) (k : Kept O n₀ B C) : Kept O n₀ A C :=
  ⟨h.below.trans k.below, fun i hi hl => (k.same i hi (Nat.lt_of_lt_of_le hl h.below.size)).trans (h.same i hi hl)⟩
theorem Kept.less {O O' : Nat → Prop} {n₀ : Nat} {A B : World} (h : Kept O n₀ A B) (hs : ∀ k, O' k → O k) : Kept O' n₀ A B := ⟨h.below, fun k hk => h.same k (hs k hk)⟩
theorem Off.more {O O' : Nat → Prop} {A B : World} (h : Off O A B) (hs : ∀ k, O k → O' k) : Off O' A B := ⟨h.os, h.tape, h.output, h.size, fun k hk hn => h.block k hk (fun ho => hn (hs k ho))⟩
theorem off_of_below {O : Nat → Prop} {W W' : World} (h : Below W.heap.size W W') : Off O W W' := ⟨h.os, h.tape, h.output, h.size, fun k hk _ => h.block k hk⟩
theorem kept_of_below {O : Nat → Prop} {n₀ : Nat} {W W' : World} (h : Below W.heap.size W W') (hn : n₀ ≤ W.heap.size) : Kept O n₀ W W' := ⟨h.mono hn, fun k _ hk => h.block k hk⟩
theorem off_putObj {O : Nat → Prop} (W : World) (l : Nat) (o : Obj) (hl : O l) : Off O W (W.putObj l o) :=
  ⟨rfl, rfl, rfl, by simp, fun k _ hn => World.putObj_heap_other (fun e => hn (by rw [e]; exact hl))⟩
theorem kept_putObj {O : Nat → Prop} {n₀ : Nat} (W : World) (l : Nat) (o : Obj) (hl : ¬ O l) (hn : n₀ ≤ l) : Kept O n₀ W (W.putObj l o) :=
  ⟨⟨rfl, rfl, rfl, by simp, fun k hk => World.putObj_heap_other (by omega)⟩, fun k hk _ => World.putObj_heap_other (fun e => hl (by rw [← e]; exact hk))⟩
theorem own_same (O : Nat → Prop) {W W' : World} (h : W'.heap.size = W.heap.size) : own O W W' = O := by
  funext k; apply propext; unfold own; constructor
  · rintro (h1 | h1); exact h1; omega
  · exact fun h => .inl h
theorem Abide.putObj {β : Type} {J : (Nat → Prop) → β → World → Prop} (h : Abide J) {O : Nat → Prop} {s : β} {W : World} (l : Nat) (o : Obj) (hs : J O s W) (hl : O l) : J O s (W.putObj l o) := by
  have := h O s W (W.putObj l o) hs (off_putObj W l o hl)
  rwa [own_same O (by simp)] at this

/-- AN ITERATOR OVER xs: it reads what Rd says (below n₀, or in the blocks R0, which are its own from the start). -/
def SeqO {α : Type} (F : Fence) (n : Nat) (P : Program) (g : Nat) (lb : Array Value) (encs : α → Array Value) (n₀ : Nat) (R0 : Nat → Prop) (xs : List α) (Rd : World → Prop) : Prop :=
  ∀ (l : Nat) (J Jx : (Nat → Prop) → List α → World → Prop) (O : Nat → Prop) (W : World), n₀ ≤ W.heap.size → Rd W → (∀ i, R0 i → O i) → Abide J → Abide Jx →
    (∀ O pre x rest W1, xs = pre ++ x :: rest → J O pre W1 → YieldAt F (n - 1) P l (encs x) W1 fun e W' => Kept O n₀ W1 W' ∧
      ((e = .returned (.bool true) ∧ J O (pre ++ [x]) W') ∨ (e = .returned (.bool false) ∧ Jx O (pre ++ [x]) W'))) →
    J O [] W →
    CallsIn F n P g (#[.func (.yield l) #[] #[]] ++ lb) W fun e W' => (∃ v, e = .returned v) ∧ ∃ O', J O' xs W' ∨ ∃ pre x rest, xs = pre ++ x :: rest ∧ Jx O' (pre ++ [x]) W'

/-- How the body of a round may be left. -/
def postO {α : Type} (O : Nat → Prop) (n₀ : Nat) (W : World) (I : (Nat → Prop) → List α → World → Prop) (Ix : Code → (Nat → Prop) → List α → World → Prop) (xs : List α) : Exit → Act → World → Prop
  | .normal, _, W' => Kept O n₀ W W' ∧ I O xs W'
  | .ret, _, W' => Kept O n₀ W W' ∧ Ix .ret O xs W'
  | .exit id, _, W' => Kept O n₀ W W' ∧ Ix (.exit id) O xs W'
  | .goto t, _, W' => Kept O n₀ W W' ∧ Ix (.goto t) O xs W'
  | _, _, _ => False

variable {F : Fence} {n : Nat} {P : Program}
/-- THE LAW. -/
theorem wpIn_rangeFunc_O {α : Type} {g : Operand} {ps : Array Tmp} {assign body : Code} {Q : Exit → Act → World → Prop} {a : Act} {w : World}
    (hro : F.round = none) (h1 : 1 ≤ n) {gf : Nat} {lb : Array Value} (hg : a.eval g = .func (.func gf) #[] lb) (hFg : F.fn gf) (eg : ∀ args w, (callFunc gf args).run P w = .ok (.enter gf args) w)
    {encs : α → Array Value} {n₀ : Nat} {R0 : Nat → Prop} {xs : List α} {Rd : World → Prop} (hseq : SeqO F (n - 1) P gf lb encs n₀ R0 xs Rd) (hn : n₀ ≤ w.heap.size)
    (hRd : ∀ W, Below w.heap.size w W → Rd W) (hps : ∀ x, (encs x).size = ps.size)
    (I : (Nat → Prop) → List α → World → Prop) (Ix : Code → (Nat → Prop) → List α → World → Prop) (hI : Abide I) (hIx : ∀ c, Abide (Ix c)) (O₀ : Nat → Prop) (hO₀ : ∀ i, O₀ i → i < w.heap.size) (hR0 : ∀ i, R0 i → O₀ i) (h0 : I O₀ [] w)
    (Ax : (Nat → Prop) → α → Act → World → Prop) (hAx : ∀ x, Abide (fun O a' W => Ax O x a' W))
    (hassign : ∀ (l : Nat) (O : Nat → Prop) (pre : List α) (x : α) (W : World) (K : Act → World → Prop), I O pre W → (∀ a' W', Kept O n₀ W W' → I O pre W' → Ax O x a' W' → K a' W') →
      assign.wpIn (F.inRound l) (n - 1 - 1) P (Exit.then K (fun _ _ _ => False)) { tmps := (ps.zip (encs x)).foldl (fun t (p, v) => t.setIfInBounds p v) a.tmps, defers := [] } W)
    (hbody : ∀ (l : Nat) (O : Nat → Prop) (pre : List α) (x : α) (rest : List α) (a' : Act) (W : World), xs = pre ++ x :: rest → I O pre W → Ax O x a' W → body.wpIn (F.inRound l) (n - 1 - 1) P (postO O n₀ W I Ix (pre ++ [x])) a' W)
    (hdone : ∀ (O : Nat → Prop) (D : Nat) (W : World), w.heap.size ≤ D → O D → I O xs W → W.heap[D]? = some (.deferred (some [])) → Q .normal { a with defers := { target := .collected D, args := #[] } :: a.defers } W)
    (hstop : ∀ (O : Nat → Prop) (D : Nat) (c : Code) (pre : List α) (x : α) (rest : List α) (W : World), w.heap.size ≤ D → O D → xs = pre ++ x :: rest → Ix c O (pre ++ [x]) W → W.heap[D]? = some (.deferred (some [])) → c.wpIn F n P Q { a with defers := { target := .collected D, args := #[] } :: a.defers } W) :
    (Code.rangeFunc g ps assign body).wpIn F n P Q a w := by
  refine wpIn_rangeFunc ?_
  intro fn hfn
  rw [hro]
  obtain ⟨rec, hrec⟩ : ∃ rec : LoopState → Option Code → Loop, rec = fun st pe => { state := st, pending := pe, fn, tmps := a.tmps, params := ps, assign, body, defers := w.heap.size } := ⟨_, rfl⟩
  obtain ⟨W1, hW1⟩ : ∃ W1, (w.alloc (.deferred (some []))).alloc (.loop (rec .ready none)) = W1 := ⟨_, rfl⟩
  have hs1 : W1.heap.size = w.heap.size + 2 := by rw [← hW1]; simp
  have hL1 : W1.heap[w.heap.size + 1]? = some (.loop (rec .ready none)) := by
    rw [← hW1]; have := World.alloc_heap_new (w.alloc (.deferred (some []))) (.loop (rec .ready none)); rwa [World.size_alloc] at this
  have hK1 : W1.heap[w.heap.size]? = some (.deferred (some [])) := by
    rw [← hW1]; exact (Below.heap_alloc _ _ _ (by simp)).trans (World.alloc_heap_new w _)
  have hb1 : Below w.heap.size w W1 := by
    rw [← hW1]; exact ((Below.refl _ w).alloc (Nat.le_refl _) _).alloc (by simp) _
  obtain ⟨X, hX⟩ : ∃ X : (Nat → Prop) → Nat → Prop, X = fun O k => O k ∨ k = w.heap.size + 1 ∨ k = w.heap.size := ⟨_, rfl⟩
  have hXl : ∀ O, X O (w.heap.size + 1) := fun O => by rw [hX]; exact .inr (.inl rfl)
  have hXD : ∀ O, X O w.heap.size := fun O => by rw [hX]; exact .inr (.inr rfl)
  have hXi : ∀ O k, O k → X O k := fun O k h => by rw [hX]; exact .inl h
  have hXo : ∀ O W W', own (X O) W W' = X (own O W W') := fun O W W' => by
    funext k; apply propext; rw [hX]; unfold own
    constructor
    · rintro ((h | h) | h)
      · exact .inl (.inl h)
      · exact .inr h
      · exact .inl (.inr h)
    · rintro ((h | h) | h)
      · exact .inl (.inl h)
      · exact .inr h
      · exact .inl (.inr h)
  have hI1 : I (X O₀) [] W1 := by
    have h := hI _ _ w W1 h0 (off_of_below hb1)
    rwa [show own O₀ w W1 = X O₀ by
      funext k; apply propext; rw [hX]; unfold own
      constructor
      · rintro (h | h); exact .inl h; right; omega
      · rintro (h | h | h); exact .inl h; right; omega; right; omega] at h
  have hab : ∀ {β : Type} (J : (Nat → Prop) → β → World → Prop) (st : LoopState) (pe : β → Option Code → Prop), Abide J →
      Abide (fun O (s : β) W => ∃ c, pe s c ∧ J (X O) s W ∧ W.heap[w.heap.size + 1]? = some (.loop (rec st c)) ∧ W.heap[w.heap.size]? = some (.deferred (some [])) ∧ ¬ O (w.heap.size + 1) ∧ ¬ O w.heap.size) :=
    fun J st pe hJ O s W W' hs ho => by
      obtain ⟨c, hc, h2, hl, hk, n1, n2⟩ := hs
      have hll := (Array.getElem?_eq_some_iff.1 hl).1
      refine ⟨c, hc, ?_, (ho.block _ hll n1).trans hl, (ho.block _ (by omega) n2).trans hk, ?_, ?_⟩
      · rw [← hXo]; exact hJ _ _ _ _ h2 (ho.more (hXi O))
      · rintro (h | h); exact n1 h; omega
      · rintro (h | h); exact n2 h; omega
  refine ⟨w.heap.size + 1, [{ target := .collected w.heap.size, args := #[] }], W1, { target := .fn (.func gf) lb, args := #[.func (.yield (w.heap.size + 1)) #[] #[]] }, W1, gf,
    #[.func (.yield (w.heap.size + 1)) #[] #[]] ++ lb, W1, ?_, ?_, ?_, ?_, fun _ => h1, ?_⟩
  · rw [← hW1, hrec]; exact run_enterLoop_outer _ _ _ _ _
  · simp only [resolve, hg]
    simp [go_sem]
  · intro f' hf'; simp [Target.leads] at hf'; subst hf'; exact hFg
  · simp [invoke, go_sem, eg]
  · have hAbx : Abide (fun O (s : List α) W => ∃ c, Ix c (X O) s W ∧ W.heap[w.heap.size + 1]? = some (.loop (rec .done (some c))) ∧ W.heap[w.heap.size]? = some (.deferred (some [])) ∧ ¬ O (w.heap.size + 1) ∧ ¬ O w.heap.size) := fun O s W W' hs ho => by
      obtain ⟨c, hc, hl, hk, n1, n2⟩ := hs
      have hll := (Array.getElem?_eq_some_iff.1 hl).1
      refine ⟨c, ?_, (ho.block _ hll n1).trans hl, (ho.block _ (by omega) n2).trans hk, ?_, ?_⟩
      · rw [← hXo]; exact hIx c _ _ _ _ hc (ho.more (hXi O))
      · rintro (h | h); exact n1 h; omega
      · rintro (h | h); exact n2 h; omega
    refine (hseq (w.heap.size + 1)
      (fun O pre W => ∃ c, c = none ∧ I (X O) pre W ∧ W.heap[w.heap.size + 1]? = some (.loop (rec .ready c)) ∧ W.heap[w.heap.size]? = some (.deferred (some [])) ∧ ¬ O (w.heap.size + 1) ∧ ¬ O w.heap.size)
      (fun O pre W => ∃ c, Ix c (X O) pre W ∧ W.heap[w.heap.size + 1]? = some (.loop (rec .done (some c))) ∧ W.heap[w.heap.size]? = some (.deferred (some [])) ∧ ¬ O (w.heap.size + 1) ∧ ¬ O w.heap.size)
      O₀ W1 (by omega) (hRd W1 hb1) hR0 (hab I .ready (fun _ c => c = none) hI) hAbx ?_ ⟨none, rfl, hI1, hL1, hK1, fun h => absurd (hO₀ _ h) (by omega), fun h => absurd (hO₀ _ h) (by omega)⟩).mono ?_
    · -- ONE ROUND
      rintro O pre x rest W hxs ⟨c0, rfl, hi, hl, hk, n1, n2⟩
      have hlt : w.heap.size + 1 < W.heap.size := (Array.getElem?_eq_some_iff.1 hl).1
      have hy := run_yield (P := P) (args := encs x) hl (by rw [hrec]; exact hps x)
      rw [hrec] at hy
      refine ⟨fn, _, assign, body, hy, roundIn_of_wpIn hfn (hassign _ (X O) pre x W _ hi ?_)⟩
      clear hy
      intro a' Wa hka hia hax
      have hla := (hka.same _ (hXl O) hlt).trans hl
      have hda := (hka.same _ (hXD O) (by omega)).trans hk
      have hlta : w.heap.size + 1 < Wa.heap.size := (Array.getElem?_eq_some_iff.1 hla).1
      refine ⟨_, run_beginRound hla (by rw [hrec]), ?_⟩
      have hl2 : (Wa.putObj (w.heap.size + 1) (.loop { rec .ready none with state := .busy })).heap[w.heap.size + 1]? = some (.loop { rec .ready none with state := .busy }) := World.putObj_heap_same hlta
      have hk2 : (Wa.putObj (w.heap.size + 1) (.loop { rec .ready none with state := .busy })).heap[w.heap.size]? = some (.deferred (some [])) := (World.putObj_heap_other (by omega)).trans hda
      have hs2 : (Wa.putObj (w.heap.size + 1) (.loop { rec .ready none with state := .busy })).heap.size = Wa.heap.size := by simp
      have hkO : Kept O n₀ W (Wa.putObj (w.heap.size + 1) (.loop { rec .ready none with state := .busy })) := (hka.less (hXi O)).trans (kept_putObj _ _ _ n1 (by omega))
      refine wpIn_mono (hbody _ (X O) pre x rest a' _ hxs (hI.putObj _ _ hia (hXl O)) ((hAx x).putObj _ _ hax (hXl O))) ?_
      have fin : ∀ (jump : Option Code) (W3 : World), Kept (X O) n₀ (Wa.putObj (w.heap.size + 1) (.loop { rec .ready none with state := .busy })) W3 →
          (Instr.endRound (w.heap.size + 1) jump).run P W3 = .ok (.bool jump.isNone) (W3.putObj (w.heap.size + 1) (.loop (rec (if jump.isNone then .ready else .done) jump))) ∧
          (W3.putObj (w.heap.size + 1) (.loop (rec (if jump.isNone then .ready else .done) jump))).heap[w.heap.size + 1]? = some (.loop (rec (if jump.isNone then .ready else .done) jump)) ∧
          (W3.putObj (w.heap.size + 1) (.loop (rec (if jump.isNone then .ready else .done) jump))).heap[w.heap.size]? = some (.deferred (some [])) ∧
          Kept O n₀ W (W3.putObj (w.heap.size + 1) (.loop (rec (if jump.isNone then .ready else .done) jump))) := fun jump W3 hk3 => by
        have hl3 := (hk3.same _ (hXl O) (by omega)).trans hl2
        have := run_endRound (P := P) jump hl3
        rw [hrec] at this ⊢
        exact ⟨this, World.putObj_heap_same (Array.getElem?_eq_some_iff.1 hl3).1, (World.putObj_heap_other (by omega)).trans ((hk3.same _ (hXD O) (by omega)).trans hk2), (by rw [hrec] at hkO hk3; exact (hkO.trans (hk3.less (hXi O))).trans (kept_putObj _ _ _ n1 (by omega)))⟩
      rintro e a3 W3 hp
      cases e with
      | normal =>
        obtain ⟨hk3, hi3⟩ := hp
        obtain ⟨hr, hl4, hk4, hkk⟩ := fin none W3 hk3
        exact ⟨_, _, hr, hkk, .inl ⟨rfl, none, rfl, hI.putObj _ _ hi3 (hXl O), hl4, hk4, n1, n2⟩⟩
      | ret =>
        obtain ⟨hk3, hi3⟩ := hp
        obtain ⟨hr, hl4, hk4, hkk⟩ := fin (some .ret) W3 hk3
        exact ⟨_, _, hr, hkk, .inr ⟨rfl, .ret, (hIx _).putObj _ _ hi3 (hXl O), hl4, hk4, n1, n2⟩⟩
      | exit id =>
        obtain ⟨hk3, hi3⟩ := hp
        obtain ⟨hr, hl4, hk4, hkk⟩ := fin (some (.exit id)) W3 hk3
        exact ⟨_, _, hr, hkk, .inr ⟨rfl, .exit id, (hIx _).putObj _ _ hi3 (hXl O), hl4, hk4, n1, n2⟩⟩
      | goto t =>
        obtain ⟨hk3, hi3⟩ := hp
        obtain ⟨hr, hl4, hk4, hkk⟩ := fin (some (.goto t)) W3 hk3
        exact ⟨_, _, hr, hkk, .inr ⟨rfl, .goto t, (hIx _).putObj _ _ hi3 (hXl O), hl4, hk4, n1, n2⟩⟩
      | panic ch => exact hp.elim
      | outgrown => exact hp.elim
    · -- BEHIND THE ITERATOR
      rintro e W2 ⟨⟨v, rfl⟩, O', (⟨c0, rfl, hi, hl, hk, n1, n2⟩ | ⟨pre, x, rest, hxs, c, hi, hl, hk, n1, n2⟩)⟩
      · exact ⟨none, _, by have := run_endLoop (P := P) hl (by rw [hrec]; simp); rw [hrec] at this; exact this, hdone _ _ _ (Nat.le_refl _) (hXD O') (hI.putObj _ _ hi (hXl O')) ((World.putObj_heap_other (by omega)).trans hk)⟩
      · exact ⟨some c, _, by have := run_endLoop (P := P) hl (by rw [hrec]; simp); rw [hrec] at this; exact this, hstop _ _ c pre x rest _ (Nat.le_refl _) (hXD O') hxs ((hIx c).putObj _ _ hi (hXl O')) ((World.putObj_heap_other (by omega)).trans hk)⟩

end Go.Proofs.YtaeiahkomdpcoaaDoor.Seq
end

section
/- merge.Of: its closure hands out the pairs of a row, in order. -/
namespace Go.Proofs.YtaeiahkomdpcoaaDoor.Seq
open Go Go.RowKit Go.Deep

attribute [local go_sem] Oper.semAt_some

theorem block_of_add (a : Addr) (n : Nat) : (a.add n).block = a.block := by unfold Addr.add; split <;> rfl
abbrev Pr := ByteArray × ByteArray
/-- The row of pairs, in a block below n₀. -/
def PrsAt (n₀ : Nat) (w : World) (A : Option Addr) (ps : List Pr) : Prop := ∀ i p, ps[i]? = some p → ∃ ad, A = some ad ∧ ad.block < n₀ ∧ ad.block < w.heap.size ∧ w.cell? (ad.add (i * 2)) = some (.string p.1) ∧ w.cell? (ad.add (i * 2 + 1)) = some (.string p.2)
theorem PrsAt.below {n₀ : Nat} {w w' : World} {A : Option Addr} {ps : List Pr} (h : PrsAt n₀ w A ps) (hb : Below n₀ w w') : PrsAt n₀ w' A ps := fun i s hs => by
  obtain ⟨ad, h0, h1, h2, h3, h4⟩ := h i s hs
  have hk : ∀ n, w'.cell? (ad.add n) = w.cell? (ad.add n) := fun n => World.cell?_of_block (by rw [block_of_add]; exact hb.block _ h1)
  exact ⟨ad, h0, h1, Nat.lt_of_lt_of_le h2 hb.size, (hk _).trans h3, (hk _).trans h4⟩
theorem PrsAt.at_ {n₀ : Nat} {w : World} {A : Option Addr} {ps : List Pr} (h : PrsAt n₀ w A ps) {k : Nat} (hk : k < ps.length) : ∃ ad, A = some ad ∧ ad.block < w.heap.size ∧ w.cell? (ad.add (k * 2)) = some (.string ps[k].1) ∧ w.cell? ⟨(ad.add (k * 2)).block, (ad.add (k * 2)).off + 1, none⟩ = some (.string ps[k].2) := by
  obtain ⟨ad, h0, h1, h2, h3, h4⟩ := h k _ (List.getElem?_eq_getElem hk)
  refine ⟨ad, h0, h2, h3, ?_⟩
  rw [← h4, ← Deep.add_add]; rfl

/-- What merge.Of's closure reads. -/
def OfRd (n₀ B : Nat) (A : Option Addr) (c : Nat) (ps : List Pr) (W : World) : Prop := B < n₀ ∧ W.cell? ⟨B, 0, none⟩ = some (.slice A ps.length c) ∧ PrsAt n₀ W A ps
theorem OfRd.below {n₀ B : Nat} {A : Option Addr} {c : Nat} {ps : List Pr} {W W' : World} (h : OfRd n₀ B A c ps W) (hb : Below n₀ W W') : OfRd n₀ B A c ps W' :=
  ⟨h.1, (hb.cell (p := ⟨B, 0, none⟩) h.1).trans h.2.1, h.2.2.below hb⟩
def encPr (p : Pr) : Array Value := #[.string p.1, .string p.2]

set_option maxRecDepth 100000 in
set_option maxHeartbeats 4000000 in
theorem of_seq (F : Fence) (n : Nat) (hF : F.fn 60) (hro : F.round = none) (hn : 1 ≤ n) (n₀ B : Nat) (A : Option Addr) (c : Nat) (ps : List Pr) (hreach : ps.length ≤ 100000) :
    SeqO F n Tryd.prog 60 #[.pointer (some ⟨B, 0, none⟩)] encPr n₀ (fun _ => False) ps (OfRd n₀ B A c ps) := fun l J Jx O W hW hRd _ hJ hJx hY h0 => by
  have hc0 := hRd.2.1
  refine callsIn_of_wp Tryd.func60 rfl hF ?_ hro
  simp only [Tryd.ntmps60, List.size_toArray, List.length_cons, List.length_nil, Nat.reduceAdd, Nat.reduceSub, Array.replicate_succ, Array.replicate_zero, List.push_toArray, List.append_toArray, List.nil_append, List.cons_append]
  gi_wp2
  gi_loopw [7] (fun i wr => ∃ (k : Nat) (O' : Nat → Prop), k ≤ ps.length ∧ i = .int .i64 k ∧ J O' (ps.take k) wr ∧ OfRd n₀ B A c ps wr ∧ n₀ ≤ wr.heap.size)
    (fun i _ => ps.length - (intOf i).toNat)
  case atStart => exact ⟨0, O, Nat.zero_le _, rfl, h0, hRd, hW⟩
  case round =>
    obtain ⟨k, O', hk, rfl, hJs, hR, hnw⟩ := hrel
    by_cases hlt : k < ps.length
    · obtain ⟨ad, rfl, hbl, hc1, hc2⟩ := hR.2.2.at_ hlt
      have hxs : ps = ps.take k ++ ps[k] :: ps.drop (k + 1) := by rw [← List.drop_eq_getElem_cons hlt, List.take_append_drop]
      have hJ2 := hJ _ _ wr _ hJs (off_of_below (below_one wr (.cells #[.string ps[k].1, .string ps[k].2] 64)))
      obtain ⟨fn, tmps, assign, body, hy, hRd2⟩ := hY _ _ _ _ _ hxs hJ2
      unfold encPr at hy
      have HXS := Lib.hid hxs
      clear hxs
      obtain ⟨x1, q1⟩ : ∃ x, x = ps[k].1 := ⟨_, rfl⟩
      obtain ⟨x2, q2⟩ : ∃ x, x = ps[k].2 := ⟨_, rfl⟩
      rw [← q1] at hc1 hJ2 hy hRd2
      rw [← q2] at hc2 hJ2 hy hRd2
      clear q1 q2
      have HJ2 := Lib.hid hJ2
      clear hJ2 hJs h0 hY
      gi_wp2
      refine hRd2.mono ?_
      rintro e W3 ⟨hk3, (⟨rfl, hJ3⟩ | ⟨rfl, hJx3⟩)⟩
      · have hR3 := (hR.below ((below_one wr (.cells #[.string x1, .string x2] 64)).mono hnw)).below hk3.below
        have hs3 := hk3.below.size
        rw [World.size_alloc] at hs3
        have htk : ps.take k ++ [ps[k]] = ps.take (k + 1) := by rw [List.take_add_one, List.getElem?_eq_getElem hlt]; rfl
        rw [htk] at hJ3
        gi_wp2
        go_roundw
        case rel => exact ⟨k + 1, _, by omega, by simp, hJ3, hR3, by omega⟩
        case measure => simp [intOf]; omega
      · gi_wp2
        refine bodyPost_ret (results_none rfl _ _ _) rfl ?_
        exact ⟨⟨_, rfl⟩, _, .inr ⟨_, _, _, HXS.out, hJx3⟩⟩
    · obtain rfl : k = ps.length := by omega
      gi_wp2
      go_end0
      exact ⟨⟨_, rfl⟩, O', .inl (by rw [List.take_length] at hJs; exact hJs)⟩

end Go.Proofs.YtaeiahkomdpcoaaDoor.Seq
end

section
/- A version of an object: its pair; what name.Decode and cell.Decode answer of it. -/
namespace Go.Proofs.YtaeiahkomdpcoaaDoor.Seq
open Go Go.RowKit

structure Ver where
  bk : ByteArray
  nm : ByteArray
  n : Nat
  tx : ByteArray
  gone : Bool
def Ver.key (v : Ver) : Name.Key := ⟨3, v.bk, v.nm, v.n, 0⟩
def Ver.cel (v : Ver) : Cell.Cel := ⟨3, 0, v.gone, ⟨#[]⟩, if v.gone then Cell.Body.zero else ⟨v.tx.size, v.tx, []⟩⟩
/-- What an item says of its length. -/
def Ver.len (v : Ver) : Int := if v.gone then 0 else (v.tx.size : Int)
structure Ver.Ok (v : Ver) : Prop where
  k : Name.mayB v.key = true
  n : v.n ≤ Name.top
  c : Cell.mayC v.cel
def prOf (v : Ver) : Pr := (Name.bs (Name.encL v.key), Num.bs (Cell.cellW v.cel))
def Ver.item (v : Ver) : Value := .agg #[.string v.nm, .int .u64 (v.n : Int), .int .i64 v.len, .bool v.gone]

theorem Ver.Ok.pr1 {v : Ver} (h : v.Ok) : (prOf v).1.size ≤ 4096 := by
  unfold prOf
  rw [Name.bs_size]
  exact Name.encL_small h.k
theorem cellW_len {c : Cell.Cel} (h : Cell.mayC c) : 1 ≤ (Cell.cellW c).length ∧ (Cell.cellW c).length ≤ 15000 := by
  obtain ⟨_, _, _, h4, h5⟩ := h
  have h6 := Cell.bodyW_len h5
  have h7 := Wire.numsW_len [c.kind]
  have h8 := Wire.numsW_len [c.n]
  have h9 := Wire.textsW_len [c.name.data.toList] 200 (by intro s hs; simp at hs; subst hs; simpa using h4)
  have h10 : ∀ b, (Wire.boolW b).length = 1 := fun _ => rfl
  simp only [List.length_singleton] at h7 h8 h9
  have h11 : 1 ≤ (Wire.numsW [c.kind]).length := by rw [Cell.numsW_one, Num.up_length]; omega
  unfold Cell.cellW
  rw [List.length_append]
  split
  · omega
  · split
    · omega
    · split
      · rw [List.length_append, h10]
        split
        · simp; omega
        · omega
      · omega
theorem Ver.Ok.pr2 {v : Ver} (h : v.Ok) : (prOf v).2.size ≤ 50000 := by
  unfold prOf
  rw [Num.bs_size]
  have := (cellW_len h.c).2
  omega

theorem nameDec {v : Ver} (h : v.Ok) (w : World) (hv : Name.Var0 w) : Calls Tryd.prog 14 #[.string (prOf v).1] w fun e w' => e = .returned (.tuple #[.agg #[.int .u8 3, .string v.bk, .string v.nm, .int .u64 (v.n : Int), .int .i64 0], .int .i64 0]) ∧ Below w.heap.size w w' := by
  refine (Name.decode_calls (prOf v).1 w hv h.pr1).mono ?_
  rintro e w' ⟨rfl, hb⟩
  refine ⟨?_, hb⟩
  rw [show (prOf v).1.data.toList = Name.encL v.key from rfl, Name.dec_enc h.k h.n]
  rfl

theorem cellDec {v : Ver} (h : v.Ok) (w : World) : Calls Tryd.prog 76 #[.string (prOf v).2] w fun e w' => (∃ A cp, e = .returned (.tuple #[.agg #[.int .u8 3, .int .u64 0, .bool v.gone, .string ⟨#[]⟩, .int .i64 v.len, .string v.cel.body.inl, .slice A 0 cp], .int .i64 0])) ∧ Below w.heap.size w w' := by
  refine (Cell.decode_calls (prOf v).2 w h.pr2).mono ?_
  rintro e w' ⟨c, A, cp, E, rfl, _, hc, hb⟩
  have h1 := Cell.cellR_back v.cel [] h.c
  rw [List.append_nil] at h1
  have hd : (prOf v).2.data.toList = Cell.cellW v.cel := rfl
  rw [hd] at hc
  rcases hc with ⟨_, rfl, rfl⟩ | ⟨hno, _⟩
  · refine ⟨⟨A, cp, ?_⟩, hb⟩
    rw [h1]
    unfold Ver.cel Ver.len Cell.cvs
    cases v.gone <;> rfl
  · refine absurd ?_ hno
    unfold Cell.decOk
    rw [h1]
    exact ⟨rfl, h.c, rfl⟩

end Go.Proofs.YtaeiahkomdpcoaaDoor.Seq
end

section
/- The plain law of pages: which names and versions a page has, and that page after page makes the whole. No program in sight. -/
namespace Go.Proofs.YtaeiahkomdpcoaaDoor.Page
open Go Go.Proofs.YtaeiahkomdpcoaaDoor.Seq Go.Proofs.YtaeiahkomdpcoaaDoor.Name

theorem cmpL_trans : ∀ a b c : Bs, cmpL a b < 0 → cmpL b c < 0 → cmpL a c < 0
  | [], [], _, h, _ => by simp [cmpL] at h
  | [], _ :: _, [], _, h => by simp [cmpL] at h
  | [], _ :: _, _ :: _, _, _ => by simp [cmpL]
  | _ :: _, [], _, h, _ => by simp [cmpL] at h
  | _ :: _, _ :: _, [], _, h => by simp [cmpL] at h
  | a :: l, b :: r, c :: t, h1, h2 => by
    have ih := cmpL_trans l r t
    rw [cmpL_cons] at h1 h2 ⊢
    simp only [UInt8.lt_iff_toNat_lt] at h1 h2 ⊢
    split at h1
    · split at h2
      · rw [if_pos (by omega)]; decide
      · split at h2
        · simp at h2
        · rw [if_pos (by omega)]; decide
    · split at h1
      · simp at h1
      · split at h2
        · rw [if_pos (by omega)]; decide
        · split at h2
          · simp at h2
          · rw [if_neg (by omega), if_neg (by omega)]; exact ih h1 h2

/-- The order of texts. -/
def lt (a b : ByteArray) : Bool := Op.bytesLess a.toList b.toList
theorem lt_cmp (a b : ByteArray) : lt a b = decide (cmpL a.data.toList b.data.toList < 0) := less_cmp a b
theorem lt_trans {a b c : ByteArray} (h1 : lt a b = true) (h2 : lt b c = true) : lt a c = true := by
  rw [lt_cmp, decide_eq_true_iff] at *
  exact cmpL_trans _ _ _ h1 h2
theorem lt_irr (a : ByteArray) : lt a a = false := by rw [lt_cmp, cmpL_self]; rfl
theorem lt_not {a b : ByteArray} (h : lt a b = true) : lt b a = false := by
  rw [lt_cmp, decide_eq_true_iff] at h
  rw [lt_cmp, cmpL_neg a.data.toList b.data.toList, decide_eq_false_iff_not]
  omega
theorem lt_tri {a b : ByteArray} (h : lt b a = false) : a = b ∨ lt a b = true := by
  rw [lt_cmp, decide_eq_false_iff_not, cmpL_neg a.data.toList b.data.toList] at h
  rw [lt_cmp, decide_eq_true_iff]
  rcases cmpL_range a.data.toList b.data.toList with h1 | h1 | h1
  · exact .inr (by omega)
  · exact .inl (ba_ext ((cmpL_zero _ _).1 h1))
  · omega
theorem lt_le {a b c : ByteArray} (h1 : lt b a = false) (h2 : lt b c = true) : lt a c = true := by
  rcases lt_tri h1 with rfl | h
  · exact h2
  · exact lt_trans h h2
theorem le_le {a b c : ByteArray} (h1 : lt b a = false) (h2 : lt c b = false) : lt c a = false := by
  rcases lt_tri h1 with rfl | h
  · exact h2
  · rcases lt_tri h2 with rfl | h'
    · exact h1
    · exact lt_not (lt_trans h h')
theorem lt_ne {a b : ByteArray} (h : lt a b = true) : a ≠ b := fun e => by rw [e, lt_irr] at h; cases h
def none' : ByteArray := ⟨#[]⟩
theorem lt_none {a : ByteArray} (h : a ≠ none') : lt none' a = true := by
  rcases lt_tri (a := none') (b := a) (by
    rw [lt_cmp, decide_eq_false_iff_not]
    show ¬ cmpL a.data.toList [] < 0
    cases a.data.toList <;> simp [cmpL]) with h1 | h1
  · exact absurd h1.symm h
  · exact h1

/-- Does a text begin with another one? -/
def pfx (p s : ByteArray) : Bool := p.data.toList.isPrefixOf s.data.toList
/-- A version that a page of names has, behind a version of name 'last'. -/
def okV (p a last : ByteArray) (v : Ver) : Bool := !(decide (v.nm = last)) && !v.gone && lt a v.nm && pfx p v.nm
def sel (p a : ByteArray) : ByteArray → List Ver → List Ver
  | _, [] => []
  | last, v :: vs => (if okV p a last v = true then [v] else []) ++ sel p a v.nm vs
def lastN : ByteArray → List Ver → ByteArray
  | last, [] => last
  | _, v :: vs => lastN v.nm vs
theorem lastN_app : ∀ (l : ByteArray) (xs ys : List Ver), lastN l (xs ++ ys) = lastN (lastN l xs) ys
  | _, [], _ => rfl
  | _, v :: vs, ys => lastN_app v.nm vs ys
theorem lastN_snoc (l : ByteArray) (xs : List Ver) (v : Ver) : lastN l (xs ++ [v]) = v.nm := by rw [lastN_app]; rfl
theorem sel_app (p a : ByteArray) : ∀ (l : ByteArray) (xs ys : List Ver), sel p a l (xs ++ ys) = sel p a l xs ++ sel p a (lastN l xs) ys
  | _, [], _ => rfl
  | l, v :: vs, ys => by
    show _ ++ sel p a v.nm (vs ++ ys) = (_ ++ sel p a v.nm vs) ++ _
    rw [sel_app p a v.nm vs ys, List.append_assoc]
    rfl
theorem sel_snoc (p a l : ByteArray) (xs : List Ver) (v : Ver) : sel p a l (xs ++ [v]) = sel p a l xs ++ (if okV p a (lastN l xs) v = true then [v] else []) := by
  rw [sel_app]
  show _ ++ ((if okV p a (lastN l xs) v = true then [v] else []) ++ []) = _
  rw [List.append_nil]
/-- A page of a row: its first so many; are there more? -/
def cutP (most : Nat) (l : List Ver) : List Ver × Bool := (l.take most, decide (most < l.length))
theorem sel_stop {p a l : ByteArray} {xs pre rest : List Ver} {x : Ver} {most : Nat} (h : xs = pre ++ x :: rest) (hl : (sel p a l pre).length = most) (ho : okV p a (lastN l pre) x = true) :
    cutP most (sel p a l xs) = (sel p a l pre, true) := by
  subst h
  have : sel p a l (pre ++ x :: rest) = sel p a l pre ++ x :: sel p a x.nm rest := by
    rw [sel_app]
    show _ ++ ((if okV p a (lastN l pre) x = true then [x] else []) ++ _) = _
    rw [if_pos ho]
    rfl
  unfold cutP
  rw [this, ← hl, List.take_left']
  · simp
  · rfl
theorem cut_all {most : Nat} {l : List Ver} (h : l.length ≤ most) : cutP most l = (l, false) := by
  unfold cutP
  rw [List.take_of_length_le h]
  simp; omega

/-- The versions of a name that a page has. -/
def selV (nm : ByteArray) (aft : Nat) (vs : List Ver) : List Ver := vs.filter fun v => decide (v.nm = nm) && (decide (aft = 0) || decide (v.n < aft))
theorem selV_snoc (nm : ByteArray) (aft : Nat) (xs : List Ver) (v : Ver) : selV nm aft (xs ++ [v]) = selV nm aft xs ++ (if (decide (v.nm = nm) && (decide (aft = 0) || decide (v.n < aft))) = true then [v] else []) := by
  unfold selV
  rw [List.filter_append, List.filter_cons, List.filter_nil]
theorem selV_stop {nm : ByteArray} {aft : Nat} {xs pre rest : List Ver} {x : Ver} {most : Nat} (h : xs = pre ++ x :: rest) (hl : (selV nm aft pre).length = most) (ho : (decide (x.nm = nm) && (decide (aft = 0) || decide (x.n < aft))) = true) :
    cutP most (selV nm aft xs) = (selV nm aft pre, true) := by
  subst h
  have : selV nm aft (pre ++ x :: rest) = selV nm aft pre ++ x :: selV nm aft rest := by
    unfold selV
    rw [List.filter_append, List.filter_cons, if_pos ho]
  unfold cutP
  rw [this, ← hl, List.take_left']
  · simp
  · rfl

theorem sel_mem {p a : ByteArray} {v : Ver} : ∀ {l : ByteArray} {vs : List Ver}, v ∈ sel p a l vs → v ∈ vs ∧ v.gone = false ∧ lt a v.nm = true
  | _, [], h => by simp [sel] at h
  | l, u :: us, h => by
    unfold sel at h
    rcases List.mem_append.1 h with h | h
    · split at h
      · rename_i ho
        rw [List.mem_singleton] at h
        subst h
        unfold okV at ho
        simp only [Bool.and_eq_true, Bool.not_eq_true'] at ho
        exact ⟨List.mem_cons_self, ho.1.1.2, ho.1.2⟩
      · simp at h
    · obtain ⟨h1, h2⟩ := sel_mem h
      exact ⟨List.mem_cons_of_mem _ h1, h2⟩
/-- In the order of names. -/
def Srt (vs : List Ver) : Prop := vs.Pairwise fun a b => lt b.nm a.nm = false
theorem sel_inc {p a : ByteArray} : ∀ {l : ByteArray} {vs : List Ver}, Srt vs → (∀ v ∈ vs, lt v.nm l = false) → (sel p a l vs).Pairwise (fun u v => lt u.nm v.nm = true) ∧ ∀ v ∈ sel p a l vs, lt l v.nm = true
  | _, [], _, _ => ⟨.nil, fun _ h => by simp [sel] at h⟩
  | l, u :: us, hs, hl => by
    obtain ⟨h1, h2⟩ := List.pairwise_cons.1 hs
    obtain ⟨i1, i2⟩ := sel_inc (p := p) (a := a) (l := u.nm) h2 h1
    have hu := hl u List.mem_cons_self
    have i3 : ∀ v ∈ sel p a u.nm us, lt l v.nm = true := fun v hv => lt_le hu (i2 v hv)
    unfold sel
    split
    · rename_i ho
      refine ⟨List.pairwise_cons.2 ⟨i2, i1⟩, fun v hv => ?_⟩
      rcases List.mem_cons.1 hv with rfl | hv
      · unfold okV at ho
        simp only [Bool.and_eq_true, Bool.not_eq_true', decide_eq_false_iff_not] at ho
        rcases lt_tri hu with h | h
        · exact absurd h.symm ho.1.1.1
        · exact h
      · exact i3 v hv
    · exact ⟨i1, i3⟩
theorem okV_after {p a l : ByteArray} {v : Ver} (h : v.nm ≠ none') : okV p a l v = (okV p none' l v && lt a v.nm) := by
  unfold okV
  rw [lt_none h]
  cases decide (v.nm = l) <;> cases v.gone <;> cases lt a v.nm <;> cases pfx p v.nm <;> rfl
theorem sel_after {p a : ByteArray} : ∀ {l : ByteArray} {vs : List Ver}, (∀ v ∈ vs, v.nm ≠ none') → sel p a l vs = (sel p none' l vs).filter fun v => lt a v.nm
  | _, [], _ => rfl
  | l, u :: us, h => by
    unfold sel
    rw [List.filter_append, ← sel_after (fun v hv => h v (List.mem_cons_of_mem _ hv)), okV_after (h u List.mem_cons_self)]
    cases okV p none' l u <;> cases hh : lt a u.nm <;> simp [hh]
theorem drop_inc : ∀ {S : List Ver} {j : Nat} {v : Ver}, S.Pairwise (fun u v => lt u.nm v.nm = true) → S[j]? = some v → S.filter (fun u => lt v.nm u.nm) = S.drop (j + 1)
  | [], _, _, _, h => by simp at h
  | u :: us, 0, v, hs, h => by
    obtain rfl : u = v := by simpa using h
    obtain ⟨h1, _⟩ := List.pairwise_cons.1 hs
    rw [List.filter_cons, if_neg (by simp [lt_irr]), List.filter_eq_self.2 h1]
    rfl
  | u :: us, j + 1, v, hs, h => by
    obtain ⟨h1, h2⟩ := List.pairwise_cons.1 hs
    have h' : us[j]? = some v := by simpa using h
    rw [List.filter_cons, if_neg (by simp [lt_not (h1 v (List.mem_of_getElem? h'))]), drop_inc h2 h']
    rfl
/-- The page behind the first j + 1 names of the whole. -/
theorem sel_next {p : ByteArray} {vs : List Ver} (hs : Srt vs) (hn : ∀ v ∈ vs, v.nm ≠ none') {j : Nat} {v : Ver} (h : (sel p none' none' vs)[j]? = some v) : sel p v.nm none' vs = (sel p none' none' vs).drop (j + 1) := by
  rw [sel_after hn, drop_inc (sel_inc hs fun v hv => lt_not (lt_none (hn v hv))).1 h]
theorem sel_first {p a : ByteArray} {v : Ver} : ∀ {l : ByteArray} {vs : List Ver}, Srt vs → (∀ v ∈ vs, lt v.nm l = false) → v ∈ sel p a l vs → ∃ r, vs.filter (fun u => decide (u.nm = v.nm)) = v :: r
  | _, [], _, _, h => by simp [sel] at h
  | l, u :: us, hs, hl, h => by
    obtain ⟨h1, h2⟩ := List.pairwise_cons.1 hs
    have hi := (sel_inc (p := p) (a := a) (l := u.nm) h2 h1).2
    unfold sel at h
    rcases List.mem_append.1 h with h | h
    · split at h
      · rw [List.mem_singleton] at h
        subst h
        exact ⟨_, by rw [List.filter_cons, if_pos (by simp)]⟩
      · simp at h
    · have hv := hi v h
      obtain ⟨r, hr⟩ := sel_first h2 h1 h
      exact ⟨r, by rw [List.filter_cons, if_neg (by simpa using lt_ne hv), hr]⟩
/-- The newest version of a name that a page has is the one that stands first among that name's. -/
theorem selV_first {p : ByteArray} {vs : List Ver} (hs : Srt vs) (hn : ∀ v ∈ vs, v.nm ≠ none') {v : Ver} (h : v ∈ sel p none' none' vs) : (cutP 1 (selV v.nm 0 vs)).1 = [v] := by
  obtain ⟨r, hr⟩ := sel_first hs (fun v hv => lt_not (lt_none (hn v hv))) h
  unfold cutP selV
  rw [show (fun u : Ver => decide (u.nm = v.nm) && (decide (0 = 0) || decide (u.n < 0))) = fun u => decide (u.nm = v.nm) from funext fun u => by simp, hr]
  rfl

end Go.Proofs.YtaeiahkomdpcoaaDoor.Page
end

section
/- Channels in one goroutine, for the walk: a region whose operations communicate. -/
namespace Go.Proofs.YtaeiahkomdpcoaaDoor.Chan
open Go Go.RowKit Go.Conc

section
variable {P : Program} {b : Frame} {a : Act} {k : List Item} {cs : List Frame} {w w' w1 : World} {ops : Array Oper} {i : Nat} {rest : List Nat} {o : Oper} {Q : Exit → Act → World → Prop}

theorem comm_step {cases : Array CommCase} {blocking : Bool} {shape : CommShape} (ho : ops[i]? = some o) (hw : Region.wanted o (yielded ops a.tmps) = true) (hr : (execOp a.eval o).run P w = .ok (.comm cases blocking shape) w') :
    ∃ es, stepG P true (G (b.at a (.inRegion ops (i :: rest) :: k)) cs) w = .comm (G (b.at a (.inRegion ops (i :: rest) :: k)) cs) cases blocking shape w' es := by
  rw [stepG_oper ho hw]
  simp only [stepG.apply, Sem.runT_eq, hr, if_true, GStep.after, G]
  exact ⟨_, rfl⟩

/-- The rest of a region. -/
def To (P : Program) (ops : Array Oper) (Q : Exit → Act → World → Prop) (l : List Nat) (a : Act) (w : World) : Prop :=
  ∀ (b : Frame) (k : List Item) (cs : List Frame), ∃ e a' w', Q e a' w' ∧ Arrives P (lone (b.at a (.inRegion ops l :: k)) cs w) b k cs e a' w'
theorem To.of_ops {l : List Nat} (h : wpOps P ops Q l a w) : To P ops Q l a w := fun b k cs => wp_ops l a w h b k cs
theorem wp_region_to {id : Nat} (h : To P ops Q (List.range ops.size) a w) : (Code.region id ops false).wp P Q a w :=
  fun b k cs => let ⟨e, a', w', q, r⟩ := h b k cs; ⟨e, a', w', q, .of_steps (.one step_region) r⟩
theorem To.step {v : Value} (ho : ops[i]? = some o)
    (hs : ∀ (b : Frame) (k : List Item) (cs : List Frame), step P (solo (G (b.at a (.inRegion ops (i :: rest) :: k)) cs) w) = .next (solo (G ((b.at a (.inRegion ops (i :: rest) :: k)).finish v) cs) w1))
    (h : To P ops Q rest (a.put o.dst v) w1) : To P ops Q (i :: rest) a w := fun b k cs => by
  obtain ⟨e, a', w', q, r⟩ := h b k cs
  have hfin : (b.at a (.inRegion ops (i :: rest) :: k)).finish v = b.at (a.put o.dst v) (.inRegion ops rest :: k) := by rw [Frame.finish_at, ho]; rfl
  refine ⟨e, a', w', q, .of_steps (.one ?_) r⟩
  have := hs b k cs
  rw [hfin] at this
  exact this
theorem To.value {v : Value} (ho : ops[i]? = some o) (hw : Region.wanted o (yielded ops a.tmps) = true) (hr : (execOp a.eval o).run P w = .ok (.value v) w1) (h : To P ops Q rest (a.put o.dst v) w1) : To P ops Q (i :: rest) a w :=
  .step ho (fun b k cs => by
    rw [← lone_eq_solo, ← lone_eq_solo]
    refine step_lone_go ?_
    rw [stepG_op ho hw]
    simp [stepG.apply, hr]) h
section
variable {c cap s r : Nat} {buf : Array Value} {z z' v : Value} {closed tm : Bool}
/-- A receive from a buffer that holds something. -/
theorem To.recv (ok : Bool) (ho : ops[i]? = some o) (hw : Region.wanted o (yielded ops a.tmps) = true) (hr : (execOp a.eval o).run P w = .ok (.comm #[rcase c z] true (.recv ok)) w) (hc : w.heap[c]? = some (.chan cap buf closed s r tm)) (hsome : 0 < buf.size)
    (h : To P ops Q rest (a.put o.dst (got ok (buf.getD 0 undef) true)) (w.setChan c cap (buf.extract 1 buf.size) closed s (r + 1) tm)) : To P ops Q (i :: rest) a w :=
  .step ho (fun _ _ _ => (comm_step ho hw hr).elim fun _ he => step_lone_recv_buf ok he hc hsome) h
/-- A receive from a closed channel that is empty. -/
theorem To.shut (ok : Bool) (ho : ops[i]? = some o) (hw : Region.wanted o (yielded ops a.tmps) = true) (hr : (execOp a.eval o).run P w = .ok (.comm #[rcase c z] true (.recv ok)) w) (hc : w.heap[c]? = some (.chan cap #[] true s r tm))
    (h : To P ops Q rest (a.put o.dst (got ok z false)) w) : To P ops Q (i :: rest) a w :=
  .step ho (fun _ _ _ => (comm_step ho hw hr).elim fun _ he => step_lone_recv_shut ok he hc) h
/-- A select of one send with a default: there is room. -/
theorem To.room (ho : ops[i]? = some o) (hw : Region.wanted o (yielded ops a.tmps) = true) (hr : (execOp a.eval o).run P w = .ok (.comm #[scase c v z'] false .select) w) (hc : w.heap[c]? = some (.chan cap buf false s r tm)) (hroom : buf.size < cap)
    (h : To P ops Q rest (a.put o.dst (.tuple #[goInt 0, .bool false])) (w.setChan c cap (buf.push v) false (s + 1) r tm)) : To P ops Q (i :: rest) a w :=
  .step ho (fun _ _ _ => (comm_step ho hw hr).elim fun _ he => step_lone_select_send_room he hc hroom) h
/-- There is none. -/
theorem To.full (ho : ops[i]? = some o) (hw : Region.wanted o (yielded ops a.tmps) = true) (hr : (execOp a.eval o).run P w = .ok (.comm #[scase c v z'] false .select) w) (hc : w.heap[c]? = some (.chan cap buf false s r tm)) (hfull : cap ≤ buf.size)
    (h : To P ops Q rest (a.put o.dst (.tuple #[goInt (-1), .bool false])) w) : To P ops Q (i :: rest) a w :=
  .step ho (fun _ _ _ => (comm_step ho hw hr).elim fun _ he => step_lone_select_send_full he hc hfull) h

theorem To.of_list {l : List Oper} (h : wpList P (o :: l).toArray Q l a w) : To P (o :: l).toArray Q (List.range' 1 l.length) a w :=
  .of_ops (by
    rw [wpOps_eq_wpList l 1 (fun j => by simp [Nat.add_comm 1 j])]
    exact h)
theorem wp_region_first {id : Nat} {l : List Oper} (h : To P (o :: l).toArray Q (0 :: List.range' 1 l.length) a w) : (Code.region id (o :: l).toArray false).wp P Q a w :=
  wp_region_to (by
    have : List.range (o :: l).toArray.size = 0 :: List.range' 1 l.length := by
      rw [List.range_eq_range']
      simp [List.range'_succ]
    rw [this]
    exact h)
theorem wanted_none (hg : o.guard = none) : Region.wanted o (yielded ops a.tmps) = true := by simp [Region.wanted, hg]
variable {id : Nat} {l : List Oper}
theorem wp_recv (ok : Bool) (hg : o.guard = none) (hr : (execOp a.eval o).run P w = .ok (.comm #[rcase c z] true (.recv ok)) w) (hc : w.heap[c]? = some (.chan cap buf closed s r tm)) (hsome : 0 < buf.size)
    (h : wpList P (o :: l).toArray Q l (a.put o.dst (got ok (buf.getD 0 undef) true)) (w.setChan c cap (buf.extract 1 buf.size) closed s (r + 1) tm)) : (Code.region id (o :: l).toArray false).wp P Q a w :=
  wp_region_first (.recv ok rfl (wanted_none hg) hr hc hsome (.of_list h))
theorem wp_shut (ok : Bool) (hg : o.guard = none) (hr : (execOp a.eval o).run P w = .ok (.comm #[rcase c z] true (.recv ok)) w) (hc : w.heap[c]? = some (.chan cap #[] true s r tm))
    (h : wpList P (o :: l).toArray Q l (a.put o.dst (got ok z false)) w) : (Code.region id (o :: l).toArray false).wp P Q a w :=
  wp_region_first (.shut ok rfl (wanted_none hg) hr hc (.of_list h))
theorem wp_room (hg : o.guard = none) (hr : (execOp a.eval o).run P w = .ok (.comm #[scase c v z'] false .select) w) (hc : w.heap[c]? = some (.chan cap buf false s r tm)) (hroom : buf.size < cap)
    (h : wpList P (o :: l).toArray Q l (a.put o.dst (.tuple #[goInt 0, .bool false])) (w.setChan c cap (buf.push v) false (s + 1) r tm)) : (Code.region id (o :: l).toArray false).wp P Q a w :=
  wp_region_first (.room rfl (wanted_none hg) hr hc hroom (.of_list h))
theorem wp_full (hg : o.guard = none) (hr : (execOp a.eval o).run P w = .ok (.comm #[scase c v z'] false .select) w) (hc : w.heap[c]? = some (.chan cap buf false s r tm)) (hfull : cap ≤ buf.size)
    (h : wpList P (o :: l).toArray Q l (a.put o.dst (.tuple #[goInt (-1), .bool false])) w) : (Code.region id (o :: l).toArray false).wp P Q a w :=
  wp_region_first (.full rfl (wanted_none hg) hr hc hfull (.of_list h))
end
end

end Go.Proofs.YtaeiahkomdpcoaaDoor.Chan
end
