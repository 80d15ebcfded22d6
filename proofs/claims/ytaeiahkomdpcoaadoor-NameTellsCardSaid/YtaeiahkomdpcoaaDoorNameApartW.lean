/- The walk of hoardlaw13.NameApart. -/
import Derived.Test.YtaeiahkomdpcoaaDoorNameEq
import Derived.Deep.RegionHeld3
namespace Go.Proofs.YtaeiahkomdpcoaaDoor.Name
open Go.RowKit Go.Shelf

theorem enc_cases (k : Key) : ∃ (T : ByteArray) (E : Int), encR k = .tuple #[.string T, .int .i64 E] ∧ ((E = 2 ∧ mayB k = false) ∨ (E = 0 ∧ mayB k = true ∧ T = bs (encL k))) := by
  unfold encR
  cases h : mayB k
  · exact ⟨_, _, if_neg (by simp), .inl ⟨rfl, rfl⟩⟩
  · exact ⟨_, _, if_pos rfl, .inr ⟨rfl, rfl, rfl⟩⟩
theorem encL_length (k : Key) (h : k.bucket.size ≤ 4096 ∧ k.name.size ≤ 4096) : (encL k).length ≤ 20000 := by
  have h1 := esc_length k.name.data.toList
  rw [size_list] at h1
  have h2 : (k.bucket.data.toList).length = k.bucket.size := size_list _
  have p1 : (if hasB k.kind = true then k.bucket.data.toList ++ [0] else []).length ≤ k.bucket.size + 1 := by
    split
    · rw [List.length_append, h2]; exact Nat.le_refl _
    · exact Nat.zero_le _
  have p2 : (if k.kind = 3 then esc k.name.data.toList ++ [0, 1] ++ be 8 (top - k.n) else if hasN k.kind = true then be 8 k.n else []).length ≤ 2 * k.name.size + 10 := by
    split
    · rw [List.length_append, List.length_append, be_length]; simp only [List.length_cons, List.length_nil]; omega
    · split
      · rw [be_length]; omega
      · exact Nat.zero_le _
  have p3 : (if k.kind = 5 then be 2 k.part.toNat else []).length ≤ 2 := by
    split
    · rw [be_length]; exact Nat.le_refl _
    · exact Nat.zero_le _
  unfold encL
  rw [List.length_cons, List.length_append, List.length_append]
  omega
/-- Neither's bytes begin the other's. -/
theorem not_pre {x y : Bs} (h1 : ¬ x <+: y) (h2 : ¬ y <+: x) (n : Nat) (hn : n = min x.length y.length) : ((bs x).extract 0 n).toList ≠ ((bs y).extract 0 n).toList := by
  intro e
  rw [ByteArray.toList_eq, ByteArray.toList_eq, Lib.extract_data, Lib.extract_data] at e
  have e2 : x.take n = y.take n := e
  rcases Nat.le_total x.length y.length with hl | hl
  · rw [hn, Nat.min_eq_left hl, List.take_length] at e2
    exact h1 (by rw [e2]; exact List.take_prefix _ _)
  · rw [hn, Nat.min_eq_right hl, List.take_length] at e2
    exact h2 (by rw [← e2]; exact List.take_prefix _ _)

set_option maxHeartbeats 1000000 in
set_option maxRecDepth 100000 in
theorem apart_calls (a b : Key) (w : World) (hv : Var0 w) (ha : a.bucket.size ≤ maxLen ∧ a.name.size ≤ maxLen ∧ a.kind < 256 ∧ a.n ≤ top) (hb : b.bucket.size ≤ maxLen ∧ b.name.size ≤ maxLen ∧ b.kind < 256 ∧ b.n ≤ top) :
    Calls Tryd.prog 3 #[a.val, b.val] w fun e w' => e = .returned (.bool true) ∧ Below w.heap.size w w' := by
  obtain ⟨ak, ab, an, ann, ap⟩ := a
  obtain ⟨bk, bb, bn, bnn, bp⟩ := b
  unfold Key.val
  simp only at ha hb ⊢
  unfold maxLen at ha hb
  have hK0 : KeyAt ((w.alloc (.cells (Key.mk ak ab an ann ap).cells 24)).alloc (.cells (Key.mk bk bb bn bnn bp).cells 24)) w.heap.size ⟨ak, ab, an, ann, ap⟩ := KeyAt.below (w := w.alloc (.cells (Key.mk ak ab an ann ap).cells 24)) (MapKept.heap_alloc w _).1 (below_one _ _)
  have hK1 : KeyAt ((w.alloc (.cells (Key.mk ak ab an ann ap).cells 24)).alloc (.cells (Key.mk bk bb bn bnn bp).cells 24)) (w.heap.size + 1) ⟨bk, bb, bn, bnn, bp⟩ := by
    have := (MapKept.heap_alloc (w.alloc (.cells (Key.mk ak ab an ann ap).cells 24)) (.cells (Key.mk bk bb bn bnn bp).cells 24)).1
    rw [show (w.alloc (.cells (Key.mk ak ab an ann ap).cells 24)).heap.size = w.heap.size + 1 by simp] at this
    exact this
  have hv1 := (hv.below (below_one w (.cells (Key.mk ak ab an ann ap).cells 24))).below (below_one _ (.cells (Key.mk bk bb bn bnn bp).cells 24))
  have b1 := below_alloc (below_one w (.cells (Key.mk ak ab an ann ap).cells 24)) (.cells (Key.mk bk bb bn bnn bp).cells 24)
  have HL : Hid (∀ (W : World) (g : Nat), W.heap.size = g → Calls Tryd.prog 9 #[.slice (some ⟨g, 0, none⟩) 4 4] (W.alloc (.cells #[.string ab, .string an, .string bb, .string bn] 9)) (LongR [ab, an, bb, bn] (W.alloc (.cells #[.string ab, .string an, .string bb, .string bn] 9)))) := fun W g hg => by
    subst hg
    exact long_calls (some ⟨W.heap.size, 0, none⟩) 4 [ab, an, bb, bn] _ (listAt_lit W [.string ab, .string an, .string bb, .string bn] 9) (by simp) (by
    intro s hs
    simp at hs
    rcases hs with rfl | rfl | rfl | rfl <;> omega)
  go_enter Tryd.func3, Tryd.ntmps3
  go_wp2_with fail
  refine (HL.out _ _ (by simp)).mono ?_
  rintro e w2 ⟨lb, rfl, hlb, rfl⟩
  have hA0 := hK0.below (below_one _ (.cells #[.string ab, .string an, .string bb, .string bn] 9))
  have hA1 := hK1.below (below_one _ (.cells #[.string ab, .string an, .string bb, .string bn] 9))
  have hv2 := hv1.below (below_one _ (.cells #[.string ab, .string an, .string bb, .string bn] 9))
  have b2 := below_alloc b1 (.cells #[.string ab, .string an, .string bb, .string bn] 9)
  clear hK0 hK1 hv1 b1 HL
  cases lb
  · have hz := hlb rfl
    have z1 := hz ab (by simp)
    have z2 := hz an (by simp)
    have z3 := hz bb (by simp)
    have z4 := hz bn (by simp)
    have HA := Lib.hid (fun W (h : Var0 W) => encode_calls ⟨ak, ab, an, ann, ap⟩ W h ⟨by show ab.size ≤ 4096; omega, by show an.size ≤ 4096; omega, ha.2.2.1, ha.2.2.2⟩)
    have HB := Lib.hid (fun W (h : Var0 W) => encode_calls ⟨bk, bb, bn, bnn, bp⟩ W h ⟨by show bb.size ≤ 4096; omega, by show bn.size ≤ 4096; omega, hb.2.2.1, hb.2.2.2⟩)
    have hla := encL_length ⟨ak, ab, an, ann, ap⟩ ⟨by show ab.size ≤ 4096; omega, by show an.size ≤ 4096; omega⟩
    have hlbb := encL_length ⟨bk, bb, bn, bnn, bp⟩ ⟨by show bb.size ≤ 4096; omega, by show bn.size ≤ 4096; omega⟩
    obtain ⟨T1, E1, hE1, hc1⟩ := enc_cases ⟨ak, ab, an, ann, ap⟩
    obtain ⟨T2, E2, hE2, hc2⟩ := enc_cases ⟨bk, bb, bn, bnn, bp⟩
    rw [hE1] at HA
    rw [hE2] at HB
    have hEq := fun W => eq_run ak ab an ann ap bk bb bn bnn bp W
    clear hlb hz hE1 hE2
    have HAN := Lib.hid ha.2.2.2
    have HBN := Lib.hid hb.2.2.2
    clear ha hb
    rcases hc1 with ⟨rfl, _⟩ | ⟨rfl, hm1, hT1⟩
    · rcases hc2 with ⟨rfl, _⟩ | ⟨rfl, _, _⟩
      · clear hla hlbb
        go_wp2_with fail
        refine (HA.out _ hv2).mono ?_
        rintro e w3 ⟨rfl, hb3⟩
        have hB0 := hA0.below hb3
        have hB1 := hA1.below hb3
        have hv3 := hv2.below hb3
        have b3 := below_of b2 hb3
        obtain ⟨p0, p1, p2, p3, p4⟩ := hB1.c
        clear hA0 hA1 hv2 b2 hb3 HA
        go_wp2_with fail
        refine (HB.out _ hv3).mono ?_
        rintro e w4 ⟨rfl, hb4⟩
        have hC0 := hB0.below hb4
        have hC1 := hB1.below hb4
        have hv4 := hv3.below hb4
        have b4 := below_of b3 hb4
        clear p0 p1 p2 p3 p4 hB0 hB1 hv3 b3 hb4 HB
        obtain ⟨p0, p1, p2, p3, p4⟩ := hC0.c
        obtain ⟨q0, q1, q2, q3, q4⟩ := hC1.c
        go_wp2_with fail
        refine (works_calls _ hv4).mono ?_
        rintro e w5 ⟨rfl, hb5⟩
        go_wp2
        go_ret
        exact ⟨rfl, below_of b4 hb5⟩
      · clear hla hlbb
        go_wp2_with fail
        refine (HA.out _ hv2).mono ?_
        rintro e w3 ⟨rfl, hb3⟩
        have hB0 := hA0.below hb3
        have hB1 := hA1.below hb3
        have hv3 := hv2.below hb3
        have b3 := below_of b2 hb3
        obtain ⟨p0, p1, p2, p3, p4⟩ := hB1.c
        clear hA0 hA1 hv2 b2 hb3 HA
        go_wp2_with fail
        refine (HB.out _ hv3).mono ?_
        rintro e w4 ⟨rfl, hb4⟩
        have hC0 := hB0.below hb4
        have hC1 := hB1.below hb4
        have hv4 := hv3.below hb4
        have b4 := below_of b3 hb4
        clear p0 p1 p2 p3 p4 hB0 hB1 hv3 b3 hb4 HB
        obtain ⟨p0, p1, p2, p3, p4⟩ := hC0.c
        obtain ⟨q0, q1, q2, q3, q4⟩ := hC1.c
        go_wp2_with fail
        refine (works_calls _ hv4).mono ?_
        rintro e w5 ⟨rfl, hb5⟩
        go_wp2
        go_ret
        exact ⟨rfl, below_of b4 hb5⟩
    · rcases hc2 with ⟨rfl, _⟩ | ⟨rfl, hm2, hT2⟩
      · clear hla hlbb hT1
        go_wp2_with fail
        refine (HA.out _ hv2).mono ?_
        rintro e w3 ⟨rfl, hb3⟩
        have hB0 := hA0.below hb3
        have hB1 := hA1.below hb3
        have hv3 := hv2.below hb3
        have b3 := below_of b2 hb3
        obtain ⟨p0, p1, p2, p3, p4⟩ := hB1.c
        clear hA0 hA1 hv2 b2 hb3 HA
        go_wp2_with fail
        refine (HB.out _ hv3).mono ?_
        rintro e w4 ⟨rfl, hb4⟩
        have hC0 := hB0.below hb4
        have hC1 := hB1.below hb4
        have hv4 := hv3.below hb4
        have b4 := below_of b3 hb4
        clear p0 p1 p2 p3 p4 hB0 hB1 hv3 b3 hb4 HB
        obtain ⟨p0, p1, p2, p3, p4⟩ := hC0.c
        obtain ⟨q0, q1, q2, q3, q4⟩ := hC1.c
        go_wp2_with fail
        refine (works_calls _ hv4).mono ?_
        rintro e w5 ⟨rfl, hb5⟩
        go_wp2
        go_ret
        exact ⟨rfl, below_of b4 hb5⟩
      · cases hab : eqB ⟨ak, ab, an, ann, ap⟩ ⟨bk, bb, bn, bnn, bp⟩
        · have hne : Key.mk ak ab an ann ap ≠ ⟨bk, bb, bn, bnn, bp⟩ := fun e => by rw [(eqB_iff _ _).2 e] at hab; cases hab
          have hs1 : T1.size ≤ 20000 := by rw [hT1, bs_size]; exact hla
          have hs2 : T2.size ≤ 20000 := by rw [hT2, bs_size]; exact hlbb
          have hdiff : ∀ n, n = min T1.size T2.size → ((T1.extract 0 n).toList != (T2.extract 0 n).toList) = true := fun n hn => by
            rw [hT1, hT2]
            rw [hT1, hT2, bs_size, bs_size] at hn
            rw [bne_iff_ne]
            exact not_pre (fun h => hne (enc_apart hm1 hm2 HAN.out HBN.out h)) (fun h => hne (enc_apart hm2 hm1 HBN.out HAN.out h).symm) n hn
          simp only [hab] at hEq
          clear hT1 hT2 hne hla hlbb hm1 hm2 hab
          rcases Nat.le_total T1.size T2.size with hle | hle
          · have hd := hdiff T1.size (Nat.min_eq_left hle).symm
            have hle2 : (T1.size : Int) ≤ (T2.size : Int) := by omega
            clear hdiff
            have hd3 : (T1.toList == (T2.extract 0 T1.size).toList) = false := by
              have := hd
              rw [show T1.extract 0 T1.size = T1 from by apply ByteArray.ext; simp] at this
              simpa using this
            have hd2 : (T1.toList != (T2.extract 0 T1.size).toList) = true := by
              have := hd
              rwa [show T1.extract 0 T1.size = T1 from by apply ByteArray.ext; simp] at this
            have s1 : T1.size ≤ T2.size := hle
            have s2 : (0 : Int) ≤ (T1.size : Int) := by omega
            have s3 : T1.size ≤ T1.size := Nat.le_refl _
            have hmn : min (T1.size : Int) (T2.size : Int) = (T1.size : Int) := Int.min_eq_left hle2
            have hnl : ¬ (T2.size : Int) < (T1.size : Int) := by omega
            go_wp2_with fail
            refine (HA.out _ hv2).mono ?_
            rintro e w3 ⟨rfl, hb3⟩
            have hB0 := hA0.below hb3
            have hB1 := hA1.below hb3
            have hv3 := hv2.below hb3
            have b3 := below_of b2 hb3
            obtain ⟨p0, p1, p2, p3, p4⟩ := hB1.c
            clear hA0 hA1 hv2 b2 hb3 HA
            go_wp2_with fail
            refine (HB.out _ hv3).mono ?_
            rintro e w4 ⟨rfl, hb4⟩
            have hC0 := hB0.below hb4
            have hC1 := hB1.below hb4
            have hv4 := hv3.below hb4
            have b4 := below_of b3 hb4
            clear p0 p1 p2 p3 p4 hB0 hB1 hv3 b3 hb4 HB
            obtain ⟨p0, p1, p2, p3, p4⟩ := hC0.c
            obtain ⟨q0, q1, q2, q3, q4⟩ := hC1.c
            go_wp2_with fail
            refine wp_region_quiet_below (by kernel_rfl) (by kernel_rfl) ?_
            repeat (go_big_quiet_step ((go_at_call 10; exact Calls.regrown_of (works_calls _ (hv4.below (below_regrown _ _ _))))))
            refine wpQuiet_nil ?_
            intro _ hw'
            obtain ⟨⟨dq, osq⟩, hw''⟩ := hw'
            subst hw''
            have hb6 := below_of b4 (below_regrown _ dq osq)
            go_wp2
            go_ret
            exact ⟨rfl, hb6⟩
          · have hd := hdiff T2.size (Nat.min_eq_right hle).symm
            have hle2 : (T2.size : Int) ≤ (T1.size : Int) := by omega
            clear hdiff
            have hd3 : ((T1.extract 0 T2.size).toList == T2.toList) = false := by
              have := hd
              rw [show T2.extract 0 T2.size = T2 from by apply ByteArray.ext; simp] at this
              simpa using this
            have hd2 : ((T1.extract 0 T2.size).toList != T2.toList) = true := by
              have := hd
              rwa [show T2.extract 0 T2.size = T2 from by apply ByteArray.ext; simp] at this
            have s1 : T2.size ≤ T1.size := hle
            have s2 : (0 : Int) ≤ (T2.size : Int) := by omega
            have s3 : T2.size ≤ T2.size := Nat.le_refl _
            have hmn : min (T1.size : Int) (T2.size : Int) = (T2.size : Int) := Int.min_eq_right hle2
            have hnl : ¬ (T1.size : Int) < (T2.size : Int) := by omega
            go_wp2_with fail
            refine (HA.out _ hv2).mono ?_
            rintro e w3 ⟨rfl, hb3⟩
            have hB0 := hA0.below hb3
            have hB1 := hA1.below hb3
            have hv3 := hv2.below hb3
            have b3 := below_of b2 hb3
            obtain ⟨p0, p1, p2, p3, p4⟩ := hB1.c
            clear hA0 hA1 hv2 b2 hb3 HA
            go_wp2_with fail
            refine (HB.out _ hv3).mono ?_
            rintro e w4 ⟨rfl, hb4⟩
            have hC0 := hB0.below hb4
            have hC1 := hB1.below hb4
            have hv4 := hv3.below hb4
            have b4 := below_of b3 hb4
            clear p0 p1 p2 p3 p4 hB0 hB1 hv3 b3 hb4 HB
            obtain ⟨p0, p1, p2, p3, p4⟩ := hC0.c
            obtain ⟨q0, q1, q2, q3, q4⟩ := hC1.c
            go_wp2_with fail
            refine wp_region_quiet_below (by kernel_rfl) (by kernel_rfl) ?_
            repeat (go_big_quiet_step ((go_at_call 10; exact Calls.regrown_of (works_calls _ (hv4.below (below_regrown _ _ _))))))
            refine wpQuiet_nil ?_
            intro _ hw'
            obtain ⟨⟨dq, osq⟩, hw''⟩ := hw'
            subst hw''
            have hb6 := below_of b4 (below_regrown _ dq osq)
            go_wp2
            go_ret
            exact ⟨rfl, hb6⟩
        · simp only [hab] at hEq
          clear hla hlbb hT1 hT2 hm1 hm2 hab
          go_wp2_with fail
          refine (HA.out _ hv2).mono ?_
          rintro e w3 ⟨rfl, hb3⟩
          have hB0 := hA0.below hb3
          have hB1 := hA1.below hb3
          have hv3 := hv2.below hb3
          have b3 := below_of b2 hb3
          obtain ⟨p0, p1, p2, p3, p4⟩ := hB1.c
          clear hA0 hA1 hv2 b2 hb3 HA
          go_wp2_with fail
          refine (HB.out _ hv3).mono ?_
          rintro e w4 ⟨rfl, hb4⟩
          have hC0 := hB0.below hb4
          have hC1 := hB1.below hb4
          have hv4 := hv3.below hb4
          have b4 := below_of b3 hb4
          clear p0 p1 p2 p3 p4 hB0 hB1 hv3 b3 hb4 HB
          obtain ⟨p0, p1, p2, p3, p4⟩ := hC0.c
          obtain ⟨q0, q1, q2, q3, q4⟩ := hC1.c
          go_wp2_with fail
          refine (works_calls _ hv4).mono ?_
          rintro e w5 ⟨rfl, hb5⟩
          go_wp2
          go_ret
          exact ⟨rfl, below_of b4 hb5⟩
  · go_wp2_with fail
    refine (works_calls _ hv2).mono ?_
    rintro e w3 ⟨rfl, hb3⟩
    go_wp2
    go_ret
    exact ⟨rfl, below_of b2 hb3⟩

end Go.Proofs.YtaeiahkomdpcoaaDoor.Name
