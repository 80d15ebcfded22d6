/- The walk of hoardlaw13.NameOrder. -/
import Derived.Test.YtaeiahkomdpcoaaDoorNameCmp
import Derived.Test.YtaeiahkomdpcoaaDoorNameDecW
import Derived.Test.YtaeiahkomdpcoaaDoorNameApartW
namespace Go.Proofs.YtaeiahkomdpcoaaDoor.Name
open Go.RowKit Go.Shelf

/-- The bytes of a key that may be are few. -/
theorem encL_small {k : Key} (h : mayB k = true) : (encL k).length ≤ 4096 := by
  obtain ⟨_, a1, a2, a3, a4, _⟩ := may_facts h
  have h1 := esc_length k.name.data.toList
  have hb : k.bucket.data.toList.length ≤ 63 := by
    cases hh : hasB k.kind
    · rw [a2 hh]; decide
    · have := a1 hh
      unfold bucketL at this
      simp only [Bool.and_eq_true, decide_eq_true_eq] at this
      exact this.1.1.1.2
  have hn : k.name.data.toList.length ≤ 200 := by
    by_cases h3 : k.kind = 3
    · have := a3 h3
      unfold objectL at this
      simp only [decide_eq_true_eq] at this
      exact this.2
    · rw [a4 h3]; decide
  have h2 := encL_length k ⟨by rw [← size_list]; omega, by rw [← size_list]; omega⟩
  have p1 : (if hasB k.kind = true then k.bucket.data.toList ++ [0] else []).length ≤ 64 := by
    split
    · rw [List.length_append]; simp only [List.length_singleton]; omega
    · exact Nat.zero_le _
  have p2 : (if k.kind = 3 then esc k.name.data.toList ++ [0, 1] ++ be 8 (top - k.n) else if hasN k.kind = true then be 8 k.n else []).length ≤ 410 := by
    split
    · rw [List.length_append, List.length_append, be_length]; simp only [List.length_cons, List.length_nil]; omega
    · split
      · rw [be_length]; omega
      · exact Nat.zero_le _
  have p3 : (if k.kind = 5 then be 2 k.part.toNat else []).length ≤ 2 := by
    split
    · rw [be_length]; exact Nat.le_refl _
    · exact Nat.zero_le _
  unfold encL
  rw [List.length_cons, List.length_append, List.length_append]
  omega

theorem cmpK_range (a b : Key) : cmpK a b = -1 ∨ cmpK a b = 0 ∨ cmpK a b = 1 := by
  have o : ∀ x y : Int, (x = -1 ∨ x = 0 ∨ x = 1) → (y = -1 ∨ y = 0 ∨ y = 1) → (orZ x y = -1 ∨ orZ x y = 0 ∨ orZ x y = 1) := fun x y hx hy => by
    unfold orZ; split
    · exact hy
    · exact hx
  have hN : ∀ x y : Nat, cmpN x y = -1 ∨ cmpN x y = 0 ∨ cmpN x y = 1 := fun x y => by rw [← cmpN_cast]; exact cmpZ_range _ _
  unfold cmpK
  refine o _ _ (hN _ _) (o _ _ (cmpL_range _ _) (o _ _ (cmpL_range _ _) (o _ _ ?_ (cmpZ_range _ _))))
  have := hN a.n b.n
  split
  · omega
  · exact this

/-- Two keys that may be, in the order of their bytes: the three ways. -/
theorem order_ways {a b : Key} (ha : mayB a = true) (hb : mayB b = true) (na : a.n ≤ top) (nb : b.n ≤ top) :
    (cmpK a b = -1 ∧ cmpK b a = 1 ∧ Op.bytesLess (bs (encL a)).toList (bs (encL b)).toList = true ∧ ((bs (encL a)).toList == (bs (encL b)).toList) = false ∧ eqB a b = false) ∨
    (cmpK a b = 0 ∧ cmpK b a = 0 ∧ Op.bytesLess (bs (encL a)).toList (bs (encL b)).toList = false ∧ ((bs (encL a)).toList == (bs (encL b)).toList) = true ∧ eqB a b = true) ∨
    (cmpK a b = 1 ∧ cmpK b a = -1 ∧ Op.bytesLess (bs (encL a)).toList (bs (encL b)).toList = false ∧ ((bs (encL a)).toList == (bs (encL b)).toList) = false ∧ eqB a b = false) := by
  have hc := cmpL_enc ha hb na nb
  have hl := cmpL_less (encL a) (encL b)
  have hz := cmpL_zero (encL a) (encL b)
  have hk := cmpK_zero a b
  have hn := cmpK_neg a b
  rw [hc] at hl hz
  have e1 : (bs (encL a)).toList = encL a := by rw [ByteArray.toList_eq]; rfl
  have e2 : (bs (encL b)).toList = encL b := by rw [ByteArray.toList_eq]; rfl
  rw [e1, e2]
  have hE : ∀ t : Bool, (cmpK a b = 0 ↔ t = true) → ((encL a == encL b) = t ∧ eqB a b = t) := fun t ht => by
    refine ⟨?_, ?_⟩
    · rw [Bool.eq_iff_iff, beq_iff_eq, ← ht, hz]
    · rw [Bool.eq_iff_iff, eqB_iff, ← ht, hk]
  rcases cmpK_range a b with h | h | h
  · have := hE false (by rw [h]; simp)
    rw [h] at hl hn
    exact .inl ⟨h, hn, hl, this.1, this.2⟩
  · have := hE true (by rw [h]; simp)
    rw [h] at hl hn
    exact .inr (.inl ⟨h, hn, hl, this.1, this.2⟩)
  · have := hE false (by rw [h]; simp)
    rw [h] at hl hn
    exact .inr (.inr ⟨h, hn, hl, this.1, this.2⟩)

set_option maxHeartbeats 2000000 in
set_option maxRecDepth 100000 in
theorem order_calls (a b : Key) (w : World) (hv : Var0 w) (ha : a.bucket.size ≤ maxLen ∧ a.name.size ≤ maxLen ∧ a.kind < 256 ∧ a.n ≤ top) (hb : b.bucket.size ≤ maxLen ∧ b.name.size ≤ maxLen ∧ b.kind < 256 ∧ b.n ≤ top) :
    Calls Tryd.prog 5 #[a.val, b.val] w fun e w' => e = .returned (.bool true) ∧ Below w.heap.size w w' := by
  have H1 := Lib.hid (fun W => cmpKey_calls a b W)
  have H2 := Lib.hid (fun W => cmpKey_calls b a W)
  have HD := fun (ha : mayB a = true) (na : a.n ≤ top) => dec_enc ha na
  have HW := fun (ha : mayB a = true) (hb : mayB b = true) (na : a.n ≤ top) (nb : b.n ≤ top) => order_ways ha hb na nb
  have HS := fun (ha : mayB a = true) => encL_small ha
  obtain ⟨ak, ab, an, ann, ap⟩ := a
  obtain ⟨bk, bb, bn, bnn, bp⟩ := b
  unfold Key.val at H1 H2 HD ⊢
  simp only at ha hb H1 H2 HD ⊢
  unfold maxLen at ha hb
  have hK0 : KeyAt ((w.alloc (.cells (Key.mk ak ab an ann ap).cells 24)).alloc (.cells (Key.mk bk bb bn bnn bp).cells 24)) w.heap.size ⟨ak, ab, an, ann, ap⟩ := KeyAt.below (w := w.alloc (.cells (Key.mk ak ab an ann ap).cells 24)) (MapKept.heap_alloc w _).1 (below_one _ _)
  have hK1 : KeyAt ((w.alloc (.cells (Key.mk ak ab an ann ap).cells 24)).alloc (.cells (Key.mk bk bb bn bnn bp).cells 24)) (w.heap.size + 1) ⟨bk, bb, bn, bnn, bp⟩ := by
    have := (MapKept.heap_alloc (w.alloc (.cells (Key.mk ak ab an ann ap).cells 24)) (.cells (Key.mk bk bb bn bnn bp).cells 24)).1
    rw [show (w.alloc (.cells (Key.mk ak ab an ann ap).cells 24)).heap.size = w.heap.size + 1 by simp] at this
    exact this
  have hv1 := (hv.below (below_one w (.cells (Key.mk ak ab an ann ap).cells 24))).below (below_one _ (.cells (Key.mk bk bb bn bnn bp).cells 24))
  have b1 := below_alloc (below_one w (.cells (Key.mk ak ab an ann ap).cells 24)) (.cells (Key.mk bk bb bn bnn bp).cells 24)
  have HL : Hid (∀ (W : World) (g : Nat), W.heap.size = g → Calls Tryd.prog 9 #[.slice (some ⟨g, 0, none⟩) 4 4] (W.alloc (.cells #[.string ab, .string an, .string bb, .string bn] 9)) (LongR [ab, an, bb, bn] (W.alloc (.cells #[.string ab, .string an, .string bb, .string bn] 9)))) := fun W g hg => by
    subst hg
    exact long_calls (some ⟨W.heap.size, 0, none⟩) 4 [ab, an, bb, bn] _ (listAt_lit W [.string ab, .string an, .string bb, .string bn] 9) (by simp) (by
    intro s hs
    simp at hs
    rcases hs with rfl | rfl | rfl | rfl <;> omega)
  have HHD := Lib.hid HD
  have HHW := Lib.hid HW
  have HHS := Lib.hid HS
  clear HD HW HS
  go_enter Tryd.func5, Tryd.ntmps5
  go_wp2_with fail
  refine (HL.out _ _ (by simp)).mono ?_
  rintro e w2 ⟨lb, rfl, hlb, rfl⟩
  have hA0 := hK0.below (below_one _ (.cells #[.string ab, .string an, .string bb, .string bn] 9))
  have hA1 := hK1.below (below_one _ (.cells #[.string ab, .string an, .string bb, .string bn] 9))
  have hv2 := hv1.below (below_one _ (.cells #[.string ab, .string an, .string bb, .string bn] 9))
  have b2 := below_alloc b1 (.cells #[.string ab, .string an, .string bb, .string bn] 9)
  clear hK0 hK1 hv1 b1 HL
  cases lb
  · have hz := hlb rfl
    have z1 := hz ab (by simp)
    have z2 := hz an (by simp)
    have z3 := hz bb (by simp)
    have z4 := hz bn (by simp)
    have HA := Lib.hid (fun W (h : Var0 W) => encode_calls ⟨ak, ab, an, ann, ap⟩ W h ⟨by show ab.size ≤ 4096; omega, by show an.size ≤ 4096; omega, ha.2.2.1, ha.2.2.2⟩)
    have HB := Lib.hid (fun W (h : Var0 W) => encode_calls ⟨bk, bb, bn, bnn, bp⟩ W h ⟨by show bb.size ≤ 4096; omega, by show bn.size ≤ 4096; omega, hb.2.2.1, hb.2.2.2⟩)
    obtain ⟨T1, E1, hE1, hc1⟩ := enc_cases ⟨ak, ab, an, ann, ap⟩
    obtain ⟨T2, E2, hE2, hc2⟩ := enc_cases ⟨bk, bb, bn, bnn, bp⟩
    rw [hE1] at HA
    rw [hE2] at HB
    have HC1 := Lib.hid hc1
    have HC2 := Lib.hid hc2
    have HAN := Lib.hid ha.2.2.2
    have HBN := Lib.hid hb.2.2.2
    have hE10 : E1 = 2 ∨ E1 = 0 := hc1.elim (fun h => .inl h.1) (fun h => .inr h.1)
    have hE20 : E2 = 2 ∨ E2 = 0 := hc2.elim (fun h => .inl h.1) (fun h => .inr h.1)
    have HX := Lib.hid (And.intro hE10 hE20)
    clear hlb hz hE1 hE2 ha hb hc1 hc2 hE10 hE20 z1 z2 z3 z4
    go_wp2_with fail
    refine (HA.out _ hv2).mono ?_
    rintro e w3 ⟨rfl, hb3⟩
    have hB0 := hA0.below hb3
    have hB1 := hA1.below hb3
    have hv3 := hv2.below hb3
    have b3 := below_of b2 hb3
    obtain ⟨p0, p1, p2, p3, p4⟩ := hB1.c
    clear hA0 hA1 hv2 b2 hb3 HA
    go_wp2_with fail
    refine (HB.out _ hv3).mono ?_
    rintro e w4 ⟨rfl, hb4⟩
    have hC0 := hB0.below hb4
    have hC1 := hB1.below hb4
    have hv4 := hv3.below hb4
    have b4 := below_of b3 hb4
    clear p0 p1 p2 p3 p4 hB0 hB1 hv3 b3 hb4 HB
    by_cases hEE : E1 = 0 ∧ E2 = 0
    · obtain ⟨h1, h2⟩ := hEE
      rcases HC1.out with ⟨h3, _⟩ | ⟨_, hm1, hT1⟩
      · exfalso; omega
      rcases HC2.out with ⟨h3, _⟩ | ⟨_, hm2, hT2⟩
      · exfalso; omega
      have hDe := HHD.out hm1 HAN.out
      have hway := HHW.out hm1 hm2 HAN.out HBN.out
      have hsm := HHS.out hm1
      have hT1s : T1.size ≤ 4096 := by rw [hT1, bs_size]; exact hsm
      have hDD : ∀ W, Var0 W → _ := fun W h => decode_calls T1 W h hT1s
      have hTe : T1.data.toList = encL ⟨ak, ab, an, ann, ap⟩ := by rw [hT1]; rfl
      rw [hTe, hDe] at hDD
      have HDD := Lib.hid hDD
      rw [← hT1, ← hT2] at hway
      have hE1 := fun W => eq_run ak ab an ann ap ak ab an ann ap W
      simp only [(eqB_iff ⟨ak, ab, an, ann, ap⟩ ⟨ak, ab, an, ann, ap⟩).2 rfl] at hE1
      have hE2 := fun W => eq_run ak ab an ann ap bk bb bn bnn bp W
      have HE1 := Lib.hid hE1
      have HE2 := Lib.hid hE2
      have HWY := Lib.hid hway
      subst h1 h2
      clear HHD HHW HHS HAN HBN HC1 HC2 HX hDe hway hsm hT1s hDD hTe hE1 hE2 hm1 hm2 hT1 hT2
      go_wp2_with fail
      refine (HDD.out _ hv4).mono ?_
      rintro e w5 ⟨rfl, hb5⟩
      have hD0 := (hC0.below hb5).below (below_one w5 (.cells (Key.mk ak ab an ann ap).cells 24))
      have hD1 := (hC1.below hb5).below (below_one w5 (.cells (Key.mk ak ab an ann ap).cells 24))
      have hv5 := (hv4.below hb5).below (below_one w5 (.cells (Key.mk ak ab an ann ap).cells 24))
      have b5 := below_alloc (below_of b4 hb5) (.cells (Key.mk ak ab an ann ap).cells 24)
      have hD2 : KeyAt (w5.alloc (.cells (Key.mk ak ab an ann ap).cells 24)) w5.heap.size ⟨ak, ab, an, ann, ap⟩ := (MapKept.heap_alloc w5 _).1
      obtain ⟨p0, p1, p2, p3, p4⟩ := (hC0.below hb5).c
      obtain ⟨q0, q1, q2, q3, q4⟩ := (hC1.below hb5).c
      have l0 : w.heap.size < w5.heap.size := (hC0.below hb5).lt
      have l1 : w.heap.size + 1 < w5.heap.size := (hC1.below hb5).lt
      simp only at p0 p1 p2 p3 p4 q0 q1 q2 q3 q4
      clear hC0 hC1 hv4 b4 hb5 HDD
      go_wp2_with fail
      refine (H1.out _).mono ?_
      rintro e w6 ⟨rfl, hb6⟩
      have hE0 := hD0.below hb6
      have hE1 := hD1.below hb6
      have hE2 := hD2.below hb6
      have hv6 := hv5.below hb6
      have b6 := below_of b5 hb6
      clear p0 p1 p2 p3 p4 q0 q1 q2 q3 q4 l0 l1 hD0 hD1 hD2 hv5 b5 hb6 H1
      obtain ⟨p0, p1, p2, p3, p4⟩ := hE0.c
      obtain ⟨q0, q1, q2, q3, q4⟩ := hE1.c
      obtain ⟨r0, r1, r2, r3, r4⟩ := hE2.c
      have k1 := HE1.out
      have k2 := HE2.out
      rcases HWY.out with ⟨h1, h2, h3, h4, h5⟩ | ⟨h1, h2, h3, h4, h5⟩ | ⟨h1, h2, h3, h4, h5⟩
      all_goals
        rw [h1]
        rw [h2] at H2
        simp only [h5] at k2
        clear h1 h2 h5 HWY HE1 HE2
        go_wp2_with fail
        refine (H2.out _).mono ?_
        rintro e w7 ⟨rfl, hb7⟩
        go_wp2_with fail
        refine (works_calls _ (hv6.below hb7)).mono ?_
        rintro e w8 ⟨rfl, hb8⟩
        go_wp2
        go_ret
        exact ⟨rfl, below_of (below_of b6 hb7) hb8⟩
    · have hX := HX.out
      clear H1 H2 HHD HHW HHS HAN HBN HC1 HC2 HX
      rcases hX with ⟨rfl | rfl, rfl | rfl⟩
      case inr.inr => exact absurd ⟨rfl, rfl⟩ hEE
      all_goals
        clear hEE
        go_wp2_with fail
        refine (works_calls _ hv4).mono ?_
        rintro e w5 ⟨rfl, hb5⟩
        go_wp2
        go_ret
        exact ⟨rfl, below_of b4 hb5⟩
  · clear H1 H2 HHD HHW HHS
    go_wp2_with fail
    refine (works_calls _ hv2).mono ?_
    rintro e w3 ⟨rfl, hb3⟩
    go_wp2
    go_ret
    exact ⟨rfl, below_of b2 hb3⟩

end Go.Proofs.YtaeiahkomdpcoaaDoor.Name
