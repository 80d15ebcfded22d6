/- Texts merged into one: part 11 of 12. -/
import Derived.Test.YtaeiahkomdpcoaaDoorW9
import Derived.Test.YtaeiahkomdpcoaaDoorW10

section
/- page.Versions over merge.Of's iterator. -/
namespace Go.Proofs.YtaeiahkomdpcoaaDoor.Page
open Go Go.RowKit Go.Conc Go.Proofs.YtaeiahkomdpcoaaDoor.Seq Go.Proofs.YtaeiahkomdpcoaaDoor.Chan

attribute [local go_sem] Oper.semAt_some

set_option maxHeartbeats 4000000 in
set_option maxRecDepth 100000 in
theorem versions_gen (sv : Value) (hsv : sv = .nilFunc ∨ ∃ f x y, sv = .func f x y) (xs : List Ver) (b pre : ByteArray) (aft : Nat) (most : Nat) (w : World)
    (hseq : ∀ Bs Bb, SeqO Fence.wide 19 Tryd.prog 75 #[.pointer (some ⟨Bs, 0, none⟩), .pointer (some ⟨Bb, 0, none⟩)] (fun v : Ver => #[v.item]) w.heap.size (fun i => i = Bs ∨ i = Bb) xs (fun W => W.cell? ⟨Bs, 0, none⟩ = some sv ∧ W.cell? ⟨Bb, 0, none⟩ = some (.string b) ∧ Below w.heap.size w W))
    (hb : Name.bucketL b.data.toList = true) (hbs : b.size ≤ 1000) (ho : Name.objectL pre.data.toList = true) (h1 : pre.size ≤ 200) (hm1 : 1 ≤ most) (hm2 : most ≤ 256) :
    Calls Tryd.prog 33 #[sv, .string b, .string pre, .int .u64 (aft : Int), .int .i64 (most : Int)] w fun e w' => PageR w (cutP most (selV pre aft (xs))) e w' := by
  have HB := Lib.hid (fun W => callsIn_wide (n := 19).2 (Name.bucket_calls b W (by omega)))
  have HI := Lib.hid (fun W => callsIn_wide (n := 19).2 (items_calls sv b W hsv))
  have HO1 := Lib.hid (fun W => callsIn_wide (n := 19).2 (Name.object_calls pre W (by omega)))
  rw [hb] at HB
  rw [ho] at HO1
  have hmc := make_chan most hm2
  have e3 : decide ((most : Int) < 1) = false := decide_eq_false (by omega)
  have e4 : decide (256 < (most : Int)) = false := decide_eq_false (by omega)
  refine callsIn_wide (n := 20).1 (callsIn_of_wp_marks Tryd.func33 rfl trivial ?_ rfl)
  simp only [Tryd.ntmps33, List.size_toArray, List.length_cons, List.length_nil, Nat.reduceAdd, Nat.reduceSub, Array.replicate_succ, Array.replicate_zero, List.push_toArray, List.append_toArray, List.nil_append, List.cons_append]
  gi_wp2
  refine wpIn_scope_straight ?_
  gi_wp2
  obtain ⟨W4, hW4⟩ : ∃ W4, W4 = (((w.alloc (.cells #[.string pre] 9)).alloc (.cells #[.int .u64 (aft : Int)] 22)).alloc (.cells #[.slice none 0 0, .bool false] 52)).alloc (.cells #[.bool false] 4) := ⟨_, rfl⟩
  have hs4 : W4.heap.size = w.heap.size + 4 := by rw [hW4]; simp
  have B4 : Below w.heap.size w W4 := by rw [hW4]; exact below_alloc (below_alloc (below_alloc (below_one w _) _) _) _
  have x0 : Boxed W4 w.heap.size 9 (.string pre) := by
    rw [hW4]; exact (((Boxed.new w _ _).kept (below_grown0 (below_one _ _)) (by simp)).kept (below_grown0 (below_one _ _)) (by simp)).kept (below_grown0 (below_one _ _)) (by simp)
  have x1 : Boxed W4 (w.heap.size + 1) 22 (.int .u64 (aft : Int)) := by
    have := ((Boxed.new (w.alloc (.cells #[.string pre] 9)) 22 (.int .u64 (aft : Int))).kept (below_grown0 (below_one _ (.cells #[.slice none 0 0, .bool false] 52))) (by simp)).kept (below_grown0 (below_one _ (.cells #[.bool false] 4))) (by simp)
    rw [World.size_alloc, ← hW4] at this; exact this
  have x2 : PgRow W4 (w.heap.size + 1 + 1) none 0 0 false := by
    have := (pgRow_new ((w.alloc (.cells #[.string pre] 9)).alloc (.cells #[.int .u64 (aft : Int)] 22)) none 0 0 false).below (below_one _ (.cells #[.bool false] 4))
    rw [World.size_alloc, World.size_alloc, ← hW4] at this; exact this
  have x3 : Boxed W4 (w.heap.size + 1 + 1 + 1) 4 (.bool false) := by
    have := Boxed.new (((w.alloc (.cells #[.string pre] 9)).alloc (.cells #[.int .u64 (aft : Int)] 22)).alloc (.cells #[.slice none 0 0, .bool false] 52)) 4 (.bool false)
    rw [World.size_alloc, World.size_alloc, World.size_alloc, ← hW4] at this; exact this
  rw [← hW4]
  clear hW4
  refine ⟨trivial, (HB.out W4).mono ?_⟩
  rintro e W5 ⟨rfl, hb5⟩
  have g5 := below_grown0 hb5
  have y0 := x0.kept g5 (by simp)
  have y1 := x1.kept g5 (by simp)
  have y2 := x2.grown g5 (by simp)
  have y3 := x3.kept g5 (by simp)
  have B5 := B4.trans (hb5.mono (by omega))
  have hs5 : w.heap.size + 4 ≤ W5.heap.size := by have := hb5.size; omega
  have c0 := y0.cell
  have c1 := y1.cell
  clear x0 x1 x2 x3 B4 hb5 hs4 g5
  gi_wp2
  refine ⟨trivial, (HO1.out W5).mono ?_⟩
  rintro e W5' ⟨rfl, hW5⟩
  rw [hW5]
  clear hW5
  gi_wp2
  refine wpIn_label ?_
  gi_wp2
  obtain ⟨m, hm⟩ : ∃ m, m = W5.heap.size := ⟨_, rfl⟩
  rw [← hm]
  obtain ⟨W6, hW6⟩ : ∃ W6, W6 = (W5.alloc (.chan most #[] false 0 0 false)).alloc (.cells #[.chan (some m)] 88) := ⟨_, rfl⟩
  have hs6 : W6.heap.size = m + 2 := by rw [hW6, hm]; simp
  have bd : Below W5.heap.size W5 W6 := by rw [hW6]; exact below_alloc (below_one _ _) _
  have z4 : ChRow W6 m most [] false := ⟨0, 0, by
    rw [hW6, hm, Below.heap_alloc _ _ _ (by simp)]
    exact (World.alloc_heap_new W5 _)⟩
  have z5 : Boxed W6 (m + 1) 88 (.chan (some m)) := by
    have := Boxed.new (W5.alloc (.chan most #[] false 0 0 false)) 88 (.chan (some m))
    rw [World.size_alloc, ← hm] at this; rw [hW6]; exact this
  have g6 := below_grown0 bd
  have S6 : St w.heap.size m most 22 (.int .u64 (aft : Int)) w pre [] false W6 :=
    ⟨B5.trans (bd.mono (by omega)), y0.kept g6 (by simp), y1.kept g6 (by simp), y2.grown g6 (by simp), y3.kept g6 (by simp), z4, z5⟩
  rw [← hW6]
  have hm4 : w.heap.size + 4 ≤ m := by omega
  clear hW6 z4 z5 y0 y1 y2 y3 B5 hs5 c0 c1 bd g6 hm hmc e3 e4 HO1
  refine ⟨trivial, (HI.out W6).mono ?_⟩
  rintro e W7 ⟨rfl, hW7⟩
  have b7 : Below W6.heap.size W6 W7 := by rw [hW7]; exact below_alloc (below_one _ _) _
  have hs7 : W7.heap.size = m + 4 := by rw [hW7]; simp; omega
  have k1 : W7.cell? ⟨W6.heap.size, 0, none⟩ = some sv := by
    rw [hW7, World.cell?_of_block (Below.heap_alloc _ _ _ (by simp)), Joins.cell_of_block (MapKept.heap_alloc W6 _).1]; rfl
  have k2 : W7.cell? ⟨W6.heap.size + 1, 0, none⟩ = some (.string b) := by
    have := (Boxed.new (W6.alloc (.cells #[sv] 56)) 9 (.string b)).cell
    rw [World.size_alloc] at this
    rw [hW7]; exact this
  have S7 := S6.grown (below_grown0 b7) hm4 (fun _ e => by cases e)
  have r7 := And.intro k1 (And.intro k2 S7.below)
  clear hW7 S6 b7 k1 k2
  rw [hs6] at r7
  rw [hs6]
  clear hs6 HB HI
  gi_wp2
  refine wpIn_act (fun a0 ha0 => ?_)
  have q7 : St w.heap.size m most 22 (.int .u64 (aft : Int)) w pre (selV pre aft []) false W7 := S7
  clear S7
  refine wpIn_rangeFunc_O rfl (by omega) (gf := 75) (lb := #[.pointer (some ⟨m + 2, 0, none⟩), .pointer (some ⟨m + 2 + 1, 0, none⟩)]) (by rw [ha0]; rfl) trivial (enters_of Tryd.func75 (by kernel_rfl) rfl)
    (hseq (m + 2) (m + 2 + 1)) (by omega)
    (fun W' hb => ⟨(hb.cell (p := ⟨m + 2, 0, none⟩) (by show m + 2 < _; omega)).trans r7.1, (hb.cell (p := ⟨m + 2 + 1, 0, none⟩) (by show m + 2 + 1 < _; omega)).trans r7.2.1, r7.2.2.trans (hb.mono (by omega))⟩) (fun _ => rfl)
    (fun O (ps : List Ver) W' => (∀ i, O i → m + 2 ≤ i ∧ i < W'.heap.size) ∧ m + 4 ≤ W'.heap.size ∧ (selV pre aft ps).length ≤ most ∧ St w.heap.size m most 22 (.int .u64 (aft : Int)) w pre (selV pre aft ps) false W')
    (fun cd O (_ : List Ver) W' => cd = .exit 0 ∧ (∀ i, O i → m + 2 ≤ i ∧ i < W'.heap.size) ∧ m + 4 ≤ W'.heap.size ∧ ∃ out, Hid (cutP most (selV pre aft (xs)) = (out, true)) ∧ out.length ≤ most ∧ St w.heap.size m most 22 (.int .u64 (aft : Int)) w pre out true W')
    (fun O ps X Y ⟨h1, h2, h3, h4⟩ ho => ⟨fun i hi => by
      have := ho.size
      rcases hi with h | h
      · have := h1 i h; omega
      · omega, Nat.le_trans h2 ho.size, h3, h4.off ho hm4 (fun i hi h => by have := h1 i h; omega)⟩)
    (fun cd O ps X Y ⟨h1, h2, hs, out, h3, h4, h5⟩ ho => ⟨h1, fun i hi => by
      have := ho.size
      rcases hi with h | h
      · have := h2 i h; omega
      · omega, Nat.le_trans hs ho.size, out, h3, h4, h5.off ho hm4 (fun i hi h => by have := h2 i h; omega)⟩)
    (fun i => i = m + 2 ∨ i = m + 2 + 1) (fun i h => by omega) (fun i h => h) ⟨fun i hi => by omega, by omega, Nat.zero_le _, q7⟩
    (fun O x a' W' => ∃ nb, a' = { tmps := (a0.tmps.setIfInBounds 37 x.item).setIfInBounds 14 (.pointer (some ⟨nb, 0, none⟩)), defers := [] } ∧ m + 4 ≤ nb ∧ ¬ O nb ∧ W'.heap[nb]? = some (.cells #[.string x.nm, .int .u64 (x.n : Int), .int .i64 x.len, .bool x.gone] 59 (0, 0)))
    (fun x O a' X Y ⟨nb, h1, h2, h3, h4⟩ ho => ⟨nb, h1, h2, fun h => h.elim h3 (fun h => by have := (Array.getElem?_eq_some_iff.1 h4).1; omega), (ho.block _ (Array.getElem?_eq_some_iff.1 h4).1 h3).trans h4⟩) ?assign ?body ?done ?stop
  case assign =>
    intro l1 O1 ps x W1 K hi hK
    have hb := below_one W1 (.cells #[.string x.nm, .int .u64 (x.n : Int), .int .i64 x.len, .bool x.gone] 59)
    have hx := (MapKept.heap_alloc W1 (.cells #[.string x.nm, .int .u64 (x.n : Int), .int .i64 x.len, .bool x.gone] 59)).1
    obtain ⟨h1, h2, h3, h4⟩ := hi
    have hK' := hK { tmps := (a0.tmps.setIfInBounds 37 x.item).setIfInBounds 14 (.pointer (some ⟨W1.heap.size, 0, none⟩)), defers := [] } _ (kept_of_below hb (by omega)) ⟨fun i hi => by have := h1 i hi; simp; omega, by simp; omega, h3, h4.grown (below_grown0 hb) hm4 (fun _ e => by cases e)⟩
      ⟨W1.heap.size, rfl, h2, fun h => by have := h1 _ h; omega, hx⟩
    rw [ha0] at hK' ⊢
    simp only [Ver.item, List.zip_toArray, List.zip_cons_cons, List.zip_nil_right, List.foldl_toArray', List.foldl_cons, List.foldl_nil, List.setIfInBounds_toArray, List.set_cons_succ, List.set_cons_zero] at hK' ⊢
    clear hK
    gi_wp2
    exact hK'
  case body =>
    rintro l1 O1 ps x rest a' W1 hxs ⟨hN, s2, hl, S2⟩ ⟨nb, rfl, hnb, hnO, hX⟩
    have y0 : W1.cell? ⟨nb, 0, none⟩ = some (.string x.nm) := by rw [Joins.cell_of_block hX]; rfl
    have y1 : W1.cell? ⟨nb, 1, none⟩ = some (.int .u64 (x.n : Int)) := by rw [Joins.cell_of_block hX]; rfl
    have y2 : W1.cell? ⟨nb, 2, none⟩ = some (.int .i64 x.len) := by rw [Joins.cell_of_block hX]; rfl
    have y3 : W1.cell? ⟨nb, 3, none⟩ = some (.bool x.gone) := by rw [Joins.cell_of_block hX]; rfl
    have c0 := S2.b0.cell
    have c1 := S2.b1.cell
    have c5 := S2.b5.cell
    have hsn := selV_snoc pre aft ps x
    obtain ⟨os, qos⟩ : ∃ l, l = selV pre aft ps := ⟨_, rfl⟩
    rw [← qos] at hl S2 hsn
    have HSN := Lib.hid hsn
    have HXS := Lib.hid hxs
    have HO := Lib.hid qos
    clear hsn hxs hX qos
    rw [ha0]
    simp only [Ver.item, List.setIfInBounds_toArray, List.set_cons_succ, List.set_cons_zero]
    clear ha0
    have hskip : (decide (x.nm = pre) && (decide (aft = 0) || decide (x.n < aft))) = false → (selV pre aft (ps ++ [x])).length ≤ most ∧ St w.heap.size m most 22 (.int .u64 (aft : Int)) w pre (selV pre aft (ps ++ [x])) false W1 := fun h => by
      rw [HSN.out, h, if_neg (by simp), List.append_nil]
      exact ⟨hl, S2⟩
    by_cases q1 : x.nm = pre
    case neg =>
      have h1 : (x.nm.toList == pre.toList) = false := by
        rw [ByteArray.toList_eq, ByteArray.toList_eq, beq_eq_false_iff_ne]
        exact fun h => q1 (ByteArray.ext (Array.toList_inj.1 h))
      have Q1 := Lib.hid q1
      clear q1
      gi_wp2
      exact ⟨Kept.refl _ _ _, hN, s2, hskip (by simp [Q1.out])⟩
    case pos =>
      have h1 : (x.nm.toList == pre.toList) = true := by rw [q1]; simp
      have Q1 := Lib.hid q1
      clear q1
      by_cases q2 : 0 < aft ∧ aft ≤ x.n
      case pos =>
        obtain ⟨z1, z2⟩ := q2
        gi_wp2
        exact ⟨Kept.refl _ _ _, hN, s2, hskip (by simp; omega)⟩
      case neg =>
        have HOK : Hid ((decide (x.nm = pre) && (decide (aft = 0) || decide (x.n < aft))) = true) := by
          show _ = _
          rw [decide_eq_true Q1.out, Bool.true_and, Bool.or_eq_true, decide_eq_true_iff, decide_eq_true_iff]
          omega
        have hways : (¬ 0 < aft) ∨ (0 < aft ∧ ¬ aft ≤ x.n) := by omega
        clear q2
        by_cases hroom : os.length < most
        · have hP := put_st x S2 hm4 hroom
          have HP := Lib.hid (CallsIn.inRound l1 (callsIn_wide (n := 17).2 hP))
          clear hP
          rcases hways with z1 | ⟨z1, z2⟩ <;>
          · gi_wp2
            refine ⟨trivial, HP.out.mono ?_⟩
            rintro e W4 ⟨rfl, S4, g4⟩
            have K4 : Kept O1 w.heap.size W1 W4 := kept_grown g4 (fun h => by have := (hN _ h).1; omega) (by omega) (by omega)
            have hs4 := g4.size
            have hN4 : ∀ i, O1 i → m + 2 ≤ i ∧ i < W4.heap.size := fun i hi => by have := hN i hi; omega
            gi_wp2
            refine ⟨K4, hN4, Nat.le_trans s2 hs4, ?_⟩
            rw [HSN.out, if_pos HOK.out]
            exact ⟨by rw [List.length_append]; simp; omega, S4⟩
        · have hfull : os.length = most := by omega
          have hP := put_st_full x S2 hm4 hfull
          have HP := Lib.hid (CallsIn.inRound l1 (callsIn_wide (n := 17).2 hP))
          clear hP
          have hcut : Hid (cutP most (selV pre aft (xs)) = (os, true)) := by
            have h := selV_stop (nm := pre) (aft := aft) (most := most) HXS.out (by rw [← HO.out]; exact hfull) HOK.out
            rw [← HO.out] at h
            exact h
          rcases hways with z1 | ⟨z1, z2⟩ <;>
          · gi_wp2
            refine ⟨trivial, HP.out.mono ?_⟩
            rintro e W4 ⟨rfl, S4, b4⟩
            have hs4 := b4.size
            have d3 := S4.b3.cell
            have f3 := S4.b3.frozen
            have S5 := S4.setMore hm4 true
            have K5 := (kept_of_below (O := O1) (n₀ := w.heap.size) b4 (by omega)).trans (kept_grown (O := O1) (n₀ := w.heap.size) (grown_one W4 ⟨w.heap.size + 1 + 1 + 1, 0, none⟩ (.bool true)) (fun h => by have : m + 2 ≤ w.heap.size + 1 + 1 + 1 := (hN _ h).1; omega) (by show w.heap.size ≤ w.heap.size + 1 + 1 + 1; omega) (by omega))
            have hN5 : ∀ i, O1 i → m + 2 ≤ i ∧ i < (W4.setCell ⟨w.heap.size + 1 + 1 + 1, 0, none⟩ (.bool true)).heap.size := fun i hi => by have h := (hN i hi).2; exact ⟨(hN i hi).1, Nat.lt_of_lt_of_le h (by simpa [World.setCell] using hs4)⟩
            have s5 : m + 4 ≤ (W4.setCell ⟨w.heap.size + 1 + 1 + 1, 0, none⟩ (.bool true)).heap.size := by simp [World.setCell] at s2 hs4 ⊢; omega
            gi_wp2
            exact ⟨K5, rfl, hN5, s5, os, hcut, by omega, S5⟩
  case done =>
    rintro O1 D W1 hD hOD ⟨hN, hS, hl, hSt⟩ hK
    obtain ⟨os, qos⟩ : ∃ l, l = selV pre aft (xs) := ⟨_, rfl⟩
    rw [← qos] at hl hSt
    have HQ : Hid (cutP most (selV pre aft (xs)) = (os, false)) := by rw [← qos]; exact cut_all hl
    clear qos
    have hm' := hN D hOD
    have c3 := hSt.b3.cell
    have c5 := hSt.b5.cell
    have HW := Lib.hid (callsIn_wide (n := 19).2 (whole_calls m most os false W1 hSt.ch (by omega)))
    simp only [Exit.inBlock, Exit.then]
    rw [ha0]
    clear ha0
    gi_wp2
    refine ⟨trivial, HW.out.mono ?_⟩
    rintro e W2 ⟨A', cp', rfl, hI, hA, hg⟩
    have P2 := hSt.b2.grown hg (fun e => by have : m = w.heap.size + 1 + 1 := Option.some.inj e; omega)
    obtain ⟨p0, p1⟩ := P2.c
    have f0 := P2.f 0
    have f1 := P2.f 1
    have P3 := (P2.set0 A' os.length cp').set1 false
    have hDl := (Array.getElem?_eq_some_iff.1 hK).1
    have K2 := (hg.block D hDl (fun e => by have : D = m := Option.some.inj e; omega)).trans hK
    have K3 : ((W2.setCell ⟨w.heap.size + 1 + 1, 0, none⟩ (.slice A' os.length cp')).setCell ⟨w.heap.size + 1 + 1, 1, none⟩ (.bool false)).heap[D]? = some (.deferred (some [])) :=
      (Below.heap_setCell _ _ _ _ (by show D ≠ w.heap.size + 1 + 1; omega)).trans ((Below.heap_setCell _ _ _ _ (by show D ≠ w.heap.size + 1 + 1; omega)).trans K2)
    have hna : ∀ ad, A' = some ad → ad.block ≠ w.heap.size + 1 + 1 := fun ad h => by have := hA ad h; omega
    have hI3 := (hI.other ⟨w.heap.size + 1 + 1, 0, none⟩ hna (.slice A' os.length cp')).other ⟨w.heap.size + 1 + 1, 1, none⟩ hna (.bool false)
    have B2 := below_own hSt.below hg (by omega) (fun r e => by have : m = r := Option.some.inj e; omega)
    have B3 := (B2.setCell (p := ⟨w.heap.size + 1 + 1, 0, none⟩) (by show w.heap.size ≤ w.heap.size + 1 + 1; omega) (.slice A' os.length cp')).setCell (p := ⟨w.heap.size + 1 + 1, 1, none⟩) (by show w.heap.size ≤ w.heap.size + 1 + 1; omega) (.bool false)
    clear P2 K2 HW hSt hI B2 c3 c5
    gi_wp2
    exact ret_page HQ.out hA (by omega) hI3 P3 B3 ⟨by omega, by omega, fun ad h e => by have := hA ad h; omega⟩ K3 rfl rfl rfl
  case stop =>
    rintro O1 D cd ps x rest W1 hD hOD hxs ⟨rfl, hN, hS, os, HQ, hl, hSt⟩ hK
    have hm' := hN D hOD
    refine wpIn_exit ?_
    have c3 := hSt.b3.cell
    have c5 := hSt.b5.cell
    have HW := Lib.hid (callsIn_wide (n := 19).2 (whole_calls m most os true W1 hSt.ch (by omega)))
    simp only [Exit.inBlock, Exit.then]
    rw [ha0]
    clear ha0
    gi_wp2
    refine ⟨trivial, HW.out.mono ?_⟩
    rintro e W2 ⟨A', cp', rfl, hI, hA, hg⟩
    have P2 := hSt.b2.grown hg (fun e => by have : m = w.heap.size + 1 + 1 := Option.some.inj e; omega)
    obtain ⟨p0, p1⟩ := P2.c
    have f0 := P2.f 0
    have f1 := P2.f 1
    have P3 := (P2.set0 A' os.length cp').set1 true
    have hDl := (Array.getElem?_eq_some_iff.1 hK).1
    have K2 := (hg.block D hDl (fun e => by have : D = m := Option.some.inj e; omega)).trans hK
    have K3 : ((W2.setCell ⟨w.heap.size + 1 + 1, 0, none⟩ (.slice A' os.length cp')).setCell ⟨w.heap.size + 1 + 1, 1, none⟩ (.bool true)).heap[D]? = some (.deferred (some [])) :=
      (Below.heap_setCell _ _ _ _ (by show D ≠ w.heap.size + 1 + 1; omega)).trans ((Below.heap_setCell _ _ _ _ (by show D ≠ w.heap.size + 1 + 1; omega)).trans K2)
    have hna : ∀ ad, A' = some ad → ad.block ≠ w.heap.size + 1 + 1 := fun ad h => by have := hA ad h; omega
    have hI3 := (hI.other ⟨w.heap.size + 1 + 1, 0, none⟩ hna (.slice A' os.length cp')).other ⟨w.heap.size + 1 + 1, 1, none⟩ hna (.bool true)
    have B2 := below_own hSt.below hg (by omega) (fun r e => by have : m = r := Option.some.inj e; omega)
    have B3 := (B2.setCell (p := ⟨w.heap.size + 1 + 1, 0, none⟩) (by show w.heap.size ≤ w.heap.size + 1 + 1; omega) (.slice A' os.length cp')).setCell (p := ⟨w.heap.size + 1 + 1, 1, none⟩) (by show w.heap.size ≤ w.heap.size + 1 + 1; omega) (.bool true)
    clear P2 K2 HW hSt hI B2 c3 c5
    gi_wp2
    exact ret_page HQ.out hA (by omega) hI3 P3 B3 ⟨by omega, by omega, fun ad h e => by have := hA ad h; omega⟩ K3 rfl rfl rfl

theorem versions_calls (B : Nat) (A : Option Addr) (c : Nat) (vs : List Ver) (b pre : ByteArray) (aft : Nat) (most : Nat) (w : World) (hok : ∀ v ∈ vs, v.Ok) (hreach : vs.length ≤ 100000) (hR : ItB w.heap.size B A c vs w)
    (hb : Name.bucketL b.data.toList = true) (hbs : b.size ≤ 1000) (ho : Name.objectL pre.data.toList = true) (h1 : pre.size ≤ 200) (hm1 : 1 ≤ most) (hm2 : most ≤ 256) :
    Calls Tryd.prog 33 #[ofV B, .string b, .string pre, .int .u64 (aft : Int), .int .i64 (most : Int)] w fun e w' => PageR w (cutP most (selV pre aft (itemsOf b vs))) e w' :=
  versions_gen (ofV B) (.inr ⟨_, _, _, rfl⟩) (itemsOf b vs) b pre aft most w (fun Bs Bb l J Jx O W hW hRd => items_seq 19 (by omega) w.heap.size Bs Bb B A c b vs hok hreach l J Jx O W hW ⟨hRd.1, hRd.2.1, hR.below hRd.2.2⟩) hb hbs ho h1 hm1 hm2

end Go.Proofs.YtaeiahkomdpcoaaDoor.Page
end

section
/- page.Any: over merge.Of's iterator, and over nil. -/
namespace Go.Proofs.YtaeiahkomdpcoaaDoor.Page
open Go Go.RowKit Go.Conc Go.Proofs.YtaeiahkomdpcoaaDoor.Seq Go.Proofs.YtaeiahkomdpcoaaDoor.Chan

attribute [local go_sem] Oper.semAt_some

/-- The return of a Boolean that lies in a cell. -/
theorem ret_cell {n : Nat} {fn : Func} {w W3 : World} {v : Bool} {R : Bool} (hv : v = R) {D b : Nat} (hb : Boxed W3 b 4 (.bool v)) (hB : Below w.heap.size w W3) (hD : w.heap.size ≤ D ∧ D ≠ b) (K3 : W3.heap[D]? = some (.deferred (some [])))
    {p : Tmp} (hres : fn.results = #[.cell p 4]) {tmps : Array Value} (hp : tmps.getD p undef = .pointer (some ⟨b, 0, none⟩)) :
    bodyPostM Fence.wide n Tryd.prog fn (fun e w' => e = .returned (.bool R) ∧ Below w.heap.size w w') .ret { tmps := tmps, defers := [{ target := .collected D, args := #[] }] } W3 := by
  refine ⟨by simp, .inl ⟨_, _, rfl, run_takeDeferred K3, ?_⟩⟩
  have hg : W3.grownBy (W3.putObj D (.deferred none)) (some D) := ⟨rfl, rfl, rfl, by simp, fun k hk hne => World.putObj_heap_other (fun e => hne (by rw [e]))⟩
  have b4 := box_grown hb hg (fun e => hD.2 (Option.some.inj e))
  have B4 := below_own hB hg hB.size (fun r e => by have : D = r := Option.some.inj e; omega)
  exact ⟨_, Wire.results_cell1 hres _ _ ⟨b, 0, none⟩ (.bool v) hp (Tryd.isAgg4 _) b4.cell, by rw [hv], B4⟩

set_option maxHeartbeats 4000000 in
set_option maxRecDepth 100000 in
theorem any_calls (B : Nat) (A : Option Addr) (c : Nat) (ps : List Pr) (pre : ByteArray) (w : World) (hreach : ps.length ≤ 100000) (hR : OfRd w.heap.size B A c ps w) :
    Calls Tryd.prog 55 #[ofV B, .string pre] w fun e w' => e = .returned (.bool (ps.any fun p => pfx pre p.1)) ∧ Below w.heap.size w w' := by
  have hsn := seq_eql
  refine callsIn_wide (n := 20).1 (callsIn_of_wp_marks Tryd.func55 rfl trivial ?_ rfl)
  simp only [Tryd.ntmps55, List.size_toArray, List.length_cons, List.length_nil, Nat.reduceAdd, Nat.reduceSub, Array.replicate_succ, Array.replicate_zero, List.push_toArray, List.append_toArray, List.nil_append, List.cons_append]
  gi_wp2
  obtain ⟨W4, hW4⟩ : ∃ W4, W4 = (w.alloc (.cells #[.string pre] 9)).alloc (.cells #[.bool false] 4) := ⟨_, rfl⟩
  have hs4 : W4.heap.size = w.heap.size + 2 := by rw [hW4]; simp
  have B4 : Below w.heap.size w W4 := by rw [hW4]; exact below_alloc (below_one w _) _
  have x0 : Boxed W4 w.heap.size 9 (.string pre) := by
    rw [hW4]; exact (Boxed.new w _ _).kept (below_grown0 (below_one _ _)) (by simp)
  have x1 : Boxed W4 (w.heap.size + 1) 4 (.bool false) := by
    have := Boxed.new (w.alloc (.cells #[.string pre] 9)) 4 (.bool false)
    rw [World.size_alloc, ← hW4] at this; exact this
  rw [← hW4]
  clear hW4
  refine wpIn_act (fun a0 ha0 => ?_)
  refine wpIn_rangeFunc_O rfl (by omega) (gf := 60) (lb := #[.pointer (some ⟨B, 0, none⟩)]) (by rw [ha0]; rfl) trivial (enters_of Tryd.func60 (by kernel_rfl) rfl)
    (of_seq Fence.wide (20 - 1) trivial rfl (by omega) w.heap.size B A c ps hreach) (by omega) (fun W' hb => hR.below (B4.trans (hb.mono (by omega)))) (fun _ => rfl)
    (fun O (qs : List Pr) W' => (∀ i, O i → w.heap.size + 2 ≤ i) ∧ w.heap.size + 2 ≤ W'.heap.size ∧ Hid (qs.any (fun p => pfx pre p.1) = false) ∧ Below w.heap.size w W' ∧ Boxed W' w.heap.size 9 (.string pre) ∧ Boxed W' (w.heap.size + 1) 4 (.bool false))
    (fun cd O (_ : List Pr) W' => cd = .ret ∧ (∀ i, O i → w.heap.size + 2 ≤ i) ∧ w.heap.size + 2 ≤ W'.heap.size ∧ Hid (ps.any (fun p => pfx pre p.1) = true) ∧ Below w.heap.size w W' ∧ Boxed W' (w.heap.size + 1) 4 (.bool true))
    (fun O qs X Y ⟨h1, h2, h3, h4, h5, h6⟩ ho => ⟨fun i hi => by
      rcases hi with h | h
      · exact h1 i h
      · omega, Nat.le_trans h2 ho.size, h3, h4.trans (below_of_off (ho.more (fun k hk => hk)) (by omega) (fun i hi => by have := h1 i hi; omega)), box_off h5 ho (fun h => by have := h1 _ h; omega), box_off h6 ho (fun h => by have := h1 _ h; omega)⟩)
    (fun cd O qs X Y ⟨h0, h1, h2, h3, h4, h6⟩ ho => ⟨h0, fun i hi => by
      rcases hi with h | h
      · exact h1 i h
      · omega, Nat.le_trans h2 ho.size, h3, h4.trans (below_of_off (ho.more (fun k hk => hk)) (by omega) (fun i hi => by have := h1 i hi; omega)), box_off h6 ho (fun h => by have := h1 _ h; omega)⟩)
    (fun _ => False) (fun _ h => h.elim) (fun _ h => h) ⟨fun _ h => h.elim, by omega, Lib.hid rfl, B4, x0, x1⟩
    (fun O x a' W' => a' = { tmps := ((a0.tmps.setIfInBounds 9 (.string x.1)).setIfInBounds 10 (.string x.2)).setIfInBounds 5 (.string x.1), defers := [] })
    (fun x O a' X Y h _ => h) ?assign ?body ?done ?stop
  case assign =>
    intro l1 O1 qs x W1 K hi hK
    have hK' := hK { tmps := ((a0.tmps.setIfInBounds 9 (.string x.1)).setIfInBounds 10 (.string x.2)).setIfInBounds 5 (.string x.1), defers := [] } _ (Kept.refl _ _ _) hi rfl
    rw [ha0] at hK' ⊢
    simp only [encPr, List.zip_toArray, List.zip_cons_cons, List.zip_nil_right, List.foldl_toArray', List.foldl_cons, List.foldl_nil, List.setIfInBounds_toArray, List.set_cons_succ, List.set_cons_zero] at hK' ⊢
    clear hK
    gi_wp2
    exact hK'
  case body =>
    rintro l1 O1 qs x rest a' W1 hxs ⟨hN, s2, HP, hB, c0, c1⟩ rfl
    have d0 := c0.cell
    have d1 := c1.cell
    have f1 := c1.frozen
    have HXS := Lib.hid hxs
    clear hxs
    rw [ha0]
    simp only [List.setIfInBounds_toArray, List.set_cons_succ, List.set_cons_zero]
    clear ha0
    gi_wp2
    refine ⟨trivial, (CallsIn.inRound l1 (callsIn_wide.2 (hasPrefix_calls x.1 pre W1))).mono ?_⟩
    rintro e W3 ⟨rfl, hW3⟩
    rw [hW3]
    clear hW3
    obtain ⟨bp, qbp⟩ : ∃ bp, bp = pfx pre x.1 := ⟨_, rfl⟩
    rw [← qbp]
    have HQ := Lib.hid qbp
    clear qbp
    cases bp
    case false =>
      gi_wp2
      exact ⟨Kept.refl _ _ _, hN, s2, (show Hid (_ = false) from by show _ = _; rw [List.any_append, HP.out]; simp [← HQ.out]), hB, c0, c1⟩
    case true =>
      have HA : Hid (ps.any (fun p => pfx pre p.1) = true) := by
        show _ = _
        rw [HXS.out, List.any_append, List.any_cons, ← HQ.out]; simp
      have g1 := grown_one W1 ⟨w.heap.size + 1, 0, none⟩ (.bool true)
      have K1 : Kept O1 w.heap.size W1 _ := kept_grown g1 (fun h => by have : w.heap.size + 2 ≤ w.heap.size + 1 := hN _ h; omega) (by show w.heap.size ≤ w.heap.size + 1; omega) (by omega)
      have B1 := hB.setCell (p := ⟨w.heap.size + 1, 0, none⟩) (by show w.heap.size ≤ w.heap.size + 1; omega) (.bool true)
      have x2 := box_set c1 (.bool true)
      have s3 : w.heap.size + 2 ≤ (W1.setCell ⟨w.heap.size + 1, 0, none⟩ (.bool true)).heap.size := by simpa [World.setCell] using s2
      gi_wp2
      exact ⟨K1, rfl, hN, s3, HA, B1, x2⟩
  case done =>
    rintro O1 D W1 hD hOD ⟨hN, s2, HP, hB, c0, c1⟩ hK
    have hm' := hN D hOD
    have d1 := c1.cell
    have f1 := c1.frozen
    simp only [Exit.inBlock, Exit.then]
    rw [ha0]
    clear ha0
    have B1 := hB.setCell (p := ⟨w.heap.size + 1, 0, none⟩) (by show w.heap.size ≤ w.heap.size + 1; omega) (.bool false)
    have x2 := box_set c1 (.bool false)
    have K3 : (W1.setCell ⟨w.heap.size + 1, 0, none⟩ (.bool false)).heap[D]? = some (.deferred (some [])) := (Below.heap_setCell _ _ _ _ (by show D ≠ w.heap.size + 1; omega)).trans hK
    gi_wp2
    exact ret_cell HP.out.symm x2 B1 ⟨by omega, by omega⟩ K3 rfl rfl
  case stop =>
    rintro O1 D cd qs x rest W1 hD hOD hxs ⟨rfl, hN, s2, HP, hB, c1⟩ hK
    have hm' := hN D hOD
    refine wpIn_ret ?_
    simp only [Exit.inBlock, Exit.then]
    rw [ha0]
    exact ret_cell HP.out.symm c1 hB ⟨by omega, by omega⟩ hK rfl rfl

set_option maxRecDepth 100000 in
theorem any_nil (pre : ByteArray) (w : World) : Calls Tryd.prog 55 #[.nilFunc, .string pre] w fun e w' => e = .returned (.bool false) ∧ Below w.heap.size w w' := by
  have hse : ∀ w, (binOp .eql 56 .nilFunc .nilFunc).run Tryd.prog w = .ok (.bool true) w := fun w => by
    unfold binOp Op.equal Op.maxDepth Op.equalIn
    simp only [Sem.run_bind, run_underlying Tryd.underlying56, Result.andThen_ok]
    rfl
  have x1 : Boxed ((w.alloc (.cells #[.string pre] 9)).alloc (.cells #[.bool false] 4)) (w.heap.size + 1) 4 (.bool false) := by
    have := Boxed.new (w.alloc (.cells #[.string pre] 9)) 4 (.bool false)
    rw [World.size_alloc] at this; exact this
  have B4 : Below w.heap.size w ((w.alloc (.cells #[.string pre] 9)).alloc (.cells #[.bool false] 4)) := below_alloc (below_one w _) _
  go_enter Tryd.func55, Tryd.ntmps55
  go_wp2
  refine bodyPost_ret (Wire.results_cell1 rfl _ _ ⟨w.heap.size + 1, 0, none⟩ (.bool false) rfl (Tryd.isAgg4 _) ?_) rfl ?_
  · exact x1.cell
  · exact ⟨rfl, B4⟩

end Go.Proofs.YtaeiahkomdpcoaaDoor.Page
end

section
/- A row of pairs that are versions; merge.Of over it; page.Names, Versions, Any over that. -/
namespace Go.Proofs.YtaeiahkomdpcoaaDoor.Page
open Go Go.RowKit Go.Proofs.YtaeiahkomdpcoaaDoor.Seq

theorem of_calls (A : Option Addr) (n c : Nat) (w : World) : Calls Tryd.prog 31 #[.slice A n c] w fun e w' => e = .returned (ofV w.heap.size) ∧ w' = w.alloc (.cells #[.slice A n c] 48) := by
  go_enter Tryd.func31, Tryd.ntmps31
  go_wp2
  go_ret
  exact ⟨rfl, rfl⟩

/-- A row of pairs, of versions. -/
structure AllAt (w : World) (A : Option Addr) (vs : List Ver) : Prop where
  row : PrsAt w.heap.size w A (vs.map prOf)
  v : Name.Var0 w
theorem prs_more {n₀ n₁ : Nat} {w : World} {A : Option Addr} {ps : List Pr} (h : PrsAt n₀ w A ps) (hn : n₀ ≤ n₁) : PrsAt n₁ w A ps := fun i p hp => by
  obtain ⟨ad, h0, h1, h2⟩ := h i p hp
  exact ⟨ad, h0, Nat.lt_of_lt_of_le h1 hn, h2⟩
theorem AllAt.below {w w' : World} {A : Option Addr} {vs : List Ver} (h : AllAt w A vs) (hb : Below w.heap.size w w') : AllAt w' A vs :=
  ⟨prs_more (h.row.below hb) hb.size, h.v.below hb⟩
theorem AllAt.box {w : World} {A : Option Addr} {vs : List Ver} (h : AllAt w A vs) (c : Nat) : ItB (w.alloc (.cells #[.slice A vs.length c] 48)).heap.size w.heap.size A c vs (w.alloc (.cells #[.slice A vs.length c] 48)) := by
  have hb := below_one w (.cells #[.slice A vs.length c] 48)
  have hv := h.v.below hb
  refine ⟨by obtain ⟨_, _, h0⟩ := hv; exact h0, ⟨by simp, ?_, prs_more (h.row.below hb) hb.size⟩, hv⟩
  rw [List.length_map, Joins.cell_of_block (MapKept.heap_alloc w _).1]; rfl

/-- What a call that hands back a page returns, the boxed row behind it. -/
def PageB (w : World) (r : List Ver × Bool) (e : Ending) (w' : World) : Prop := ∃ A cp, e = .returned (.tuple #[.agg #[.slice A r.1.length cp, .bool r.2], .int .i64 0]) ∧ ItsAt w' A r.1 ∧ Below w.heap.size w w'
theorem PageR.b {w : World} {o : Obj} {r : List Ver × Bool} {e : Ending} {w' : World} (h : PageR (w.alloc o) r e w') : PageB w r e w' :=
  let ⟨A, cp, he, hI, _, hB⟩ := h; ⟨A, cp, he, hI, below_of (below_one w o) hB⟩

theorem names_of (A : Option Addr) (c : Nat) (vs : List Ver) (b pre aft : ByteArray) (most : Nat) (w : World) (hok : ∀ v ∈ vs, v.Ok) (hreach : vs.length ≤ 100000) (h : AllAt w A vs)
    (hb : Name.bucketL b.data.toList = true) (hbs : b.size ≤ 1000) (h1 : pre.size ≤ 200) (h2 : aft.size ≤ 200) (hm1 : 1 ≤ most) (hm2 : most ≤ 256) :
    Calls Tryd.prog 30 #[ofV w.heap.size, .string b, .string pre, .string aft, .int .i64 (most : Int)] (w.alloc (.cells #[.slice A vs.length c] 48)) fun e w' => PageB w (cutP most (sel pre aft none' (itemsOf b vs))) e w' :=
  (names_calls w.heap.size A c vs b pre aft most _ hok hreach (h.box c) hb hbs h1 h2 hm1 hm2).mono fun _ _ h => h.b
theorem versions_of (A : Option Addr) (c : Nat) (vs : List Ver) (b pre : ByteArray) (aft : Nat) (most : Nat) (w : World) (hok : ∀ v ∈ vs, v.Ok) (hreach : vs.length ≤ 100000) (h : AllAt w A vs)
    (hb : Name.bucketL b.data.toList = true) (hbs : b.size ≤ 1000) (ho : Name.objectL pre.data.toList = true) (h1 : pre.size ≤ 200) (hm1 : 1 ≤ most) (hm2 : most ≤ 256) :
    Calls Tryd.prog 33 #[ofV w.heap.size, .string b, .string pre, .int .u64 (aft : Int), .int .i64 (most : Int)] (w.alloc (.cells #[.slice A vs.length c] 48)) fun e w' => PageB w (cutP most (selV pre aft (itemsOf b vs))) e w' :=
  (versions_calls w.heap.size A c vs b pre aft most _ hok hreach (h.box c) hb hbs ho h1 hm1 hm2).mono fun _ _ h => h.b
theorem any_of (A : Option Addr) (c : Nat) (vs : List Ver) (pre : ByteArray) (w : World) (hreach : vs.length ≤ 100000) (h : AllAt w A vs) :
    Calls Tryd.prog 55 #[ofV w.heap.size, .string pre] (w.alloc (.cells #[.slice A vs.length c] 48)) fun e w' => e = .returned (.bool ((vs.map prOf).any fun p => pfx pre p.1)) ∧ Below w.heap.size w w' :=
  (any_calls w.heap.size A c (vs.map prOf) pre _ (by rw [List.length_map]; exact hreach) (h.box c).of).mono fun _ _ ⟨he, hB⟩ => ⟨he, below_of (below_one w _) hB⟩

end Go.Proofs.YtaeiahkomdpcoaaDoor.Page
end

section
/- hoardref24.Same, where the pages are the same. -/
namespace Go.Proofs.YtaeiahkomdpcoaaDoor.Page
open Go Go.RowKit Go.Deep Go.Proofs.YtaeiahkomdpcoaaDoor.Seq

set_option maxHeartbeats 400000 in
set_option maxRecDepth 100000 in
theorem item_neq (a : ByteArray) (n l : Int) (g : Bool) (W : World) : (binOp .neq 59 (.agg #[.string a, .int .u64 n, .int .i64 l, .bool g]) (.agg #[.string a, .int .u64 n, .int .i64 l, .bool g])).run Tryd.prog W = .ok (.bool false) W := by
  have hu := Tryd.underlying59
  have h9 := Tryd.underlying9
  have h22 := Tryd.underlying22
  have h3 := Tryd.underlying3
  have h4 := Tryd.underlying4
  have hp : Tryd.prog.stoodInHeld 59 = false := by kernel_rfl
  have hf : Tryd.prog.underlying 59 = some (.struct (Tryd.prog.fieldsOf 59)) := by kernel_rfl
  rw [run_neq_struct, run_equalIn_agg W 9999 _ _ _ hf hp]
  clear hf hp
  simp [Program.fieldsOf, hu, Op.eqFields, go_sem, h9, h22, h3, h4]

set_option maxHeartbeats 1600000 in
set_option maxRecDepth 100000 in
theorem same_calls (A B : Option Addr) (c d : Nat) (xs : List Ver) (m : Bool) (w : World) (hA : ItsAt w A xs) (hB : ItsAt w B xs) (hl : xs.length ≤ 100000) :
    Calls Tryd.prog 32 #[.agg #[.slice A xs.length c, .bool m], .agg #[.slice B xs.length d, .bool m]] w fun e w' => e = .returned (.bool true) ∧ Below w.heap.size w w' := by
  have b1 := below_one w (.cells #[.slice A xs.length c, .bool m] 52)
  have b2 := below_one (w.alloc (.cells #[.slice A xs.length c, .bool m] 52)) (.cells #[.slice B xs.length d, .bool m] 52)
  have P1 := (pgRow_new w A xs.length c m).below b2
  have P2 := pgRow_new (w.alloc (.cells #[.slice A xs.length c, .bool m] 52)) B xs.length d m
  rw [World.size_alloc] at P2
  have A2 := (hA.below b1).below b2
  have B2 := (hB.below b1).below b2
  have c2 := below_of b1 b2
  have hmm : (m != m) = false := by simp
  have hll : ((xs.length : Int) != (xs.length : Int)) = false := by simp
  clear b1 b2 hA hB
  cases m
  all_goals
    go_enter Tryd.func32, Tryd.ntmps32
    go_upto_region 1 with fail
    generalize (w.alloc (.cells #[.slice A xs.length c, .bool _] 52)).alloc (.cells #[.slice B xs.length d, .bool _] 52) = w2 at P1 P2 A2 B2 c2 ⊢
    obtain ⟨p0, p1⟩ := P1.c
    obtain ⟨r0, r1⟩ := P2.c
    go_wp2
    clear p0 p1 r0 r1
    go_loopw [5] (fun iv wr => ∃ k : Nat, k ≤ xs.length ∧ iv = .int .i64 (k : Int) ∧ ItsAt wr A xs ∧ ItsAt wr B xs ∧ PgRow wr w.heap.size A xs.length c _ ∧ PgRow wr (w.heap.size + 1) B xs.length d _ ∧ Below w.heap.size w wr) (fun iv _ => xs.length - (intOf iv).toNat)
    case atStart => exact ⟨0, by omega, rfl, A2, B2, P1, P2, c2⟩
    case round =>
      obtain ⟨k, hk, rfl, hAr, hBr, q1, q2, hb⟩ := hrel
      obtain ⟨p0, p1⟩ := q1.c
      obtain ⟨r0, r1⟩ := q2.c
      by_cases hlt : k < xs.length
      · obtain ⟨ad, rfl, had, e0, e1, e2, e3⟩ := hAr.at_ hlt
        obtain ⟨bd, rfl, hbd, d0, d1, d2, d3⟩ := hBr.at_ hlt
        obtain ⟨x, hx⟩ : ∃ x, x = xs[k] := ⟨_, rfl⟩
        rw [← hx] at e0 e1 e2 e3 d0 d1 d2 d3
        clear hx
        have hnq := fun W => item_neq x.nm (x.n : Int) x.len x.gone W
        go_upto_region 6 with fail
        go_region
        go_wp2
        go_roundw
        case rel => exact ⟨k + 1, by omega, by go_num, hAr, hBr, q1, q2, hb.drew⟩
        case measure => simp [intOf]; omega
      · obtain rfl : k = xs.length := by omega
        go_wp2
        go_ret
        exact ⟨rfl, hb⟩

end Go.Proofs.YtaeiahkomdpcoaaDoor.Page
end

section
/- The walk of hoardlaw24.works, the document's example. -/
namespace Go.Proofs.YtaeiahkomdpcoaaDoor.Page
open Go Go.RowKit Go.Deep Go.Proofs.YtaeiahkomdpcoaaDoor.Seq

def NamR (r : List Ver × Bool) (n : Nat) (w : World) (e : Ending) (w' : World) : Prop := ∃ A cp, e = .returned (.tuple #[.agg #[.slice A n cp, .bool r.2], .int .i64 0]) ∧ ItsAt w' A r.1 ∧ Below w.heap.size w w'
theorem w_names1 (A : Option Addr) (c : Nat) (w : World) (h : AllAt w A wvs) : Calls Tryd.prog 30 #[ofV w.heap.size, .string ⟨#[107]⟩, .string ⟨#[]⟩, .string ⟨#[]⟩, .int .i64 1] (w.alloc (.cells #[.slice A 4 c] 48)) fun e w' =>
    ∃ A' cp, e = .returned (.tuple #[.agg #[.slice A' 1 cp, .bool true], .int .i64 0]) ∧ ItsAt w' A' [wv0] ∧ Below w.heap.size w w' :=
  (names_of A c wvs kB none' none' 1 w wvs_ok (by decide) h (by kernel_rfl) (by decide) (by decide) (by decide) (by decide) (by decide)).mono fun e w' hp => by
    rw [w_sel1] at hp
    exact hp
theorem w_names2 (A : Option Addr) (c : Nat) (w : World) (h : AllAt w A wvs) : Calls Tryd.prog 30 #[ofV w.heap.size, .string ⟨#[107]⟩, .string ⟨#[]⟩, .string ⟨#[97]⟩, .int .i64 5] (w.alloc (.cells #[.slice A 4 c] 48)) fun e w' =>
    ∃ A' cp, e = .returned (.tuple #[.agg #[.slice A' 1 cp, .bool false], .int .i64 0]) ∧ ItsAt w' A' [wv3] ∧ Below w.heap.size w w' :=
  (names_of A c wvs kB none' aN 5 w wvs_ok (by decide) h (by kernel_rfl) (by decide) (by decide) (by decide) (by decide) (by decide)).mono fun e w' hp => by
    rw [w_sel2] at hp
    exact hp
theorem w_vers (A : Option Addr) (c : Nat) (w : World) (h : AllAt w A wvs) : Calls Tryd.prog 33 #[ofV w.heap.size, .string ⟨#[107]⟩, .string ⟨#[97]⟩, .int .u64 0, .int .i64 5] (w.alloc (.cells #[.slice A 4 c] 48)) fun e w' =>
    ∃ A' cp, e = .returned (.tuple #[.agg #[.slice A' 2 cp, .bool false], .int .i64 0]) ∧ ItsAt w' A' [wv0, wv1] ∧ Below w.heap.size w w' :=
  (versions_of A c wvs kB aN 0 5 w wvs_ok (by decide) h (by kernel_rfl) (by decide) (by kernel_rfl) (by decide) (by decide) (by decide)).mono fun e w' hp => by
    rw [w_selV] at hp
    exact hp
theorem w_any (A : Option Addr) (c : Nat) (w : World) (h : AllAt w A wvs) : Calls Tryd.prog 55 #[ofV w.heap.size, .string ⟨#[3, 107]⟩] (w.alloc (.cells #[.slice A 4 c] 48)) fun e w' => e = .returned (.bool true) ∧ Below w.heap.size w w' :=
  (any_of A c wvs ⟨#[3, 107]⟩ w (by decide) h).mono fun e w' ⟨he, hb⟩ => ⟨by rw [he, w_any3], hb⟩
theorem w_none (A : Option Addr) (c : Nat) (w : World) (h : AllAt w A wvs) : Calls Tryd.prog 55 #[ofV w.heap.size, .string ⟨#[2]⟩] (w.alloc (.cells #[.slice A 4 c] 48)) fun e w' => e = .returned (.bool false) ∧ Below w.heap.size w w' :=
  (any_of A c wvs ⟨#[2]⟩ w (by decide) h).mono fun e w' ⟨he, hb⟩ => ⟨by rw [he, w_any2], hb⟩

theorem w_pair {v : Ver} (hp : pairS v = prOf v) (hb : v.bk.size ≤ 9223372036854775807) (hn : v.nm.size ≤ 9223372036854775807) (ht : v.n ≤ Name.top) (w : World) (hv : Name.Var0 w) :
    Calls Tryd.prog 34 #[.string v.bk, .string v.nm, .int .u64 (v.n : Int), .string v.tx, .bool v.gone] w fun e w' => e = .returned (.agg #[.string (prOf v).1, .string (prOf v).2]) ∧ Name.Var0 w' ∧ Below w.heap.size w w' :=
  (pair_calls v w hv ⟨hb, hn, ht⟩).mono fun e w' ⟨he, hB⟩ => ⟨by rw [he, hp], hv.below hB, hB⟩

theorem all_new (w : World) (hv : Name.Var0 w) (k0 t0 k1 t1 k2 t2 k3 t3 : ByteArray) (q0 : (k0, t0) = prOf wv0) (q1 : (k1, t1) = prOf wv1) (q2 : (k2, t2) = prOf wv2) (q3 : (k3, t3) = prOf wv3) :
    AllAt (w.alloc (.cells #[.string k0, .string t0, .string k1, .string t1, .string k2, .string t2, .string k3, .string t3] 64)) (some ⟨w.heap.size, 0, none⟩) wvs := by
  have hb := below_one w (.cells #[.string k0, .string t0, .string k1, .string t1, .string k2, .string t2, .string k3, .string t3] 64)
  refine ⟨fun i p hp => ⟨_, rfl, by simp, by simp, ?_⟩, hv.below hb⟩
  have hc : ∀ j u, [Value.string k0, .string t0, .string k1, .string t1, .string k2, .string t2, .string k3, .string t3][j]? = some u → (w.alloc (.cells #[.string k0, .string t0, .string k1, .string t1, .string k2, .string t2, .string k3, .string t3] 64)).cell? ((⟨w.heap.size, 0, none⟩ : Addr).add j) = some u :=
    World.news_of_block (MapKept.heap_alloc w _).1
  match i, hp with
  | 0, hp => obtain rfl : prOf wv0 = p := by simpa [wvs] using hp
             exact ⟨hc 0 _ (by rw [← q0]; rfl), hc 1 _ (by rw [← q0]; rfl)⟩
  | 1, hp => obtain rfl : prOf wv1 = p := by simpa [wvs] using hp
             exact ⟨hc 2 _ (by rw [← q1]; rfl), hc 3 _ (by rw [← q1]; rfl)⟩
  | 2, hp => obtain rfl : prOf wv2 = p := by simpa [wvs] using hp
             exact ⟨hc 4 _ (by rw [← q2]; rfl), hc 5 _ (by rw [← q2]; rfl)⟩
  | 3, hp => obtain rfl : prOf wv3 = p := by simpa [wvs] using hp
             exact ⟨hc 6 _ (by rw [← q3]; rfl), hc 7 _ (by rw [← q3]; rfl)⟩
  | n + 4, hp => simp [wvs] at hp

/-- An item that is laid by hand. -/
theorem its_one (w : World) (v : Ver) : ItsAt (w.alloc (.cells #[.string v.nm, .int .u64 (v.n : Int), .int .i64 v.len, .bool v.gone] 59)) (some ⟨w.heap.size, 0, none⟩) [v] := fun i p hp => by
  have hc : ∀ j u, [Value.string v.nm, .int .u64 (v.n : Int), .int .i64 v.len, .bool v.gone][j]? = some u → (w.alloc (.cells #[.string v.nm, .int .u64 (v.n : Int), .int .i64 v.len, .bool v.gone] 59)).cell? ((⟨w.heap.size, 0, none⟩ : Addr).add j) = some u :=
    World.news_of_block (MapKept.heap_alloc w _).1
  match i, hp with
  | 0, hp => obtain rfl : v = p := by simpa using hp
             exact ⟨_, rfl, by simp, hc 0 _ rfl, hc 1 _ rfl, hc 2 _ rfl, hc 3 _ rfl⟩
  | n + 1, hp => simp at hp

set_option maxHeartbeats 4000000 in
set_option maxRecDepth 100000 in
theorem works_calls (w : World) (hv : Name.Var0 w) : Calls Tryd.prog 28 #[] w fun e w' => e = .returned (.bool true) ∧ Below w.heap.size w w' := by
  have H0 : Hid (∀ W, Name.Var0 W → Calls Tryd.prog 34 #[.string ⟨#[107]⟩, .string ⟨#[97]⟩, .int .u64 3, .string ⟨#[120, 121, 122]⟩, .bool false] W fun e w' => e = .returned (.agg #[.string (prOf wv0).1, .string (prOf wv0).2]) ∧ Name.Var0 w' ∧ Below W.heap.size W w') := fun W h => w_pair pair0 (by decide) (by decide) (by decide) W h
  have H1 : Hid (∀ W, Name.Var0 W → Calls Tryd.prog 34 #[.string ⟨#[107]⟩, .string ⟨#[97]⟩, .int .u64 1, .string ⟨#[]⟩, .bool true] W fun e w' => e = .returned (.agg #[.string (prOf wv1).1, .string (prOf wv1).2]) ∧ Name.Var0 w' ∧ Below W.heap.size W w') := fun W h => w_pair pair1 (by decide) (by decide) (by decide) W h
  have H2 : Hid (∀ W, Name.Var0 W → Calls Tryd.prog 34 #[.string ⟨#[107]⟩, .string ⟨#[98]⟩, .int .u64 2, .string ⟨#[]⟩, .bool true] W fun e w' => e = .returned (.agg #[.string (prOf wv2).1, .string (prOf wv2).2]) ∧ Name.Var0 w' ∧ Below W.heap.size W w') := fun W h => w_pair pair2 (by decide) (by decide) (by decide) W h
  have H3 : Hid (∀ W, Name.Var0 W → Calls Tryd.prog 34 #[.string ⟨#[107]⟩, .string ⟨#[99]⟩, .int .u64 4, .string ⟨#[]⟩, .bool false] W fun e w' => e = .returned (.agg #[.string (prOf wv3).1, .string (prOf wv3).2]) ∧ Name.Var0 w' ∧ Below W.heap.size W w') := fun W h => w_pair pair3 (by decide) (by decide) (by decide) W h
  obtain ⟨⟨k0, t0⟩, q0⟩ : ∃ p, p = prOf wv0 := ⟨_, rfl⟩
  obtain ⟨⟨k1, t1⟩, q1⟩ : ∃ p, p = prOf wv1 := ⟨_, rfl⟩
  obtain ⟨⟨k2, t2⟩, q2⟩ : ∃ p, p = prOf wv2 := ⟨_, rfl⟩
  obtain ⟨⟨k3, t3⟩, q3⟩ : ∃ p, p = prOf wv3 := ⟨_, rfl⟩
  rw [← q0] at H0
  rw [← q1] at H1
  rw [← q2] at H2
  rw [← q3] at H3
  have HA := Lib.hid (fun W hv => all_new W hv k0 t0 k1 t1 k2 t2 k3 t3 q0 q1 q2 q3)
  clear q0 q1 q2 q3
  go_enter Tryd.func28, Tryd.ntmps28
  go_wp2_with fail
  refine (H0.out _ hv).mono ?_
  rintro e w1 ⟨rfl, v1, b1⟩
  go_wp2_with fail
  refine (H1.out _ v1).mono ?_
  rintro e w2 ⟨rfl, v2, b2⟩
  go_wp2_with fail
  refine (H2.out _ v2).mono ?_
  rintro e w3 ⟨rfl, v3, b3⟩
  go_wp2_with fail
  refine (H3.out _ v3).mono ?_
  rintro e w4 ⟨rfl, v4, b4⟩
  have c4 := below_of (below_of (below_of b1 b2) b3) b4
  have A5 := HA.out w4 v4
  have c5 := below_of c4 (below_one w4 (.cells #[.string k0, .string t0, .string k1, .string t1, .string k2, .string t2, .string k3, .string t3] 64))
  clear H0 H1 H2 H3 HA b1 b2 b3 b4 v1 v2 v3 v4 c4 hv
  go_upto_region 2 with fail
  obtain ⟨W5, q5⟩ : ∃ W, W = w4.alloc (.cells #[.string k0, .string t0, .string k1, .string t1, .string k2, .string t2, .string k3, .string t3] 64) := ⟨_, rfl⟩
  rw [← q5] at A5 c5 ⊢
  obtain ⟨B, hB⟩ : ∃ B, B = w4.heap.size := ⟨_, rfl⟩
  rw [← hB] at A5 ⊢
  clear q5 hB
  have HN1 := Lib.hid (w_names1 (some ⟨B, 0, none⟩) 4)
  have HN2 := Lib.hid (w_names2 (some ⟨B, 0, none⟩) 4)
  have HV := Lib.hid (w_vers (some ⟨B, 0, none⟩) 4)
  have HA1 := Lib.hid (w_any (some ⟨B, 0, none⟩) 4)
  have HA2 := Lib.hid (w_none (some ⟨B, 0, none⟩) 4)
  have HO := Lib.hid (of_calls (some ⟨B, 0, none⟩) 4 4)
  go_wp2_with fail
  refine (HO.out _).mono ?_
  rintro e wb ⟨rfl, rfl⟩
  go_wp2_with fail
  refine (HN1.out _ A5).mono ?_
  rintro e w6 ⟨I1, cp1, rfl, hI1, b6⟩
  have A6 := A5.below b6
  have c6 := below_of c5 b6
  clear A5 c5 b6 HN1
  have b7 := below_one w6 (.cells #[.slice I1 1 cp1, .bool true] 52)
  have P7 := pgRow_new w6 I1 1 cp1 true
  have I7 := hI1.below b7
  have A7 := A6.below b7
  have c7 := below_of c6 b7
  clear hI1 A6 b7 c6
  go_upto_region 3 with fail
  obtain ⟨g1, qg1⟩ : ∃ g, g = w6.heap.size := ⟨_, rfl⟩
  obtain ⟨W7, q7⟩ : ∃ W, W = w6.alloc (.cells #[.slice I1 1 cp1, .bool true] 52) := ⟨_, rfl⟩
  rw [← q7] at P7 I7 A7 c7 ⊢
  rw [← qg1] at P7 ⊢
  clear q7 qg1
  go_wp2_with fail
  refine (HO.out _).mono ?_
  rintro e wb ⟨rfl, rfl⟩
  go_wp2_with fail
  refine (HN2.out _ A7).mono ?_
  rintro e w8 ⟨I2, cp2, rfl, hI2, b8⟩
  have A8 := A7.below b8
  have P8 := P7.below b8
  have I8 := I7.below b8
  have c8 := below_of c7 b8
  clear A7 P7 I7 c7 b8 HN2
  have b9 := below_one w8 (.cells #[.slice I2 1 cp2, .bool false] 52)
  have R9 := pgRow_new w8 I2 1 cp2 false
  have J9 := hI2.below b9
  have P9 := P8.below b9
  have I9 := I8.below b9
  have A9 := A8.below b9
  have c9 := below_of c8 b9
  clear hI2 A8 P8 I8 b9 c8
  go_upto_region 4 with fail
  obtain ⟨g2, qg2⟩ : ∃ g, g = w8.heap.size := ⟨_, rfl⟩
  obtain ⟨W9, q9⟩ : ∃ W, W = w8.alloc (.cells #[.slice I2 1 cp2, .bool false] 52) := ⟨_, rfl⟩
  rw [← q9] at R9 J9 P9 I9 A9 c9 ⊢
  rw [← qg2] at R9 ⊢
  clear q9 qg2
  go_wp2_with fail
  refine (HO.out _).mono ?_
  rintro e wb ⟨rfl, rfl⟩
  go_wp2_with fail
  refine (HV.out _ A9).mono ?_
  rintro e w10 ⟨I3, cp3, rfl, hI3, b10⟩
  have A10 := A9.below b10
  have R10 := R9.below b10
  have J10 := J9.below b10
  have P10 := P9.below b10
  have I10 := I9.below b10
  have c10 := below_of c9 b10
  clear A9 R9 J9 P9 I9 c9 b10 HV
  have b11 := below_one w10 (.cells #[.slice I3 2 cp3, .bool false] 52)
  have S11 := pgRow_new w10 I3 2 cp3 false
  have K11 := hI3.below b11
  have R11 := R10.below b11
  have J11 := J10.below b11
  have P11 := P10.below b11
  have I11 := I10.below b11
  have A11 := A10.below b11
  have c11 := below_of c10 b11
  clear hI3 A10 R10 J10 P10 I10 b11 c10
  go_upto_region 5 with fail
  obtain ⟨g3, qg3⟩ : ∃ g, g = w10.heap.size := ⟨_, rfl⟩
  obtain ⟨W, q11⟩ : ∃ W, W = w10.alloc (.cells #[.slice I3 2 cp3, .bool false] 52) := ⟨_, rfl⟩
  rw [← q11] at S11 K11 R11 J11 P11 I11 A11 c11 ⊢
  rw [← qg3] at S11 ⊢
  clear q11 qg3
  obtain ⟨p0, p1⟩ := P11.c
  go_wp2_with fail
  have L1 := below_one W (.cells #[.string ⟨#[97]⟩, .int .u64 3, .int .i64 3, .bool false] 59)
  refine (same_calls I1 (some ⟨W.heap.size, 0, none⟩) cp1 1 [wv0] true _ (I11.below L1) (its_one W wv0) (by decide)).mono ?_
  rintro e w12 ⟨rfl, b12⟩
  have m12 := below_of L1 b12
  have A12 := A11.below m12
  have R12 := R11.below m12
  have J12 := J11.below m12
  have S12 := S11.below m12
  have K12 := K11.below m12
  have c12 := below_of c11 m12
  clear A11 R11 J11 P11 I11 S11 K11 c11 m12 L1 p0 p1 b12
  obtain ⟨p0, p1⟩ := R12.c
  go_wp2_with fail
  have L2 := below_one w12 (.cells #[.string ⟨#[99]⟩, .int .u64 4, .int .i64 0, .bool false] 59)
  refine (same_calls I2 (some ⟨w12.heap.size, 0, none⟩) cp2 1 [wv3] false _ (J12.below L2) (its_one w12 wv3) (by decide)).mono ?_
  rintro e w13 ⟨rfl, b13⟩
  have m13 := below_of L2 b13
  have A13 := A12.below m13
  have S13 := S12.below m13
  have K13 := K12.below m13
  have c13 := below_of c12 m13
  clear A12 R12 J12 S12 K12 c12 m13 L2 p0 p1 b13
  obtain ⟨p0, p1⟩ := S13.c
  obtain ⟨ad, rfl, had, e0, e1, e2, e3⟩ := K13.at_ (k := 1) (by decide)
  simp only [List.getElem_cons_succ, List.getElem_cons_zero, Nat.one_mul] at e0 e1 e2 e3
  have e5 : w13.cell? ⟨ad.block, ad.off + 4 + 3, none⟩ = some (.bool true) := e3
  clear e0 e1 e2 e3
  go_wp2_with fail
  refine (HO.out _).mono ?_
  rintro e wb ⟨rfl, rfl⟩
  go_wp2_with fail
  refine (HA1.out _ A13).mono ?_
  rintro e w14 ⟨rfl, b14⟩
  have A14 := A13.below b14
  have c14 := below_of c13 b14
  clear A13 S13 K13 c13 b14 p0 p1 e5 had
  go_wp2_with fail
  refine (HO.out _).mono ?_
  rintro e wb ⟨rfl, rfl⟩
  go_wp2_with fail
  refine (HA2.out _ A14).mono ?_
  rintro e w15 ⟨rfl, b15⟩
  have c15 := below_of c14 b15
  go_wp2_with fail
  go_ret
  exact ⟨rfl, c15⟩

end Go.Proofs.YtaeiahkomdpcoaaDoor.Page
end

section
/- page.Names and page.Versions over nil, and where they refuse what is asked. -/
namespace Go.Proofs.YtaeiahkomdpcoaaDoor.Page
open Go Go.RowKit Go.Conc Go.Proofs.YtaeiahkomdpcoaaDoor.Seq Go.Proofs.YtaeiahkomdpcoaaDoor.Chan

attribute [local go_sem] Oper.semAt_some

theorem nil_eql (w : World) : (binOp .eql 56 .nilFunc .nilFunc).run Tryd.prog w = .ok (.bool true) w := by
  unfold binOp Op.equal Op.maxDepth Op.equalIn
  simp only [Sem.run_bind, run_underlying Tryd.underlying56, Result.andThen_ok]
  rfl

set_option maxRecDepth 100000 in
theorem items_nil_seq (n : Nat) (n₀ Bs Bb : Nat) (R0 : Nat → Prop) (Rd : World → Prop) (hRd : ∀ W, Rd W → W.cell? ⟨Bs, 0, none⟩ = some .nilFunc) :
    SeqO Fence.wide n Tryd.prog 75 #[.pointer (some ⟨Bs, 0, none⟩), .pointer (some ⟨Bb, 0, none⟩)] (fun v : Ver => #[v.item]) n₀ R0 [] Rd := fun l J Jx O W hW hR hown hJ hJx hY h0 => by
  have hb0 := below_one W (.cells #[.func (.yield l) #[] #[]] 112)
  have hc0 := hRd W hR
  have hc1 := (hb0.cell (p := ⟨Bs, 0, none⟩) (cell_lt hc0)).trans hc0
  have hJ1 := hJ _ _ _ _ h0 (off_of_below (O := O) hb0)
  have hse := nil_eql
  clear hc0 hb0
  refine callsIn_of_wp_marks Tryd.func75 rfl trivial ?_ rfl
  simp only [Tryd.ntmps75, List.size_toArray, List.length_cons, List.length_nil, Nat.reduceAdd, Nat.reduceSub, Array.replicate_succ, Array.replicate_zero, List.push_toArray, List.append_toArray, List.nil_append, List.cons_append]
  gi_wp2
  refine wpIn_scope_straight ?_
  gi_wp2
  simp only [Exit.noGoto]
  exact ⟨_, results_none rfl _ _ _, ⟨_, rfl⟩, _, .inl hJ1⟩

/-- What a refusal answers. -/
def Refused (e : Ending) : Prop := e = .returned (.tuple #[.agg #[.slice none 0 0, .bool false], .int .i64 2])

set_option maxRecDepth 100000 in
theorem names_bad (sv : Value) (b pre aft : ByteArray) (most : Int) (w : World) (hbs : b.size ≤ 1000000)
    (h : ¬ (Name.bucketL b.data.toList = true ∧ pre.size ≤ 200 ∧ aft.size ≤ 200 ∧ 1 ≤ most ∧ most ≤ 256)) :
    Calls Tryd.prog 30 #[sv, .string b, .string pre, .string aft, .int .i64 most] w fun e w' => Refused e ∧ Below w.heap.size w w' := by
  have HB := Lib.hid (fun W => callsIn_wide (n := 19).2 (Name.bucket_calls b W (by omega)))
  refine callsIn_wide (n := 20).1 (callsIn_of_wp_marks Tryd.func30 rfl trivial ?_ rfl)
  simp only [Tryd.ntmps30, List.size_toArray, List.length_cons, List.length_nil, Nat.reduceAdd, Nat.reduceSub, Array.replicate_succ, Array.replicate_zero, List.push_toArray, List.append_toArray, List.nil_append, List.cons_append]
  gi_wp2
  refine wpIn_scope_straight ?_
  gi_wp2
  obtain ⟨W4, hW4⟩ : ∃ W4, W4 = (((w.alloc (.cells #[.string pre] 9)).alloc (.cells #[.string aft] 9)).alloc (.cells #[.slice none 0 0, .bool false] 52)).alloc (.cells #[.bool false] 4) := ⟨_, rfl⟩
  have hs4 : W4.heap.size = w.heap.size + 4 := by rw [hW4]; simp
  have B4 : Below w.heap.size w W4 := by rw [hW4]; exact below_alloc (below_alloc (below_alloc (below_one w _) _) _) _
  have x0 : Boxed W4 w.heap.size 9 (.string pre) := by
    rw [hW4]; exact (((Boxed.new w _ _).kept (below_grown0 (below_one _ _)) (by simp)).kept (below_grown0 (below_one _ _)) (by simp)).kept (below_grown0 (below_one _ _)) (by simp)
  have x1 : Boxed W4 (w.heap.size + 1) 9 (.string aft) := by
    have := ((Boxed.new (w.alloc (.cells #[.string pre] 9)) 9 (.string aft)).kept (below_grown0 (below_one _ (.cells #[.slice none 0 0, .bool false] 52))) (by simp)).kept (below_grown0 (below_one _ (.cells #[.bool false] 4))) (by simp)
    rw [World.size_alloc, ← hW4] at this; exact this
  have x2 : PgRow W4 (w.heap.size + 1 + 1) none 0 0 false := by
    have := (pgRow_new ((w.alloc (.cells #[.string pre] 9)).alloc (.cells #[.string aft] 9)) none 0 0 false).below (below_one _ (.cells #[.bool false] 4))
    rw [World.size_alloc, World.size_alloc, ← hW4] at this; exact this
  rw [← hW4]
  clear hW4
  refine ⟨trivial, (HB.out W4).mono ?_⟩
  rintro e W5 ⟨rfl, hb5⟩
  have g5 := below_grown0 hb5
  have c0 := (x0.kept g5 (by simp)).cell
  have c1 := (x1.kept g5 (by simp)).cell
  have y2 := x2.grown g5 (by simp)
  have B5 := B4.trans (hb5.mono (by omega))
  obtain ⟨p0, p1⟩ := y2.c
  have f0 := y2.f 0
  have f1 := y2.f 1
  have y3 := (y2.set0 none 0 0).set1 false
  have B6 := (B5.setCell (p := ⟨w.heap.size + 1 + 1, 0, none⟩) (by show w.heap.size ≤ w.heap.size + 1 + 1; omega) (.slice none 0 0)).setCell (p := ⟨w.heap.size + 1 + 1, 1, none⟩) (by show w.heap.size ≤ w.heap.size + 1 + 1; omega) (.bool false)
  have HR := Lib.hid h
  clear h x0 x1 x2 B4 hs4 hb5 g5 HB B5
  obtain ⟨u0, q0⟩ : ∃ u, u = Name.bucketL b.data.toList := ⟨_, rfl⟩
  rw [← q0]
  cases u0
  case false =>
    clear q0 HR
    gi_wp2
    simp only [Exit.noGoto]
    exact ⟨_, Cell.results_cell2 (p := 10) (u := 11) rfl _ _ (w.heap.size + 1 + 1) 52 _ (0, 0) _ rfl y3 Tryd.underlying52 rfl (by kernel_rfl), rfl, B6⟩
  case true =>
    by_cases h1 : pre.size ≤ 200
    case neg =>
      have e1 : decide (200 < (pre.size : Int)) = true := decide_eq_true (by omega)
      clear q0 HR h1
      gi_wp2
      simp only [Exit.noGoto]
      exact ⟨_, Cell.results_cell2 (p := 10) (u := 11) rfl _ _ (w.heap.size + 1 + 1) 52 _ (0, 0) _ rfl y3 Tryd.underlying52 rfl (by kernel_rfl), rfl, B6⟩
    case pos =>
      have e1 : decide (200 < (pre.size : Int)) = false := decide_eq_false (by omega)
      by_cases h2 : aft.size ≤ 200
      case neg =>
        have e2 : decide (200 < (aft.size : Int)) = true := decide_eq_true (by omega)
        clear q0 HR h1 h2
        gi_wp2
        simp only [Exit.noGoto]
        exact ⟨_, Cell.results_cell2 (p := 10) (u := 11) rfl _ _ (w.heap.size + 1 + 1) 52 _ (0, 0) _ rfl y3 Tryd.underlying52 rfl (by kernel_rfl), rfl, B6⟩
      case pos =>
        have e2 : decide (200 < (aft.size : Int)) = false := decide_eq_false (by omega)
        by_cases h3 : 1 ≤ most
        case neg =>
          have e3 : decide (most < 1) = true := decide_eq_true (by omega)
          clear q0 HR h1 h2 h3
          gi_wp2
          simp only [Exit.noGoto]
          exact ⟨_, Cell.results_cell2 (p := 10) (u := 11) rfl _ _ (w.heap.size + 1 + 1) 52 _ (0, 0) _ rfl y3 Tryd.underlying52 rfl (by kernel_rfl), rfl, B6⟩
        case pos =>
          have e3 : decide (most < 1) = false := decide_eq_false (by omega)
          have e4 : decide (256 < most) = true := decide_eq_true (by
            have h := HR.out
            rcases Decidable.em (256 < most) with h4 | h4
            · exact h4
            · exact absurd ⟨q0.symm, h1, h2, h3, by omega⟩ h)
          clear q0 HR h1 h2 h3
          gi_wp2
          simp only [Exit.noGoto]
          exact ⟨_, Cell.results_cell2 (p := 10) (u := 11) rfl _ _ (w.heap.size + 1 + 1) 52 _ (0, 0) _ rfl y3 Tryd.underlying52 rfl (by kernel_rfl), rfl, B6⟩

set_option maxRecDepth 100000 in
theorem versions_bad (sv : Value) (b pre : ByteArray) (aft : Nat) (most : Int) (w : World) (hbs : b.size ≤ 1000000) (hps : pre.size ≤ 1000000)
    (h : ¬ (Name.bucketL b.data.toList = true ∧ Name.objectL pre.data.toList = true ∧ 1 ≤ most ∧ most ≤ 256)) :
    Calls Tryd.prog 33 #[sv, .string b, .string pre, .int .u64 (aft : Int), .int .i64 most] w fun e w' => Refused e ∧ Below w.heap.size w w' := by
  have HB := Lib.hid (fun W => callsIn_wide (n := 19).2 (Name.bucket_calls b W (by omega)))
  have HO1 := Lib.hid (fun W => callsIn_wide (n := 19).2 (Name.object_calls pre W (by omega)))
  refine callsIn_wide (n := 20).1 (callsIn_of_wp_marks Tryd.func33 rfl trivial ?_ rfl)
  simp only [Tryd.ntmps33, List.size_toArray, List.length_cons, List.length_nil, Nat.reduceAdd, Nat.reduceSub, Array.replicate_succ, Array.replicate_zero, List.push_toArray, List.append_toArray, List.nil_append, List.cons_append]
  gi_wp2
  refine wpIn_scope_straight ?_
  gi_wp2
  obtain ⟨W4, hW4⟩ : ∃ W4, W4 = (((w.alloc (.cells #[.string pre] 9)).alloc (.cells #[.int .u64 (aft : Int)] 22)).alloc (.cells #[.slice none 0 0, .bool false] 52)).alloc (.cells #[.bool false] 4) := ⟨_, rfl⟩
  have hs4 : W4.heap.size = w.heap.size + 4 := by rw [hW4]; simp
  have B4 : Below w.heap.size w W4 := by rw [hW4]; exact below_alloc (below_alloc (below_alloc (below_one w _) _) _) _
  have x0 : Boxed W4 w.heap.size 9 (.string pre) := by
    rw [hW4]; exact (((Boxed.new w _ _).kept (below_grown0 (below_one _ _)) (by simp)).kept (below_grown0 (below_one _ _)) (by simp)).kept (below_grown0 (below_one _ _)) (by simp)
  have x1 : Boxed W4 (w.heap.size + 1) 22 (.int .u64 (aft : Int)) := by
    have := ((Boxed.new (w.alloc (.cells #[.string pre] 9)) 22 (.int .u64 (aft : Int))).kept (below_grown0 (below_one _ (.cells #[.slice none 0 0, .bool false] 52))) (by simp)).kept (below_grown0 (below_one _ (.cells #[.bool false] 4))) (by simp)
    rw [World.size_alloc, ← hW4] at this; exact this
  have x2 : PgRow W4 (w.heap.size + 1 + 1) none 0 0 false := by
    have := (pgRow_new ((w.alloc (.cells #[.string pre] 9)).alloc (.cells #[.int .u64 (aft : Int)] 22)) none 0 0 false).below (below_one _ (.cells #[.bool false] 4))
    rw [World.size_alloc, World.size_alloc, ← hW4] at this; exact this
  rw [← hW4]
  clear hW4
  refine ⟨trivial, (HB.out W4).mono ?_⟩
  rintro e W5 ⟨rfl, hb5⟩
  have g5 := below_grown0 hb5
  have c0 := (x0.kept g5 (by simp)).cell
  have c1 := (x1.kept g5 (by simp)).cell
  have y2 := x2.grown g5 (by simp)
  have B5 := B4.trans (hb5.mono (by omega))
  obtain ⟨p0, p1⟩ := y2.c
  have f0 := y2.f 0
  have f1 := y2.f 1
  have y3 := (y2.set0 none 0 0).set1 false
  have B6 := (B5.setCell (p := ⟨w.heap.size + 1 + 1, 0, none⟩) (by show w.heap.size ≤ w.heap.size + 1 + 1; omega) (.slice none 0 0)).setCell (p := ⟨w.heap.size + 1 + 1, 1, none⟩) (by show w.heap.size ≤ w.heap.size + 1 + 1; omega) (.bool false)
  have HR := Lib.hid h
  clear h x0 x1 x2 B4 hs4 hb5 g5 HB B5
  obtain ⟨u0, q0⟩ : ∃ u, u = Name.bucketL b.data.toList := ⟨_, rfl⟩
  rw [← q0]
  cases u0
  case false =>
    clear q0 HR HO1
    gi_wp2
    refine ⟨trivial, ?_⟩
    gi_wp2
    simp only [Exit.noGoto]
    exact ⟨_, Cell.results_cell2 (p := 10) (u := 11) rfl _ _ (w.heap.size + 1 + 1) 52 _ (0, 0) _ rfl y3 Tryd.underlying52 rfl (by kernel_rfl), rfl, B6⟩
  case true =>
    obtain ⟨u1, q1⟩ : ∃ u, u = Name.objectL pre.data.toList := ⟨_, rfl⟩
    rw [← q1] at HO1
    cases u1
    case false =>
      clear q0 q1 HR
      gi_wp2
      refine ⟨trivial, (HO1.out W5).mono ?_⟩
      rintro e W5' ⟨rfl, hW5⟩
      rw [hW5]
      clear hW5
      gi_wp2
      simp only [Exit.noGoto]
      exact ⟨_, Cell.results_cell2 (p := 10) (u := 11) rfl _ _ (w.heap.size + 1 + 1) 52 _ (0, 0) _ rfl y3 Tryd.underlying52 rfl (by kernel_rfl), rfl, B6⟩
    case true =>
      by_cases h3 : 1 ≤ most
      case neg =>
        have e3 : decide (most < 1) = true := decide_eq_true (by omega)
        clear q0 q1 HR h3
        gi_wp2
        refine ⟨trivial, (HO1.out W5).mono ?_⟩
        rintro e W5' ⟨rfl, hW5⟩
        rw [hW5]
        clear hW5
        gi_wp2
        simp only [Exit.noGoto]
        exact ⟨_, Cell.results_cell2 (p := 10) (u := 11) rfl _ _ (w.heap.size + 1 + 1) 52 _ (0, 0) _ rfl y3 Tryd.underlying52 rfl (by kernel_rfl), rfl, B6⟩
      case pos =>
        have e3 : decide (most < 1) = false := decide_eq_false (by omega)
        have e4 : decide (256 < most) = true := decide_eq_true (by
          have h := HR.out
          rcases Decidable.em (256 < most) with h4 | h4
          · exact h4
          · exact absurd ⟨q0.symm, q1.symm, h3, by omega⟩ h)
        clear q0 q1 HR h3
        gi_wp2
        refine ⟨trivial, (HO1.out W5).mono ?_⟩
        rintro e W5' ⟨rfl, hW5⟩
        rw [hW5]
        clear hW5
        gi_wp2
        simp only [Exit.noGoto]
        exact ⟨_, Cell.results_cell2 (p := 10) (u := 11) rfl _ _ (w.heap.size + 1 + 1) 52 _ (0, 0) _ rfl y3 Tryd.underlying52 rfl (by kernel_rfl), rfl, B6⟩

/-- Over nil a page is empty. -/
theorem names_nil (b pre aft : ByteArray) (most : Nat) (w : World) (hb : Name.bucketL b.data.toList = true) (hbs : b.size ≤ 1000) (h1 : pre.size ≤ 200) (h2 : aft.size ≤ 200) (hm1 : 1 ≤ most) (hm2 : most ≤ 256) :
    Calls Tryd.prog 30 #[.nilFunc, .string b, .string pre, .string aft, .int .i64 (most : Int)] w fun e w' => PageR w ([], false) e w' := by
  have h := names_gen .nilFunc (.inl rfl) [] b pre aft most w (fun Bs Bb => items_nil_seq 19 w.heap.size Bs Bb _ _ (fun W h => h.1)) hb hbs h1 h2 hm1 hm2
  rwa [show cutP most (sel pre aft none' []) = ([], false) from cut_all (Nat.zero_le _)] at h
theorem versions_nil (b pre : ByteArray) (aft : Nat) (most : Nat) (w : World) (hb : Name.bucketL b.data.toList = true) (hbs : b.size ≤ 1000) (ho : Name.objectL pre.data.toList = true) (h1 : pre.size ≤ 200) (hm1 : 1 ≤ most) (hm2 : most ≤ 256) :
    Calls Tryd.prog 33 #[.nilFunc, .string b, .string pre, .int .u64 (aft : Int), .int .i64 (most : Int)] w fun e w' => PageR w ([], false) e w' := by
  have h := versions_gen .nilFunc (.inl rfl) [] b pre aft most w (fun Bs Bb => items_nil_seq 19 w.heap.size Bs Bb _ _ (fun W h => h.1)) hb hbs ho h1 hm1 hm2
  rwa [show cutP most (selV pre aft []) = ([], false) from cut_all (Nat.zero_le _)] at h

end Go.Proofs.YtaeiahkomdpcoaaDoor.Page
end

section
/- What hoardlaw24.PageOthers wants, in plain Lean: versions of another bucket ahead of a row make no difference to its pages. -/
namespace Go.Proofs.YtaeiahkomdpcoaaDoor.Page
open Go Go.RowKit Go.Deep Go.Proofs.YtaeiahkomdpcoaaDoor.Seq

def lastB (out : List Ver) (v : Ver) : Bool := match out.getLast? with | none => true | some u => lt (keyOf u) (keyOf v)
def insO (out : List Ver) (v : Ver) : List Ver := if (okB v && lastB out v) = true then out ++ [v] else out
def othersV (l : List Ver) : List Ver := l.foldl insO []
theorem others_step {l : List Ver} {k : Nat} (hlt : k < l.length) : othersV (l.take (k + 1)) = insO (othersV (l.take k)) l[k] := by
  rw [List.take_add_one, List.getElem?_eq_getElem hlt]
  unfold othersV
  rw [List.foldl_append]
  rfl
theorem insO_length (out : List Ver) (v : Ver) : (insO out v).length ≤ out.length + 1 := by
  unfold insO
  split
  · simp
  · omega
theorem othersF_len : ∀ l acc : List Ver, (l.foldl insO acc).length ≤ acc.length + l.length
  | [], acc => by simp
  | v :: l, acc => by
    have h1 := othersF_len l (insO acc v)
    have h2 := insO_length acc v
    simp only [List.foldl_cons, List.length_cons]
    omega
theorem others_len (l : List Ver) : (othersV l).length ≤ l.length := by
  have := othersF_len l []
  simpa [othersV] using this
theorem insO_all {b : ByteArray} {out : List Ver} {v : Ver} (h : AllIn b out) (hv : v.bk = b) (hn : v.n ≤ Name.top) : AllIn b (insO out v) := by
  unfold insO
  split
  · rename_i ho
    rw [Bool.and_eq_true] at ho
    intro u hu
    rcases List.mem_append.1 hu with hu | hu
    · exact h u hu
    · rw [List.mem_singleton] at hu
      subst hu
      exact ⟨ho.1, hv, hn⟩
  · exact h
theorem othersF_all {b : ByteArray} : ∀ (l acc : List Ver), (∀ v ∈ l, v.bk = b ∧ v.n ≤ Name.top) → AllIn b acc → AllIn b (l.foldl insO acc)
  | [], _, _, h1 => h1
  | v :: l, acc, h, h1 => othersF_all l (insO acc v) (fun u hu => h u (List.mem_cons_of_mem _ hu)) (insO_all h1 (h v List.mem_cons_self).1 (h v List.mem_cons_self).2)
theorem others_all {b : ByteArray} (l : List Ver) (h : ∀ v ∈ l, v.bk = b ∧ v.n ≤ Name.top) : AllIn b (othersV l) := othersF_all l [] h (fun u hu => by cases hu)

theorem others_bad {l out : List Ver} {k : Nat} {v : Ver} {pr : Pr} {hlt : k < l.length} (ho : out = othersV (l.take k)) (hv : v = l[k]) (hp : pr = pairS v) (hz : pr.1.toList.isEmpty = true) : out = othersV (l.take (k + 1)) := by
  rw [others_step hlt, ← ho, ← hv]
  rw [none_nil, decide_eq_true_eq] at hz
  have hb : okB v = false := by
    cases h : okB v with
    | false => rfl
    | true =>
      unfold pairS at hp
      rw [if_pos h] at hp
      subst hp
      exact absurd hz (keyOf_ne v)
  unfold insO
  rw [hb]
  rfl
theorem others_good {l out : List Ver} {k : Nat} {v : Ver} {pr : Pr} {hlt : k < l.length} (ho : out = othersV (l.take k)) (hv : v = l[k]) (hp : pr = pairS v) (hz : pr.1.toList.isEmpty = false) :
    pr = prOf v ∧ (out = [] → othersV (l.take (k + 1)) = out ++ [v]) ∧ (∀ h : 0 < out.length, lt (keyOf (out[out.length - 1]'(by omega))) pr.1 = true → othersV (l.take (k + 1)) = out ++ [v]) ∧ (∀ h : 0 < out.length, lt (keyOf (out[out.length - 1]'(by omega))) pr.1 = false → othersV (l.take (k + 1)) = out) := by
  have hb : okB v = true := by
    cases h : okB v with
    | true => rfl
    | false =>
      unfold pairS at hp
      rw [if_neg (by rw [h]; decide)] at hp
      subst hp
      rw [none_nil, decide_eq_false_iff_not] at hz
      exact absurd rfl hz
  have hpr : pr = prOf v := by rw [hp]; unfold pairS; rw [if_pos hb]
  subst hpr
  have hst : othersV (l.take (k + 1)) = insO out v := by rw [others_step hlt, ← ho, ← hv]
  have hla : ∀ h : 0 < out.length, out.getLast? = some (out[out.length - 1]'(by omega)) := fun h => by
    rw [List.getLast?_eq_getElem?, List.getElem?_eq_getElem]
  have hla : ∀ h : 0 < out.length, lastB out v = lt (keyOf (out[out.length - 1]'(by omega))) (prOf v).1 := fun h => by
    unfold lastB
    rw [hla h]
    rfl
  refine ⟨rfl, fun h => ?_, fun h hl => ?_, fun h hl => ?_⟩
  · rw [hst, h]
    unfold insO
    rw [hb]
    rfl
  · rw [hst]
    unfold insO
    rw [hb, hla h, hl]
    rfl
  · rw [hst]
    unfold insO
    rw [hb, hla h, hl]
    rfl

/-- What is known of a row and of all. -/
structure AllK (vs one : List Ver) : Prop where
  ok : ∀ v ∈ vs, v.Ok
  len : vs.length ≤ 1000
  items : itemsOf kB vs = one
theorem allK_one (l : List Ver) (hl : l.length ≤ 60) (hb : ∀ v ∈ l, v.bk = kB) (hn : ∀ v ∈ l, v.n ≤ Name.top) : AllK (rowsV l) (rowsV l) := by
  obtain ⟨h1, _, h3⟩ := rowsV_facts (b := kB) l (fun v hv => ⟨hb v hv, hn v hv⟩)
  exact ⟨fun v hv => okB_ok (h1 v hv).1 (h1 v hv).2.2, by omega, itemsOf_self (fun v hv => (h1 v hv).2.1)⟩
theorem allK_all (l o : List Ver) (hl : l.length ≤ 60) (hb : ∀ v ∈ l, v.bk = kB) (hn : ∀ v ∈ l, v.n ≤ Name.top) (ho : o.length ≤ 60) (hbo : ∀ v ∈ o, v.bk = jB) (hno : ∀ v ∈ o, v.n ≤ Name.top) : AllK (othersV o ++ rowsV l) (rowsV l) := by
  have h1 := allK_one l hl hb hn
  have h2 := others_all (b := jB) o (fun v hv => ⟨hbo v hv, hno v hv⟩)
  have h3 := others_len o
  have h4 := rows_len l
  refine ⟨fun v hv => ?_, by rw [List.length_append]; omega, ?_⟩
  · rcases List.mem_append.1 hv with hv | hv
    · exact okB_ok (h2 v hv).1 (h2 v hv).2.2
    · exact h1.ok v hv
  · rw [itemsOf_app, h1.items, itemsOf_none (fun v hv => by rw [(h2 v hv).2.1]; decide), List.nil_append]

theorem names_o {A : Option Addr} {c : Nat} {vs one : List Ver} {pre : ByteArray} {most : Nat} {w : World} (hK : AllK vs one) (h : AllAt w A vs) (h1 : pre.size ≤ 200) (hm1 : 1 ≤ most) (hm2 : most ≤ 256) {pl : List Ver} {m : Bool} (hr : cutP most (sel pre none' none' one) = (pl, m)) :
    Calls Tryd.prog 30 #[ofV w.heap.size, .string ⟨#[107]⟩, .string pre, .string ⟨#[]⟩, .int .i64 (most : Int)] (w.alloc (.cells #[.slice A vs.length c] 48)) fun e w' =>
      ∃ A' cp, e = .returned (.tuple #[.agg #[.slice A' pl.length cp, .bool m], .int .i64 0]) ∧ ItsAt w' A' pl ∧ Below w.heap.size w w' :=
  (names_of A c vs kB pre none' most w hK.ok (by have := hK.len; omega) h (by kernel_rfl) (by decide) h1 (by decide) hm1 hm2).mono fun e w' ⟨A', cp, he, hI, hB⟩ => by
    rw [hK.items, hr] at he hI
    exact ⟨A', cp, he, hI, hB⟩
/-- What Versions answers there. -/
def verP (most : Nat) (nm : ByteArray) (n : Nat) (one : List Ver) : List Ver × Bool := if Name.objectL nm.data.toList = true then cutP most (selV nm n one) else ([], false)
def verE (nm : ByteArray) : Int := if Name.objectL nm.data.toList = true then 0 else 2
theorem versions_o {A : Option Addr} {c : Nat} {vs one : List Ver} {pre : ByteArray} {n most : Nat} {w : World} (hK : AllK vs one) (h : AllAt w A vs) (h1 : pre.size ≤ 200) (hm1 : 1 ≤ most) (hm2 : most ≤ 256) {pl : List Ver} {m : Bool} (hr : verP most pre n one = (pl, m)) :
    Calls Tryd.prog 33 #[ofV w.heap.size, .string ⟨#[107]⟩, .string pre, .int .u64 (n : Int), .int .i64 (most : Int)] (w.alloc (.cells #[.slice A vs.length c] 48)) fun e w' =>
      ∃ A' cp, e = .returned (.tuple #[.agg #[.slice A' pl.length cp, .bool m], .int .i64 (verE pre)]) ∧ ItsAt w' A' pl ∧ Below w.heap.size w w' := by
  unfold verP at hr
  unfold verE
  by_cases ho : Name.objectL pre.data.toList = true
  · rw [if_pos ho] at hr
    rw [if_pos ho]
    refine (versions_of A c vs kB pre n most w hK.ok (by have := hK.len; omega) h (by kernel_rfl) (by decide) ho h1 hm1 hm2).mono fun e w' ⟨A', cp, he, hI, hB⟩ => ?_
    rw [hK.items, hr] at he hI
    exact ⟨A', cp, he, hI, hB⟩
  · rw [if_neg ho] at hr
    rw [if_neg ho]
    obtain ⟨rfl, rfl⟩ := Prod.mk.inj hr
    refine (versions_bad _ kB pre n most _ (by decide) (by omega) (fun hh => ho hh.2.1)).mono fun e w' ⟨he, hB⟩ => ?_
    exact ⟨none, 0, he, ItsAt.nil _ _, below_of (below_one w _) hB⟩

theorem OwnP.none {w : World} {B : Nat} {cp : Nat} {out : List Ver} (h : OwnP w B none cp out) : out = [] := by
  rcases h.2 with ⟨hv, hn⟩ | ⟨g, cap, cur, hv, _⟩
  · exact List.eq_nil_of_length_eq_zero hn
  · cases hv
theorem OwnP.cells {w : World} {B : Nat} {ad : Addr} {cp : Nat} {out : List Ver} (h : OwnP w B (some ad) cp out) : ∀ i u, (prCells out)[i]? = some u → w.cell? (ad.add i) = some u := by
  rcases h.2 with ⟨hv, hn⟩ | ⟨g, cap, cur, hv, _⟩
  · cases hv
  · cases hv
    exact fun i u hu => World.ownsRow.cells h (g := g) rfl _ _ hu
theorem prCells_get2 {out : List Ver} {w : World} {ad : Addr} (HC : ∀ i u, (prCells out)[i]? = some u → w.cell? (ad.add i) = some u) (h : 0 < out.length) : w.cell? (ad.add ((out.length - 1) * 2)) = some (.string (keyOf (out[out.length - 1]'(by omega)))) :=
  HC _ _ (prCells_get out _ _ (List.getElem?_eq_getElem (by omega))).1
theorem own_snoc {w : World} {B : Nat} {v : Ver} {pr : Pr} {u : Value} {xs : List Ver} (hp : pr = prOf v) (h : w.ownsRow B 64 2 u (xs.length + 1) (prCells xs ++ [.string pr.1, .string pr.2])) : ∃ A c, u = .slice (some A) (xs ++ [v]).length c ∧ OwnP w B (some A) c (xs ++ [v]) := by
  have hc : prCells (xs ++ [v]) = prCells xs ++ [.string pr.1, .string pr.2] := by rw [prCells_app, hp]; rfl
  obtain ⟨g, cap, rfl, _, _⟩ := h.form (by omega)
  refine ⟨_, cap, by rw [List.length_append]; rfl, ?_⟩
  unfold OwnP
  rw [List.length_append, hc]
  exact h
theorem own_two {w : World} {B : Nat} {u : Value} {xs ys : List Ver} (h : w.ownsRow B 64 2 u (xs.length + ys.length) (prCells xs ++ prCells ys)) : ∃ A c, u = .slice A (xs ++ ys).length c ∧ OwnP w B A c (xs ++ ys) := by
  have h' : w.ownsRow B 64 2 u (xs ++ ys).length (prCells (xs ++ ys)) := by rw [prCells_app, List.length_append]; exact h
  rcases h'.2 with ⟨hv, hn⟩ | ⟨g, cap, cur, hv, _⟩
  · refine ⟨none, 0, by rw [hv, hn], ?_⟩
    unfold OwnP
    rw [hv] at h'
    rw [hn] at h' ⊢
    exact h'
  · exact ⟨_, cap, hv, by unfold OwnP; rw [← hv]; exact h'⟩

end Go.Proofs.YtaeiahkomdpcoaaDoor.Page
end
