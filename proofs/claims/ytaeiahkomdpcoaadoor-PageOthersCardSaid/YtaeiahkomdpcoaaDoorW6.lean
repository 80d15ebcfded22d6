/- Texts merged into one: part 6 of 12. -/
import Derived.Laws.ResultCell
import Derived.Laws.Rows
import Derived.Test.YtaeiahkomdpcoaaDoorW5

section
/- The walk of package name's Decode. -/
namespace Go.Proofs.YtaeiahkomdpcoaaDoor.Name
open Go.RowKit Go.Shelf

theorem cut_calls (s : ByteArray) (w : World) (hv : Var0 w) (hs : s.size ≤ 10000) : Calls Tryd.prog 38 #[.string s, .string ⟨#[0]⟩] w fun e w' => e = .returned (.tuple #[.string (bs (Lib.cut s.data.toList [0]).1), .string (bs (Lib.cut s.data.toList [0]).2.1), .bool (Lib.cut s.data.toList [0]).2.2]) ∧ Below w.heap.size w w' := by
  obtain ⟨m, hm, _⟩ := hv
  refine (Tryd.strings_Cut s ⟨#[0]⟩ m w (by omega) hm).mono ?_
  rintro e w' ⟨rfl, n, rfl⟩
  exact ⟨rfl, below_drewN (Below.refl _ _) n⟩

def Key.cells (k : Key) : Array Value := #[.int .u8 (k.kind : Int), .string k.bucket, .string k.name, .int .u64 (k.n : Int), .int .i64 k.part]
/-- A key in a block. -/
def KeyAt (w : World) (b : Nat) (k : Key) : Prop := w.heap[b]? = some (.cells k.cells 24 (0, 0))
def zeroK : Key := ⟨0, ⟨#[]⟩, ⟨#[]⟩, 0, 0⟩
theorem KeyAt.lt {w : World} {b : Nat} {k : Key} (h : KeyAt w b k) : b < w.heap.size := (Array.getElem?_eq_some_iff.1 h).1
theorem KeyAt.below {w w' : World} {b : Nat} {k : Key} (h : KeyAt w b k) (hb : Below w.heap.size w w') : KeyAt w' b k := (hb.block _ h.lt).trans h
theorem KeyAt.drew {w : World} {b : Nat} {k : Key} (h : KeyAt w b k) : KeyAt w.drew b k := h
theorem KeyAt.c {w : World} {b : Nat} {k : Key} (h : KeyAt w b k) : w.cell? ⟨b, 0, none⟩ = some (.int .u8 (k.kind : Int)) ∧ w.cell? ⟨b, 1, none⟩ = some (.string k.bucket) ∧ w.cell? ⟨b, 2, none⟩ = some (.string k.name) ∧ w.cell? ⟨b, 3, none⟩ = some (.int .u64 (k.n : Int)) ∧ w.cell? ⟨b, 4, none⟩ = some (.int .i64 k.part) := by
  refine ⟨?_, ?_, ?_, ?_, ?_⟩ <;> (rw [Joins.cell_of_block h]; rfl)
theorem KeyAt.f {w : World} {b : Nat} {k : Key} (h : KeyAt w b k) (i : Nat) : w.frozen? ⟨b, i, none⟩ = false := Lib.frozen_of_heap h i
theorem KeyAt.set1 {w : World} {b : Nat} {k : Key} (h : KeyAt w b k) (x : ByteArray) : KeyAt (w.setCell ⟨b, 1, none⟩ (.string x)) b { k with bucket := x } := by
  unfold KeyAt at h ⊢; simp [World.setCell, Array.getElem?_modify, h, Key.cells]
theorem KeyAt.set2 {w : World} {b : Nat} {k : Key} (h : KeyAt w b k) (x : ByteArray) : KeyAt (w.setCell ⟨b, 2, none⟩ (.string x)) b { k with name := x } := by
  unfold KeyAt at h ⊢; simp [World.setCell, Array.getElem?_modify, h, Key.cells]
theorem KeyAt.set3 {w : World} {b : Nat} {k : Key} (h : KeyAt w b k) (x : Nat) : KeyAt (w.setCell ⟨b, 3, none⟩ (.int .u64 (x : Int))) b { k with n := x } := by
  unfold KeyAt at h ⊢; simp [World.setCell, Array.getElem?_modify, h, Key.cells]
theorem KeyAt.set4 {w : World} {b : Nat} {k : Key} (h : KeyAt w b k) (x : Int) : KeyAt (w.setCell ⟨b, 4, none⟩ (.int .i64 x)) b { k with part := x } := by
  unfold KeyAt at h ⊢; simp [World.setCell, Array.getElem?_modify, h, Key.cells]
theorem KeyAt.set0 {w : World} {b : Nat} {k : Key} (h : KeyAt w b k) (x : Nat) : KeyAt (w.setCell ⟨b, 0, none⟩ (.int .u8 (x : Int))) b { k with kind := x } := by
  unfold KeyAt at h ⊢; simp [World.setCell, Array.getElem?_modify, h, Key.cells]
theorem KeyAt.setAll {w : World} {b : Nat} {k : Key} (h : KeyAt w b k) (K : Key) : KeyAt (((((w.setCell ⟨b, 0, none⟩ (.int .u8 (K.kind : Int))).setCell ⟨b, 1, none⟩ (.string K.bucket)).setCell ⟨b, 2, none⟩ (.string K.name)).setCell ⟨b, 3, none⟩ (.int .u64 (K.n : Int))).setCell ⟨b, 4, none⟩ (.int .i64 K.part)) b K :=
  ((((h.set0 K.kind).set1 K.bucket).set2 K.name).set3 K.n).set4 K.part
theorem KeyAt.other {w : World} {b : Nat} {k : Key} (h : KeyAt w b k) (a : Addr) (ha : a.block ≠ b) (v : Value) : KeyAt (w.setCell a v) b k :=
  (Below.heap_setCell _ _ _ _ (fun e => ha e.symm)).trans h

theorem Var0.set {w : World} (h : Var0 w) (a : Addr) (ha : a.block ≠ 0) (v : Value) : Var0 (w.setCell a v) := by
  obtain ⟨m, h1, h2⟩ := h
  exact ⟨m, (World.cell?_setCell_other _ _ _ _ (fun e => ha (by rw [e]))).trans h1, by simpa [World.setCell] using h2⟩
theorem Var0.drew {w : World} (h : Var0 w) : Var0 w.drew := h
theorem below_key {w w1 : World} (hb : Below w.heap.size w w1) (a : Addr) (ha : w.heap.size ≤ a.block) (v : Value) : Below w.heap.size w (w1.setCell a v) := below_set hb ha v

/-- What Decode answers of a key that it has read. -/
def decEnd (k : Key) (s : Bs) : Value := if mayB k = true ∧ encL k = s then .tuple #[k.val, .int .i64 0] else .tuple #[zeroK.val, .int .i64 8]

theorem results_key {P : Program} {fn : Func} {p u : Tmp} {ty : TypeId} (h : fn.results = #[.cell p ty, .tmp u]) (tmps : Array Value) (w : World) (g : Nat) (t : TypeId) (cs : Array Value) (fr : Nat × Nat) (d : TypeDesc)
    (hp : tmps.getD p undef = .pointer (some ⟨g, 0, none⟩)) (hg : w.heap[g]? = some (.cells cs t fr))
    (hu : P.underlying ty = some d) (hd : (match d with | .struct _ | .array _ _ => true | _ => false) = true) (hi : (P.info? ty).map (·.size) = some cs.size) :
    (results fn tmps).run P w = .ok (.tuple #[.agg cs, tmps.getD u undef]) w := by
  rw [results_cell_tmp h, hp]
  have e : (asAddr (.pointer (some ⟨g, 0, none⟩))).run P w = .ok ⟨g, 0, none⟩ w := rfl
  rw [e]
  simp only [Result.andThen, run_loadVar_row w g t ty cs fr d hg hu hd hi]

set_option maxHeartbeats 3200000 in
set_option maxRecDepth 100000 in
theorem decode3 (s : ByteArray) (qb qr nm r2 : Bs) (w : World) (hv : Var0 w) (hs : s.size ≤ 4096) (h0 : 0 < s.size) (hc : s[0].toNat = 3) (hq : Lib.cut (s.data.toList.drop 1) [0] = (qb, qr, true)) (hun : un qr = some (nm, r2)) (h8 : 8 ≤ r2.length)
    (hqb : qb.length ≤ 4096) (hqr : qr.length ≤ 4096) (hnm : nm.length ≤ 4096) (hr2 : r2.length ≤ 4096) :
    Calls Tryd.prog 14 #[.string s] w fun e w' => e = .returned (decEnd ⟨3, bs qb, bs nm, top - val (r2.take 8), 0⟩ s.data.toList) ∧ Below w.heap.size w w' := by
  have hne : s.toList.isEmpty = false := by rw [empty_iff, decide_eq_false_iff_not]; intro e; rw [e] at h0; exact absurd h0 (by decide)
  obtain ⟨R, hR⟩ : ∃ R, R = s.extract 1 s.size := ⟨_, rfl⟩
  have hRd : R.data.toList = s.data.toList.drop 1 := by rw [hR, str_drop]; rfl
  have HC := Lib.hid (fun W (h : Var0 W) => cut_calls R W h (by rw [← size_list, hRd, List.length_drop, size_list]; omega))
  rw [hRd, hq] at HC
  have HU := Lib.hid (fun W => unname_calls (bs qr) W (by rw [bs_size]; omega))
  rw [show (bs qr).data.toList = qr from rfl, hun] at HU
  obtain ⟨Y, hY⟩ : ∃ Y, Y = bs r2 := ⟨_, rfl⟩
  have hYz : 8 ≤ Y.size := by rw [hY, bs_size]; exact h8
  have hYz2 : Y.size ≤ 4096 := by rw [hY, bs_size]; exact hr2
  have HN := Lib.hid (fun W => number_calls (Y.extract 0 8) W (by rw [str_take, bs_size, List.length_take]; omega))
  rw [show (Y.extract 0 8).data.toList = r2.take 8 by rw [str_take, hY]; rfl] at HN
  have hN0 : val (r2.take 8) ≤ top := by
    have h1 := val_lt (r2.take 8)
    rw [List.length_take, Nat.min_eq_left h8] at h1
    have : (256 : Nat) ^ 8 = 18446744073709551616 := by decide
    unfold top; omega
  have hx := comp_u64 _ hN0
  have HEnc := Lib.hid (fun W (h : Var0 W) => encode_calls ⟨3, bs qb, bs nm, top - val (r2.take 8), 0⟩ W h ⟨by show (bs qb).size ≤ _; rw [bs_size]; exact hqb, by show (bs nm).size ≤ _; rw [bs_size]; exact hnm, by show 3 < 256; decide, Nat.sub_le _ _⟩)
  obtain ⟨N0, hN⟩ : ∃ N0, N0 = val (r2.take 8) := ⟨_, rfl⟩
  obtain ⟨N1, hN1⟩ : ∃ N1, N1 = top - N0 := ⟨_, rfl⟩
  rw [← hN] at HN hx HEnc
  rw [← hN]
  rw [← hN1] at hx HEnc
  rw [← hN1]
  unfold unV at HU
  simp only [← hY] at HU
  obtain ⟨zb, hzb⟩ : ∃ z, z = bs qb := ⟨_, rfl⟩
  obtain ⟨zr, hzr⟩ : ∃ z, z = bs qr := ⟨_, rfl⟩
  obtain ⟨zn, hzn⟩ : ∃ z, z = bs nm := ⟨_, rfl⟩
  rw [← hzb] at HEnc
  rw [← hzn] at HEnc
  rw [← hzb, ← hzn]
  simp only [← hzr, ← hzn] at HU
  simp only [← hzb, ← hzr] at HC
  have hRs : s.extract 1 s.size = R := hR.symm
  unfold encR at HEnc
  have hcase : ∃ (T : ByteArray) (E : Int) (out : Value), decEnd ⟨3, zb, zn, N1, 0⟩ s.data.toList = out ∧ Hid (∀ W, Var0 W → Calls Tryd.prog 11 #[(Key.mk 3 zb zn N1 0).val] W fun e w' => e = .returned (.tuple #[.string T, .int .i64 E]) ∧ Below W.heap.size W w') ∧
      ((E = 2 ∧ out = .tuple #[zeroK.val, .int .i64 8]) ∨ (E = 0 ∧ (T.toList == s.toList) = false ∧ out = .tuple #[zeroK.val, .int .i64 8]) ∨ (E = 0 ∧ (T.toList == s.toList) = true ∧ out = .tuple #[(Key.mk 3 zb zn N1 0).val, .int .i64 0])) := by
    unfold decEnd
    cases hm : mayB ⟨3, zb, zn, N1, 0⟩
    · rw [hm] at HEnc
      exact ⟨_, _, _, if_neg (by simp), HEnc, .inl ⟨rfl, rfl⟩⟩
    · rw [hm] at HEnc
      by_cases he : encL ⟨3, zb, zn, N1, 0⟩ = s.data.toList
      · exact ⟨_, _, _, if_pos ⟨rfl, he⟩, HEnc, .inr (.inr ⟨rfl, by rw [he, bs_list]; simp, rfl⟩)⟩
      · exact ⟨_, _, _, if_neg (fun h => he h.2), HEnc, .inr (.inl ⟨rfl, by
          rw [beq_eq_false_iff_ne, ByteArray.toList_eq, ByteArray.toList_eq]
          exact he, rfl⟩)⟩
  obtain ⟨T, E, out, hout, HEn2, hcase⟩ := hcase
  rw [hout]
  clear hN hN1 hzb hzr hzn hY hRd hq hun h8 hqb hqr hnm hr2 hN0 HEnc hout
  clear hR
  have HH : Hid (∀ W, Calls Tryd.prog 35 #[.int .u8 3] W fun e w' => e = .returned (.tuple #[.bool true, .bool true, .bool true, .bool false]) ∧ w' = W) := has_calls 3
  have hK0 : KeyAt ((w.alloc (.cells zeroK.cells 24)).alloc (.cells (Key.mk 3 ⟨#[]⟩ ⟨#[]⟩ 0 0).cells 24)) w.heap.size zeroK := KeyAt.below (w := w.alloc (.cells zeroK.cells 24)) (MapKept.heap_alloc w _).1 (below_one _ _)
  have hK1 : KeyAt ((w.alloc (.cells zeroK.cells 24)).alloc (.cells (Key.mk 3 ⟨#[]⟩ ⟨#[]⟩ 0 0).cells 24)) (w.heap.size + 1) (Key.mk 3 ⟨#[]⟩ ⟨#[]⟩ 0 0) := by
    have := (MapKept.heap_alloc (w.alloc (.cells zeroK.cells 24)) (.cells (Key.mk 3 ⟨#[]⟩ ⟨#[]⟩ 0 0).cells 24)).1
    rw [show (w.alloc (.cells zeroK.cells 24)).heap.size = w.heap.size + 1 by simp] at this
    exact this
  have hv1 := (hv.below (below_one w (.cells zeroK.cells 24))).below (below_one _ (.cells (Key.mk 3 ⟨#[]⟩ ⟨#[]⟩ 0 0).cells 24))
  have b1 := below_alloc (below_one w (.cells zeroK.cells 24)) (.cells (Key.mk 3 ⟨#[]⟩ ⟨#[]⟩ 0 0).cells 24)
  rcases hcase with ⟨rfl, rfl⟩ | ⟨rfl, hTs, rfl⟩ | ⟨rfl, hTs, rfl⟩
  · go_enter Tryd.func14, Tryd.ntmps14
    go_wp2_with fail
    refine (HH.out _).mono ?_
    rintro e w1 ⟨rfl, hw1⟩
    subst hw1
    go_wp2_with fail
    refine (HC.out _ hv1).mono ?_
    rintro e w2 ⟨rfl, hb2⟩
    have hA0 := hK0.below hb2
    have hA1 := hK1.below hb2
    have hv2 := hv1.below hb2
    have b2 := below_of b1 hb2
    obtain ⟨p0, p1, p2, p3, p4⟩ := hA1.c
    have f1 := hA1.f 1
    have hne1 : w.heap.size + 1 ≠ w.heap.size := by omega
    have hB1 := hA1.set1 zb
    have hB0 := hA0.other ⟨w.heap.size + 1, 1, none⟩ hne1 (.string zb)
    have hvB := hv2.set ⟨w.heap.size + 1, 1, none⟩ (by simp) (.string zb)
    have bB := below_key b2 ⟨w.heap.size + 1, 1, none⟩ (by simp) (.string zb)
    clear hK0 hK1 hv1 b1 hb2
    go_wp2_with fail
    refine (HU.out _).mono ?_
    rintro e w3 ⟨rfl, hb3⟩
    have hC0 := hB0.below hb3
    have hC1 := hB1.below hb3
    have hv3 := hvB.below hb3
    have b3 := below_of bB hb3
    clear p0 p1 p2 p3 p4 f1 hA0 hA1 hB0 hB1 hvB bB hb3 hv2 b2
    obtain ⟨p0, p1, p2, p3, p4⟩ := hC1.c
    have f2 := hC1.f 2
    have f3 := hC1.f 3
    have hd1 : decide (Y.size < 8) = false := by rw [decide_eq_false_iff_not]; omega
    have hD1 := ((hC1.set2 zn).set3 N0).set3 N1
    have hD0 := ((hC0.other ⟨w.heap.size + 1, 2, none⟩ hne1 (.string zn)).other ⟨w.heap.size + 1, 3, none⟩ hne1 (.int .u64 (N0 : Int))).other ⟨w.heap.size + 1, 3, none⟩ hne1 (.int .u64 (N1 : Int))
    have hvD := ((hv3.set ⟨w.heap.size + 1, 2, none⟩ (by simp) (.string zn)).set ⟨w.heap.size + 1, 3, none⟩ (by simp) (.int .u64 (N0 : Int))).set ⟨w.heap.size + 1, 3, none⟩ (by simp) (.int .u64 (N1 : Int))
    have bD := below_drew (below_key (below_key (below_key b3 ⟨w.heap.size + 1, 2, none⟩ (by simp) (.string zn)) ⟨w.heap.size + 1, 3, none⟩ (by simp) (.int .u64 (N0 : Int))) ⟨w.heap.size + 1, 3, none⟩ (by simp) (.int .u64 (N1 : Int)))
    obtain ⟨r0, r1, r2, r3, r4⟩ := hD1.c
    have hE1 := hD1.drew
    have hE0 := hD0.drew
    have hvE := hvD.drew
    clear hC0 hC1 hv3 hD0 hvD b3
    go_wp2_with fail
    go_region_held3 (fun _ => True) (first | trivial) (first | (go_at_call 40; refine (HN.out _).mono ?_; rintro e wN ⟨rfl, hwN⟩; subst hwN))
    all_goals
      go_wp2_with fail
      refine (HEn2.out _ hvE).mono ?_
      rintro e w4 ⟨rfl, hb4⟩
      have hF1 := hE1.below hb4
      have hF0 := hE0.below hb4
      have b4 := below_of bD hb4
      clear p0 p1 p2 p3 p4 r0 r1 r2 r3 r4 f2 f3 hE1 hE0 hvE bD hb4 HEn2 HC HU HN
      obtain ⟨p0, p1, p2, p3, p4⟩ := hF1.c
      obtain ⟨z0, z1, z2, z3, z4⟩ := hF0.c
      have g0 := hF0.f 0
      have g1 := hF0.f 1
      have g2 := hF0.f 2
      have g3 := hF0.f 3
      have g4 := hF0.f 4
      have hG := hF0.setAll zeroK
      go_wp2
      refine bodyPost_ret (results_key rfl _ _ w.heap.size 24 (Key.cells zeroK) (0, 0) _ rfl hG Tryd.underlying24 rfl (by kernel_rfl)) rfl ?_
      exact ⟨rfl, below_key (below_key (below_key (below_key (below_key b4 ⟨w.heap.size, 0, none⟩ (Nat.le_refl _) _) ⟨w.heap.size, 1, none⟩ (Nat.le_refl _) _) ⟨w.heap.size, 2, none⟩ (Nat.le_refl _) _) ⟨w.heap.size, 3, none⟩ (Nat.le_refl _) _) ⟨w.heap.size, 4, none⟩ (Nat.le_refl _) _⟩
  · go_enter Tryd.func14, Tryd.ntmps14
    go_wp2_with fail
    refine (HH.out _).mono ?_
    rintro e w1 ⟨rfl, hw1⟩
    subst hw1
    go_wp2_with fail
    refine (HC.out _ hv1).mono ?_
    rintro e w2 ⟨rfl, hb2⟩
    have hA0 := hK0.below hb2
    have hA1 := hK1.below hb2
    have hv2 := hv1.below hb2
    have b2 := below_of b1 hb2
    obtain ⟨p0, p1, p2, p3, p4⟩ := hA1.c
    have f1 := hA1.f 1
    have hne1 : w.heap.size + 1 ≠ w.heap.size := by omega
    have hB1 := hA1.set1 zb
    have hB0 := hA0.other ⟨w.heap.size + 1, 1, none⟩ hne1 (.string zb)
    have hvB := hv2.set ⟨w.heap.size + 1, 1, none⟩ (by simp) (.string zb)
    have bB := below_key b2 ⟨w.heap.size + 1, 1, none⟩ (by simp) (.string zb)
    clear hK0 hK1 hv1 b1 hb2
    go_wp2_with fail
    refine (HU.out _).mono ?_
    rintro e w3 ⟨rfl, hb3⟩
    have hC0 := hB0.below hb3
    have hC1 := hB1.below hb3
    have hv3 := hvB.below hb3
    have b3 := below_of bB hb3
    clear p0 p1 p2 p3 p4 f1 hA0 hA1 hB0 hB1 hvB bB hb3 hv2 b2
    obtain ⟨p0, p1, p2, p3, p4⟩ := hC1.c
    have f2 := hC1.f 2
    have f3 := hC1.f 3
    have hd1 : decide (Y.size < 8) = false := by rw [decide_eq_false_iff_not]; omega
    have hD1 := ((hC1.set2 zn).set3 N0).set3 N1
    have hD0 := ((hC0.other ⟨w.heap.size + 1, 2, none⟩ hne1 (.string zn)).other ⟨w.heap.size + 1, 3, none⟩ hne1 (.int .u64 (N0 : Int))).other ⟨w.heap.size + 1, 3, none⟩ hne1 (.int .u64 (N1 : Int))
    have hvD := ((hv3.set ⟨w.heap.size + 1, 2, none⟩ (by simp) (.string zn)).set ⟨w.heap.size + 1, 3, none⟩ (by simp) (.int .u64 (N0 : Int))).set ⟨w.heap.size + 1, 3, none⟩ (by simp) (.int .u64 (N1 : Int))
    have bD := below_drew (below_key (below_key (below_key b3 ⟨w.heap.size + 1, 2, none⟩ (by simp) (.string zn)) ⟨w.heap.size + 1, 3, none⟩ (by simp) (.int .u64 (N0 : Int))) ⟨w.heap.size + 1, 3, none⟩ (by simp) (.int .u64 (N1 : Int)))
    obtain ⟨r0, r1, r2, r3, r4⟩ := hD1.c
    have hE1 := hD1.drew
    have hE0 := hD0.drew
    have hvE := hvD.drew
    clear hC0 hC1 hv3 hD0 hvD b3
    go_wp2_with fail
    go_region_held3 (fun _ => True) (first | trivial) (first | (go_at_call 40; refine (HN.out _).mono ?_; rintro e wN ⟨rfl, hwN⟩; subst hwN))
    all_goals
      go_wp2_with fail
      refine (HEn2.out _ hvE).mono ?_
      rintro e w4 ⟨rfl, hb4⟩
      have hF1 := hE1.below hb4
      have hF0 := hE0.below hb4
      have b4 := below_of bD hb4
      clear p0 p1 p2 p3 p4 r0 r1 r2 r3 r4 f2 f3 hE1 hE0 hvE bD hb4 HEn2 HC HU HN
      obtain ⟨p0, p1, p2, p3, p4⟩ := hF1.c
      obtain ⟨z0, z1, z2, z3, z4⟩ := hF0.c
      have g0 := hF0.f 0
      have g1 := hF0.f 1
      have g2 := hF0.f 2
      have g3 := hF0.f 3
      have g4 := hF0.f 4
      have hG := hF0.setAll zeroK
      go_wp2
      refine bodyPost_ret (results_key rfl _ _ w.heap.size 24 (Key.cells zeroK) (0, 0) _ rfl hG Tryd.underlying24 rfl (by kernel_rfl)) rfl ?_
      exact ⟨rfl, below_key (below_key (below_key (below_key (below_key b4 ⟨w.heap.size, 0, none⟩ (Nat.le_refl _) _) ⟨w.heap.size, 1, none⟩ (Nat.le_refl _) _) ⟨w.heap.size, 2, none⟩ (Nat.le_refl _) _) ⟨w.heap.size, 3, none⟩ (Nat.le_refl _) _) ⟨w.heap.size, 4, none⟩ (Nat.le_refl _) _⟩
  · go_enter Tryd.func14, Tryd.ntmps14
    go_wp2_with fail
    refine (HH.out _).mono ?_
    rintro e w1 ⟨rfl, hw1⟩
    subst hw1
    go_wp2_with fail
    refine (HC.out _ hv1).mono ?_
    rintro e w2 ⟨rfl, hb2⟩
    have hA0 := hK0.below hb2
    have hA1 := hK1.below hb2
    have hv2 := hv1.below hb2
    have b2 := below_of b1 hb2
    obtain ⟨p0, p1, p2, p3, p4⟩ := hA1.c
    have f1 := hA1.f 1
    have hne1 : w.heap.size + 1 ≠ w.heap.size := by omega
    have hB1 := hA1.set1 zb
    have hB0 := hA0.other ⟨w.heap.size + 1, 1, none⟩ hne1 (.string zb)
    have hvB := hv2.set ⟨w.heap.size + 1, 1, none⟩ (by simp) (.string zb)
    have bB := below_key b2 ⟨w.heap.size + 1, 1, none⟩ (by simp) (.string zb)
    clear hK0 hK1 hv1 b1 hb2
    go_wp2_with fail
    refine (HU.out _).mono ?_
    rintro e w3 ⟨rfl, hb3⟩
    have hC0 := hB0.below hb3
    have hC1 := hB1.below hb3
    have hv3 := hvB.below hb3
    have b3 := below_of bB hb3
    clear p0 p1 p2 p3 p4 f1 hA0 hA1 hB0 hB1 hvB bB hb3 hv2 b2
    obtain ⟨p0, p1, p2, p3, p4⟩ := hC1.c
    have f2 := hC1.f 2
    have f3 := hC1.f 3
    have hd1 : decide (Y.size < 8) = false := by rw [decide_eq_false_iff_not]; omega
    have hD1 := ((hC1.set2 zn).set3 N0).set3 N1
    have hD0 := ((hC0.other ⟨w.heap.size + 1, 2, none⟩ hne1 (.string zn)).other ⟨w.heap.size + 1, 3, none⟩ hne1 (.int .u64 (N0 : Int))).other ⟨w.heap.size + 1, 3, none⟩ hne1 (.int .u64 (N1 : Int))
    have hvD := ((hv3.set ⟨w.heap.size + 1, 2, none⟩ (by simp) (.string zn)).set ⟨w.heap.size + 1, 3, none⟩ (by simp) (.int .u64 (N0 : Int))).set ⟨w.heap.size + 1, 3, none⟩ (by simp) (.int .u64 (N1 : Int))
    have bD := below_drew (below_key (below_key (below_key b3 ⟨w.heap.size + 1, 2, none⟩ (by simp) (.string zn)) ⟨w.heap.size + 1, 3, none⟩ (by simp) (.int .u64 (N0 : Int))) ⟨w.heap.size + 1, 3, none⟩ (by simp) (.int .u64 (N1 : Int)))
    obtain ⟨r0, r1, r2, r3, r4⟩ := hD1.c
    have hE1 := hD1.drew
    have hE0 := hD0.drew
    have hvE := hvD.drew
    clear hC0 hC1 hv3 hD0 hvD b3
    go_wp2_with fail
    go_region_held3 (fun _ => True) (first | trivial) (first | (go_at_call 40; refine (HN.out _).mono ?_; rintro e wN ⟨rfl, hwN⟩; subst hwN))
    all_goals
      go_wp2_with fail
      refine (HEn2.out _ hvE).mono ?_
      rintro e w4 ⟨rfl, hb4⟩
      have hF1 := hE1.below hb4
      have hF0 := hE0.below hb4
      have b4 := below_of bD hb4
      clear p0 p1 p2 p3 p4 r0 r1 r2 r3 r4 f2 f3 hE1 hE0 hvE bD hb4 HEn2 HC HU HN
      obtain ⟨p0, p1, p2, p3, p4⟩ := hF1.c
      obtain ⟨z0, z1, z2, z3, z4⟩ := hF0.c
      have g0 := hF0.f 0
      have g1 := hF0.f 1
      have g2 := hF0.f 2
      have g3 := hF0.f 3
      have g4 := hF0.f 4
      have hG := hF0.setAll ⟨3, zb, zn, N1, 0⟩
      go_wp2
      refine bodyPost_ret (results_key rfl _ _ w.heap.size 24 (Key.cells ⟨3, zb, zn, N1, 0⟩) (0, 0) _ rfl hG Tryd.underlying24 rfl (by kernel_rfl)) rfl ?_
      exact ⟨rfl, below_key (below_key (below_key (below_key (below_key b4 ⟨w.heap.size, 0, none⟩ (Nat.le_refl _) _) ⟨w.heap.size, 1, none⟩ (Nat.le_refl _) _) ⟨w.heap.size, 2, none⟩ (Nat.le_refl _) _) ⟨w.heap.size, 3, none⟩ (Nat.le_refl _) _) ⟨w.heap.size, 4, none⟩ (Nat.le_refl _) _⟩

end Go.Proofs.YtaeiahkomdpcoaaDoor.Name
end

section
/- The walks of package name's Behind, of hoardlaw13's long and works. -/
namespace Go.Proofs.YtaeiahkomdpcoaaDoor.Name
open Go.RowKit Go.Shelf

/-- What is behind all that begins with these bytes (the bytes from the end on). -/
def behindR : Bs → Bs
  | [] => []
  | c :: r => if c = 255 then behindR r else r.reverse ++ [c + 1]
def behindL (l : Bs) : Bs := behindR l.reverse
theorem behind_end (s : Bs) (k : Nat) (h : k < s.length) : behindR (s.take (k + 1)).reverse = if s[k] = 255 then behindR (s.take k).reverse else s.take k ++ [s[k] + 1] := by
  rw [List.take_succ_eq_append_getElem h, List.reverse_append]
  simp only [List.reverse_cons, List.reverse_nil, List.nil_append, List.singleton_append, behindR, List.reverse_reverse]

theorem conv_one_drew (w : World) (n : Int) (c : UInt8) (hn : n = (c.toNat : Int)) (t : TypeId) :
    (convert 71 9 (.slice (some ⟨w.heap.size, 0, none⟩) 1 1)).run Tryd.prog (w.alloc (.cells #[.int .u8 n] t)).drew = .ok (.string (bs [c])) (w.alloc (.cells #[.int .u8 n] t)).drew := by
  subst hn
  have h : RowAt (w.alloc (.cells #[.int .u8 (c.toNat : Int)] t)) w.heap.size [c] := by
    intro i d hd
    cases i with
    | zero =>
      simp at hd; subst hd
      exact ⟨by simp, by simp⟩
    | succ i => simp at hd
  exact conv_row _ _ [c] 1 1 rfl h.drew

set_option maxHeartbeats 1600000 in
set_option maxRecDepth 100000 in
theorem behind_calls (s : ByteArray) (w : World) (hs : s.size ≤ 10000) : Calls Tryd.prog 13 #[.string s] w fun e w' => e = .returned (.string (bs (behindL s.data.toList))) ∧ Below w.heap.size w w' := by
  have hw0 : IntKind.i64.wrap ((s.size : Int) - 1) = (s.size : Int) - 1 := IntWalk.i64_in _ (by omega)
  go_enter Tryd.func13, Tryd.ntmps13
  go_wp2
  go_loopw [3] (fun iv wr => ∃ k : Nat, k ≤ s.size ∧ iv = .int .i64 ((k : Int) - 1) ∧ Hid (behindL s.data.toList = behindR (s.data.toList.take k).reverse) ∧ Below w.heap.size w wr) (fun iv _ => (intOf iv + 1).toNat)
  case atStart => exact ⟨s.size, Nat.le_refl _, rfl, (by show _ = _; rw [List.take_of_length_le (by rw [size_list]; exact Nat.le_refl _)]; rfl), Below.refl _ _⟩
  case round =>
    obtain ⟨k, hk, rfl, hB, hb⟩ := hrel
    cases k with
    | zero =>
      go_wp2
      go_ret
      refine ⟨?_, hb⟩
      rw [hB.out]; rfl
    | succ k =>
      have hkl : k < s.data.toList.length := by rw [size_list]; omega
      have hk2 : k < s.size := by omega
      have e1 : ((k + 1 : Nat) : Int) - 1 = (k : Int) := by omega
      rw [e1]
      have hst := behind_end s.data.toList k hkl
      have hck : s.data.toList[k] = s[k] := rfl
      rw [hck] at hst
      have hc8 := s[k].toNat_lt
      by_cases hc : s[k].toNat < 255
      · have hcB : decide ((s[k].toNat : Int) < 255) = true := by rw [decide_eq_true_iff]; omega
        have hcw : IntKind.u8.wrap ((s[k].toNat : Int) + 1) = (s[k].toNat : Int) + 1 := IntWalk.u8_in _ (by omega)
        have hadd : (s[k].toNat : Int) + 1 = ((s[k] + 1).toNat : Int) := by
          rw [UInt8.toNat_add]
          have : (1 : UInt8).toNat = 1 := rfl
          rw [this]
          omega
        have hcv := fun W => conv_one W ((s[k].toNat : Int) + 1) (s[k] + 1) hadd 5
        have hcv2 := fun W => conv_one_drew W ((s[k].toNat : Int) + 1) (s[k] + 1) hadd 5
        rw [if_neg (by intro e; rw [e] at hc; exact absurd hc (by decide))] at hst
        have HST := Lib.hid hst
        have hk3 : (k : Int) ≤ (s.size : Int) := by omega
        have hk4 : (0 : Int) ≤ (k : Int) := by omega
        have hsz : ¬ 9223372036854775807 < min k s.size + (bs [s[k] + 1]).size := by
          have h1 : (bs [s[k] + 1]).size = 1 := rfl
          rw [h1]; omega
        clear hst hadd hck e1
        go_wp2
        go_region
        go_wp2
        go_ret
        refine ⟨?_, below_drew (below_alloc hb _)⟩
        rw [hB.out, HST.out, str_take, bs_append]
        rfl
      · have hcB : decide ((s[k].toNat : Int) < 255) = false := by rw [decide_eq_false_iff_not]; omega
        have h255 : s[k] = 255 := UInt8.toNat_inj.1 (by show _ = 255; omega)
        rw [if_pos h255] at hst
        have HST := Lib.hid hst
        clear hst hck e1 h255
        go_wp2
        go_roundw
        case rel => exact ⟨k, by omega, by go_num, (by show _ = _; rw [hB.out, HST.out]), hb⟩
        case measure => simp [intOf]

/-- A list of texts at an address, nil let in. -/
def ListAt (w : World) (A : Option Addr) (vs : List Value) : Prop := 0 < vs.length → ∃ ad, A = some ad ∧ ad.block < w.heap.size ∧ ∀ i v, vs[i]? = some v → w.cell? (ad.add i) = some v
theorem listAt_lit (w : World) (vs : List Value) (t : TypeId) : ListAt (w.alloc (.cells vs.toArray t)) (some ⟨w.heap.size, 0, none⟩) vs := fun _ => by
  refine ⟨_, rfl, by simp, fun i v hv => ?_⟩
  have hb := (MapKept.heap_alloc w (.cells vs.toArray t)).1
  have e : (⟨w.heap.size, 0, none⟩ : Addr).add i = ⟨w.heap.size, i, none⟩ := by unfold Addr.add; split <;> simp_all
  rw [e, Joins.cell_of_block hb]
  simpa using hv

def LongR (t : List ByteArray) (w : World) (e : Ending) (w' : World) : Prop := ∃ b, e = .returned (.bool b) ∧ (b = false → ∀ s ∈ t, s.size ≤ 2048) ∧ w' = w

set_option maxHeartbeats 1600000 in
set_option maxRecDepth 100000 in
theorem long_calls (A : Option Addr) (c : Nat) (t : List ByteArray) (w : World) (h : ListAt w A (t.map .string)) (hn : t.length ≤ 1000) (hz : ∀ s ∈ t, s.size ≤ 9223372036854775807) :
    Calls Tryd.prog 9 #[.slice A t.length c] w (LongR t w) := by
  go_enter Tryd.func9, Tryd.ntmps9
  go_wp2
  go_loop [3, 4] (fun nv iv => ∃ k n : Nat, k ≤ t.length ∧ n ≤ 2048 * k ∧ nv = .int .i64 n ∧ iv = .int .i64 k ∧ Hid (∀ s ∈ t.take k, s.size ≤ 2048)) (fun _ iv => t.length - (intOf iv).toNat)
  case atStart => exact ⟨0, 0, by omega, by omega, rfl, rfl, Lib.hid (by simp)⟩
  case round =>
    obtain ⟨k, n, hk, hnn, rfl, rfl, hall⟩ := hrel
    by_cases hlt : k < t.length
    · obtain ⟨ad, rfl, _, hc⟩ := h (by rw [List.length_map]; omega)
      have hcx : w.cell? (ad.add k) = some (.string t[k]) := hc k _ (by simp [hlt])
      have hst := hz t[k] (List.getElem_mem hlt)
      have HN := Lib.hid (List.take_succ_eq_append_getElem hlt)
      obtain ⟨x, hxe⟩ : ∃ x, x = t[k] := ⟨_, rfl⟩
      rw [← hxe] at hcx hst HN
      clear hxe hc
      by_cases hx4 : 2048 < x.size
      · go_wp2
        go_ret
        exact ⟨true, rfl, by simp, rfl⟩
      · go_wp2
        go_round
        case rel =>
          refine ⟨k + 1, n + x.size, by omega, by omega, by go_num, by go_num, Lib.hid (fun s hs => ?_)⟩
          rw [HN.out, List.mem_append] at hs
          rcases hs with hs | hs
          · exact hall.out s hs
          · simp at hs; subst hs; omega
        case measure => simp [intOf]; omega
    · obtain rfl : k = t.length := by omega
      rw [List.take_length] at hall
      go_wp2
      go_ret
      exact ⟨_, rfl, fun _ => hall.out, rfl⟩

end Go.Proofs.YtaeiahkomdpcoaaDoor.Name
end

section
/- The walk of hoardlaw13.works. -/
namespace Go.Proofs.YtaeiahkomdpcoaaDoor.Name
open Go.RowKit Go.Shelf

def keyW : Key := ⟨3, ⟨#[97]⟩, ⟨#[120]⟩, 2, 0⟩
set_option maxRecDepth 100000 in
theorem enc_w : encR keyW = .tuple #[.string ⟨#[3, 97, 0, 120, 0, 1, 255, 255, 255, 255, 255, 255, 255, 253]⟩, .int .i64 0] := by kernel_rfl
set_option maxRecDepth 100000 in
theorem enc_w2 : encR ⟨2, ⟨#[45, 97]⟩, ⟨#[]⟩, 0, 0⟩ = .tuple #[.string ⟨#[]⟩, .int .i64 2] := by kernel_rfl
set_option maxRecDepth 100000 in
theorem dec_w : decEnd ⟨3, bs [97], bs [120], top - val [255, 255, 255, 255, 255, 255, 255, 253], 0⟩ [3, 97, 0, 120, 0, 1, 255, 255, 255, 255, 255, 255, 255, 253] = .tuple #[keyW.val, .int .i64 0] := by kernel_rfl
set_option maxRecDepth 100000 in
theorem dec_w2 : decEnd ⟨3, bs [97], bs [120], top - val [255, 255, 255, 255, 255, 255, 255, 253], 0⟩ [3, 97, 0, 120, 0, 1, 255, 255, 255, 255, 255, 255, 255, 253, 120] = .tuple #[zeroK.val, .int .i64 8] := by kernel_rfl

set_option maxHeartbeats 3200000 in
set_option maxRecDepth 100000 in
theorem works_calls (w : World) (hv : Var0 w) : Calls Tryd.prog 10 #[] w fun e w' => e = .returned (.bool true) ∧ Below w.heap.size w w' := by
  have E1 : Hid (∀ W, Var0 W → Calls Tryd.prog 11 #[.agg #[.int .u8 3, .string ⟨#[97]⟩, .string ⟨#[120]⟩, .int .u64 2, .int .i64 0]] W fun e w' => e = .returned (.tuple #[.string ⟨#[3, 97, 0, 120, 0, 1, 255, 255, 255, 255, 255, 255, 255, 253]⟩, .int .i64 0]) ∧ Below W.heap.size W w') := fun W h => by
    have := encode_calls keyW W h ⟨by decide, by decide, by decide, by decide⟩
    rw [enc_w] at this
    exact this
  have E2 : Hid (∀ W, Var0 W → Calls Tryd.prog 11 #[.agg #[.int .u8 2, .string ⟨#[45, 97]⟩, .string ⟨#[]⟩, .int .u64 0, .int .i64 0]] W fun e w' => e = .returned (.tuple #[.string ⟨#[]⟩, .int .i64 2]) ∧ Below W.heap.size W w') := fun W h => by
    have := encode_calls ⟨2, ⟨#[45, 97]⟩, ⟨#[]⟩, 0, 0⟩ W h ⟨by decide, by decide, by decide, by decide⟩
    rw [enc_w2] at this
    exact this
  have D1 : Hid (∀ W, Var0 W → Calls Tryd.prog 14 #[.string ⟨#[3, 97, 0, 120, 0, 1, 255, 255, 255, 255, 255, 255, 255, 253]⟩] W fun e w' => e = .returned (.tuple #[.agg #[.int .u8 3, .string ⟨#[97]⟩, .string ⟨#[120]⟩, .int .u64 2, .int .i64 0], .int .i64 0]) ∧ Below W.heap.size W w') := fun W h => by
    have := decode3 ⟨#[3, 97, 0, 120, 0, 1, 255, 255, 255, 255, 255, 255, 255, 253]⟩ [97] [120, 0, 1, 255, 255, 255, 255, 255, 255, 255, 253] [120] [255, 255, 255, 255, 255, 255, 255, 253] W h (by decide) (by decide) rfl (by decide) (by decide) (by decide) (by decide) (by decide) (by decide) (by decide)
    rw [show ([255, 255, 255, 255, 255, 255, 255, 253] : Bs).take 8 = [255, 255, 255, 255, 255, 255, 255, 253] from rfl] at this
    rw [show (⟨#[3, 97, 0, 120, 0, 1, 255, 255, 255, 255, 255, 255, 255, 253]⟩ : ByteArray).data.toList = [3, 97, 0, 120, 0, 1, 255, 255, 255, 255, 255, 255, 255, 253] from rfl, dec_w] at this
    exact this
  have D2 : Hid (∀ W, Var0 W → Calls Tryd.prog 14 #[.string ⟨#[3, 97, 0, 120, 0, 1, 255, 255, 255, 255, 255, 255, 255, 253, 120]⟩] W fun e w' => e = .returned (.tuple #[.agg #[.int .u8 0, .string ⟨#[]⟩, .string ⟨#[]⟩, .int .u64 0, .int .i64 0], .int .i64 8]) ∧ Below W.heap.size W w') := fun W h => by
    have := decode3 ⟨#[3, 97, 0, 120, 0, 1, 255, 255, 255, 255, 255, 255, 255, 253, 120]⟩ [97] [120, 0, 1, 255, 255, 255, 255, 255, 255, 255, 253, 120] [120] [255, 255, 255, 255, 255, 255, 255, 253, 120] W h (by decide) (by decide) rfl (by decide) (by decide) (by decide) (by decide) (by decide) (by decide) (by decide)
    rw [show ([255, 255, 255, 255, 255, 255, 255, 253, 120] : Bs).take 8 = [255, 255, 255, 255, 255, 255, 255, 253] from rfl] at this
    rw [show (⟨#[3, 97, 0, 120, 0, 1, 255, 255, 255, 255, 255, 255, 255, 253, 120]⟩ : ByteArray).data.toList = [3, 97, 0, 120, 0, 1, 255, 255, 255, 255, 255, 255, 255, 253, 120] from rfl, dec_w2] at this
    exact this
  have B1 : Hid (∀ W, Calls Tryd.prog 13 #[.string ⟨#[97, 255]⟩] W fun e w' => e = .returned (.string ⟨#[98]⟩) ∧ Below W.heap.size W w') := fun W => behind_calls ⟨#[97, 255]⟩ W (by decide)
  have B2 : Hid (∀ W, Calls Tryd.prog 18 #[.string ⟨#[97, 46, 98, 45, 49]⟩] W fun e w' => e = .returned (.bool true) ∧ Below W.heap.size W w') := fun W => bucket_calls ⟨#[97, 46, 98, 45, 49]⟩ W (by decide)
  have B3 : Hid (∀ W, Calls Tryd.prog 20 #[.string ⟨#[]⟩] W fun e w' => e = .returned (.bool false) ∧ w' = W) := fun W => object_calls ⟨#[]⟩ W (by decide)
  have e1 : (⟨#[3, 97, 0, 120, 0, 1, 255, 255, 255, 255, 255, 255, 255, 253]⟩ : ByteArray) ++ ⟨#[120]⟩ = ⟨#[3, 97, 0, 120, 0, 1, 255, 255, 255, 255, 255, 255, 255, 253, 120]⟩ := by decide
  go_enter Tryd.func10, Tryd.ntmps10
  go_wp2_with fail
  refine (E1.out _ hv).mono ?_
  rintro e w1 ⟨rfl, b1⟩
  have v1 := hv.below b1
  go_wp2_with fail
  refine (D1.out _ v1).mono ?_
  rintro e w2 ⟨rfl, b2⟩
  have v2 := v1.below b2
  have c2 := below_of b1 b2
  have v2' := v2.below (below_one w2 (.cells keyW.cells 24))
  have hK : KeyAt (w2.alloc (.cells keyW.cells 24)) w2.heap.size keyW := (MapKept.heap_alloc w2 _).1
  go_wp2_with fail
  refine (D2.out _ v2').mono ?_
  rintro e w3 ⟨rfl, b3⟩
  have v3 := v2'.below b3
  have hK3 := hK.below b3
  have c3 := below_of (below_alloc c2 _) b3
  have v3' := v3.below (below_one w3 (.cells zeroK.cells 24))
  have hK4 := hK3.below (below_one w3 (.cells zeroK.cells 24))
  go_wp2_with fail
  refine (E2.out _ v3').mono ?_
  rintro e w4 ⟨rfl, b4⟩
  have hK5 := hK4.below b4
  have p2 : w4.cell? ⟨w2.heap.size, 2, none⟩ = some (.string ⟨#[120]⟩) := hK5.c.2.2.1
  have p3 : w4.cell? ⟨w2.heap.size, 3, none⟩ = some (.int .u64 2) := hK5.c.2.2.2.1
  have c4 := below_of (below_alloc c3 _) b4
  go_wp2_with fail
  refine (B1.out _).mono ?_
  rintro e w5 ⟨rfl, b5⟩
  go_wp2_with fail
  refine (B2.out _).mono ?_
  rintro e w6 ⟨rfl, b6⟩
  go_wp2_with fail
  refine (B3.out _).mono ?_
  rintro e w7 ⟨rfl, rfl⟩
  go_wp2
  go_ret
  exact ⟨rfl, below_of (below_of c4 b5) b6⟩

end Go.Proofs.YtaeiahkomdpcoaaDoor.Name
end

section
/- The walk of package name's Prefix (printed by genpre.py). -/
namespace Go.Proofs.YtaeiahkomdpcoaaDoor.Name
open Go.RowKit Go.Shelf

/-- What keys begin with, so deep. -/
def prefL (k : Key) (d : Int) : Option Bs :=
  if d < 1 ∨ 4 < d ∨ k.kind < 1 ∨ 6 < k.kind then none
  else if d = 1 then some [UInt8.ofNat k.kind]
  else if hasB k.kind = false ∨ bucketL k.bucket.data.toList = false then none
  else if d = 2 then some (UInt8.ofNat k.kind :: (k.bucket.data.toList ++ [0]))
  else if d = 4 ∧ k.kind = 5 then some (UInt8.ofNat k.kind :: (k.bucket.data.toList ++ [0]) ++ be 8 k.n)
  else if k.kind ≠ 3 ∨ 200 < k.name.size ∨ (d = 4 ∧ k.name = ⟨#[]⟩) then none
  else if d = 4 then some (UInt8.ofNat k.kind :: (k.bucket.data.toList ++ [0]) ++ esc k.name.data.toList ++ [0, 1])
  else some (UInt8.ofNat k.kind :: (k.bucket.data.toList ++ [0]) ++ esc k.name.data.toList)
def prefR (k : Key) (d : Int) : Value := match prefL k d with
  | some l => .tuple #[.string (bs l), .int .i64 0]
  | none => .tuple #[.string ⟨#[]⟩, .int .i64 2]
theorem kind_byte (k : Nat) (h : k < 256) : (k : Int) = ((UInt8.ofNat k).toNat : Int) := by
  rw [UInt8.toNat_ofNat', Nat.mod_eq_of_lt h]

set_option maxHeartbeats 3200000 in
set_option maxRecDepth 100000 in
theorem pre_A (kd : Nat) (kb kn : ByteArray) (nn : Nat) (pp : Int) (d : Int) (b0 : Bool) (b1 : Bool) (b2 : Bool) (b3 : Bool) (w : World) (hf : (Key.mk kd kb kn nn pp).fits) (hd : d < 1)
    (HH : Hid (∀ W, Calls Tryd.prog 35 #[.int .u8 (kd : Int)] W fun e w' => e = .returned (.tuple #[.bool b0, .bool b1, .bool b2, .bool b3]) ∧ w' = W)) :
    Calls Tryd.prog 12 #[(Key.mk kd kb kn nn pp).val, .int .i64 (d)] w fun e w' => e = .returned (.tuple #[.string ⟨#[]⟩, .int .i64 2]) ∧ Below w.heap.size w w' := by
  obtain ⟨hb4, hn4, hkl, hnt⟩ := hf
  simp only at hb4 hn4 hkl hnt
  unfold Key.val
  simp only
  have hcv := conv_one (w.alloc (.cells #[.int .u8 (kd : Int), .string kb, .string kn, .int .u64 (nn : Int), .int .i64 pp] 24)) (kd : Int) (UInt8.ofNat kd) (kind_byte kd hkl) 5
  rw [show (w.alloc (.cells #[.int .u8 (kd : Int), .string kb, .string kn, .int .u64 (nn : Int), .int .i64 pp] 24)).heap.size = w.heap.size + 1 by simp] at hcv
  go_enter Tryd.func12, Tryd.ntmps12
  go_wp2_with fail
  refine (HH.out _).mono ?_
  rintro e w1 ⟨rfl, rfl⟩
  go_wp2
  go_ret2
  exact ⟨rfl, (by first | exact below_one _ _ | exact below_alloc (below_one _ _) _)⟩

set_option maxHeartbeats 3200000 in
set_option maxRecDepth 100000 in
theorem pre_B (kd : Nat) (kb kn : ByteArray) (nn : Nat) (pp : Int) (d : Int) (b0 : Bool) (b1 : Bool) (b2 : Bool) (b3 : Bool) (w : World) (hf : (Key.mk kd kb kn nn pp).fits) (hd : 4 < d)
    (HH : Hid (∀ W, Calls Tryd.prog 35 #[.int .u8 (kd : Int)] W fun e w' => e = .returned (.tuple #[.bool b0, .bool b1, .bool b2, .bool b3]) ∧ w' = W)) :
    Calls Tryd.prog 12 #[(Key.mk kd kb kn nn pp).val, .int .i64 (d)] w fun e w' => e = .returned (.tuple #[.string ⟨#[]⟩, .int .i64 2]) ∧ Below w.heap.size w w' := by
  obtain ⟨hb4, hn4, hkl, hnt⟩ := hf
  simp only at hb4 hn4 hkl hnt
  unfold Key.val
  simp only
  have hcv := conv_one (w.alloc (.cells #[.int .u8 (kd : Int), .string kb, .string kn, .int .u64 (nn : Int), .int .i64 pp] 24)) (kd : Int) (UInt8.ofNat kd) (kind_byte kd hkl) 5
  rw [show (w.alloc (.cells #[.int .u8 (kd : Int), .string kb, .string kn, .int .u64 (nn : Int), .int .i64 pp] 24)).heap.size = w.heap.size + 1 by simp] at hcv
  have hd1 : ¬ d < 1 := by omega
  go_enter Tryd.func12, Tryd.ntmps12
  go_wp2_with fail
  refine (HH.out _).mono ?_
  rintro e w1 ⟨rfl, rfl⟩
  go_wp2
  go_ret2
  exact ⟨rfl, (by first | exact below_one _ _ | exact below_alloc (below_one _ _) _)⟩

set_option maxHeartbeats 3200000 in
set_option maxRecDepth 100000 in
theorem pre_C (kb kn : ByteArray) (nn : Nat) (pp : Int) (d : Int) (b0 : Bool) (b1 : Bool) (b2 : Bool) (b3 : Bool) (w : World) (hf : (Key.mk 0 kb kn nn pp).fits) (h1 : 1 ≤ d) (h4 : d ≤ 4)
    (HH : Hid (∀ W, Calls Tryd.prog 35 #[.int .u8 0] W fun e w' => e = .returned (.tuple #[.bool b0, .bool b1, .bool b2, .bool b3]) ∧ w' = W)) :
    Calls Tryd.prog 12 #[(Key.mk 0 kb kn nn pp).val, .int .i64 (d)] w fun e w' => e = .returned (.tuple #[.string ⟨#[]⟩, .int .i64 2]) ∧ Below w.heap.size w w' := by
  obtain ⟨hb4, hn4, hkl, hnt⟩ := hf
  simp only at hb4 hn4 hkl hnt
  unfold Key.val
  simp only
  have hcv := conv_one (w.alloc (.cells #[.int .u8 0, .string kb, .string kn, .int .u64 (nn : Int), .int .i64 pp] 24)) 0 (UInt8.ofNat 0) (kind_byte 0 hkl) 5
  rw [show (w.alloc (.cells #[.int .u8 0, .string kb, .string kn, .int .u64 (nn : Int), .int .i64 pp] 24)).heap.size = w.heap.size + 1 by simp] at hcv
  go_enter Tryd.func12, Tryd.ntmps12
  go_wp2_with fail
  refine (HH.out _).mono ?_
  rintro e w1 ⟨rfl, rfl⟩
  go_wp2
  go_ret2
  exact ⟨rfl, (by first | exact below_one _ _ | exact below_alloc (below_one _ _) _)⟩

set_option maxHeartbeats 3200000 in
set_option maxRecDepth 100000 in
theorem pre_D (kd : Nat) (kb kn : ByteArray) (nn : Nat) (pp : Int) (d : Int) (b0 : Bool) (b1 : Bool) (b2 : Bool) (b3 : Bool) (w : World) (hf : (Key.mk kd kb kn nn pp).fits) (h1 : 1 ≤ d) (h4 : d ≤ 4) (hk : 6 < kd)
    (HH : Hid (∀ W, Calls Tryd.prog 35 #[.int .u8 (kd : Int)] W fun e w' => e = .returned (.tuple #[.bool b0, .bool b1, .bool b2, .bool b3]) ∧ w' = W)) :
    Calls Tryd.prog 12 #[(Key.mk kd kb kn nn pp).val, .int .i64 (d)] w fun e w' => e = .returned (.tuple #[.string ⟨#[]⟩, .int .i64 2]) ∧ Below w.heap.size w w' := by
  obtain ⟨hb4, hn4, hkl, hnt⟩ := hf
  simp only at hb4 hn4 hkl hnt
  unfold Key.val
  simp only
  have hcv := conv_one (w.alloc (.cells #[.int .u8 (kd : Int), .string kb, .string kn, .int .u64 (nn : Int), .int .i64 pp] 24)) (kd : Int) (UInt8.ofNat kd) (kind_byte kd hkl) 5
  rw [show (w.alloc (.cells #[.int .u8 (kd : Int), .string kb, .string kn, .int .u64 (nn : Int), .int .i64 pp] 24)).heap.size = w.heap.size + 1 by simp] at hcv
  go_enter Tryd.func12, Tryd.ntmps12
  go_wp2_with fail
  refine (HH.out _).mono ?_
  rintro e w1 ⟨rfl, rfl⟩
  go_wp2
  go_ret2
  exact ⟨rfl, (by first | exact below_one _ _ | exact below_alloc (below_one _ _) _)⟩

set_option maxHeartbeats 3200000 in
set_option maxRecDepth 100000 in
theorem pre_E (kd : Nat) (kb kn : ByteArray) (nn : Nat) (pp : Int) (b0 : Bool) (b1 : Bool) (b2 : Bool) (b3 : Bool) (w : World) (hf : (Key.mk kd kb kn nn pp).fits) (hk : 1 ≤ kd) (hk6 : kd ≤ 6)
    (HH : Hid (∀ W, Calls Tryd.prog 35 #[.int .u8 (kd : Int)] W fun e w' => e = .returned (.tuple #[.bool b0, .bool b1, .bool b2, .bool b3]) ∧ w' = W)) :
    Calls Tryd.prog 12 #[(Key.mk kd kb kn nn pp).val, .int .i64 (1)] w fun e w' => e = .returned (.tuple #[.string (bs [UInt8.ofNat kd]), .int .i64 0]) ∧ Below w.heap.size w w' := by
  obtain ⟨hb4, hn4, hkl, hnt⟩ := hf
  simp only at hb4 hn4 hkl hnt
  unfold Key.val
  simp only
  have hcv := conv_one (w.alloc (.cells #[.int .u8 (kd : Int), .string kb, .string kn, .int .u64 (nn : Int), .int .i64 pp] 24)) (kd : Int) (UInt8.ofNat kd) (kind_byte kd hkl) 5
  rw [show (w.alloc (.cells #[.int .u8 (kd : Int), .string kb, .string kn, .int .u64 (nn : Int), .int .i64 pp] 24)).heap.size = w.heap.size + 1 by simp] at hcv
  go_enter Tryd.func12, Tryd.ntmps12
  go_wp2_with fail
  refine (HH.out _).mono ?_
  rintro e w1 ⟨rfl, rfl⟩
  go_wp2
  go_ret2
  exact ⟨rfl, (by first | exact below_one _ _ | exact below_alloc (below_one _ _) _)⟩

set_option maxHeartbeats 3200000 in
set_option maxRecDepth 100000 in
theorem pre_F (kd : Nat) (kb kn : ByteArray) (nn : Nat) (pp : Int) (d : Int) (b1 : Bool) (b2 : Bool) (b3 : Bool) (w : World) (hf : (Key.mk kd kb kn nn pp).fits) (hk : 1 ≤ kd) (hk6 : kd ≤ 6) (h1 : 1 ≤ d) (h4 : d ≤ 4) (hn1 : (d == 1) = false)
    (HH : Hid (∀ W, Calls Tryd.prog 35 #[.int .u8 (kd : Int)] W fun e w' => e = .returned (.tuple #[.bool false, .bool b1, .bool b2, .bool b3]) ∧ w' = W)) :
    Calls Tryd.prog 12 #[(Key.mk kd kb kn nn pp).val, .int .i64 (d)] w fun e w' => e = .returned (.tuple #[.string ⟨#[]⟩, .int .i64 2]) ∧ Below w.heap.size w w' := by
  obtain ⟨hb4, hn4, hkl, hnt⟩ := hf
  simp only at hb4 hn4 hkl hnt
  unfold Key.val
  simp only
  have hcv := conv_one (w.alloc (.cells #[.int .u8 (kd : Int), .string kb, .string kn, .int .u64 (nn : Int), .int .i64 pp] 24)) (kd : Int) (UInt8.ofNat kd) (kind_byte kd hkl) 5
  rw [show (w.alloc (.cells #[.int .u8 (kd : Int), .string kb, .string kn, .int .u64 (nn : Int), .int .i64 pp] 24)).heap.size = w.heap.size + 1 by simp] at hcv
  go_enter Tryd.func12, Tryd.ntmps12
  go_wp2_with fail
  refine (HH.out _).mono ?_
  rintro e w1 ⟨rfl, rfl⟩
  go_wp2
  go_ret2
  exact ⟨rfl, (by first | exact below_one _ _ | exact below_alloc (below_one _ _) _)⟩

set_option maxHeartbeats 3200000 in
set_option maxRecDepth 100000 in
theorem pre_G (kd : Nat) (kb kn : ByteArray) (nn : Nat) (pp : Int) (d : Int) (b1 : Bool) (b2 : Bool) (b3 : Bool) (w : World) (hf : (Key.mk kd kb kn nn pp).fits) (hk : 1 ≤ kd) (hk6 : kd ≤ 6) (h1 : 1 ≤ d) (h4 : d ≤ 4) (hn1 : (d == 1) = false) (hbk : bucketL kb.data.toList = false)
    (HH : Hid (∀ W, Calls Tryd.prog 35 #[.int .u8 (kd : Int)] W fun e w' => e = .returned (.tuple #[.bool true, .bool b1, .bool b2, .bool b3]) ∧ w' = W)) :
    Calls Tryd.prog 12 #[(Key.mk kd kb kn nn pp).val, .int .i64 (d)] w fun e w' => e = .returned (.tuple #[.string ⟨#[]⟩, .int .i64 2]) ∧ Below w.heap.size w w' := by
  obtain ⟨hb4, hn4, hkl, hnt⟩ := hf
  simp only at hb4 hn4 hkl hnt
  unfold Key.val
  simp only
  have hcv := conv_one (w.alloc (.cells #[.int .u8 (kd : Int), .string kb, .string kn, .int .u64 (nn : Int), .int .i64 pp] 24)) (kd : Int) (UInt8.ofNat kd) (kind_byte kd hkl) 5
  rw [show (w.alloc (.cells #[.int .u8 (kd : Int), .string kb, .string kn, .int .u64 (nn : Int), .int .i64 pp] 24)).heap.size = w.heap.size + 1 by simp] at hcv
  have HB := Lib.hid (fun W => bucket_calls kb W (by omega))
  simp only [hbk] at HB
  clear hbk
  go_enter Tryd.func12, Tryd.ntmps12
  go_wp2_with fail
  refine (HH.out _).mono ?_
  rintro e w1 ⟨rfl, rfl⟩
  go_wp2_with fail
  refine (HB.out _).mono ?_
  rintro e w2 ⟨rfl, hb2⟩
  have b2 := below_of (below_alloc (below_one w _) _) hb2
  have hlt : w.heap.size < (w.alloc (.cells #[.int .u8 (kd : Int), .string kb, .string kn, .int .u64 (nn : Int), .int .i64 pp] 24)).heap.size := by simp
  have q1 : w2.cell? ⟨w.heap.size, 1, none⟩ = some (.string kb) := (hb2.cell (p := ⟨w.heap.size, 1, none⟩) (by simp; omega)).trans (((below_one _ _).cell (p := ⟨w.heap.size, 1, none⟩) hlt).trans (by simp))
  have q2 : w2.cell? ⟨w.heap.size, 2, none⟩ = some (.string kn) := (hb2.cell (p := ⟨w.heap.size, 2, none⟩) (by simp; omega)).trans (((below_one _ _).cell (p := ⟨w.heap.size, 2, none⟩) hlt).trans (by simp))
  have q3 : w2.cell? ⟨w.heap.size, 3, none⟩ = some (.int .u64 (nn : Int)) := (hb2.cell (p := ⟨w.heap.size, 3, none⟩) (by simp; omega)).trans (((below_one _ _).cell (p := ⟨w.heap.size, 3, none⟩) hlt).trans (by simp))
  clear hlt hb2 HB HH
  go_wp2
  go_ret2
  exact ⟨rfl, b2⟩

set_option maxHeartbeats 3200000 in
set_option maxRecDepth 100000 in
theorem pre_H (kd : Nat) (kb kn : ByteArray) (nn : Nat) (pp : Int) (b1 : Bool) (b2 : Bool) (b3 : Bool) (w : World) (hf : (Key.mk kd kb kn nn pp).fits) (hk : 1 ≤ kd) (hk6 : kd ≤ 6) (hbk : bucketL kb.data.toList = true)
    (HH : Hid (∀ W, Calls Tryd.prog 35 #[.int .u8 (kd : Int)] W fun e w' => e = .returned (.tuple #[.bool true, .bool b1, .bool b2, .bool b3]) ∧ w' = W)) :
    Calls Tryd.prog 12 #[(Key.mk kd kb kn nn pp).val, .int .i64 (2)] w fun e w' => e = .returned (.tuple #[.string (bs [UInt8.ofNat kd] ++ (kb ++ ⟨#[0]⟩)), .int .i64 0]) ∧ Below w.heap.size w w' := by
  obtain ⟨hb4, hn4, hkl, hnt⟩ := hf
  simp only at hb4 hn4 hkl hnt
  unfold Key.val
  simp only
  have hcv := conv_one (w.alloc (.cells #[.int .u8 (kd : Int), .string kb, .string kn, .int .u64 (nn : Int), .int .i64 pp] 24)) (kd : Int) (UInt8.ofNat kd) (kind_byte kd hkl) 5
  rw [show (w.alloc (.cells #[.int .u8 (kd : Int), .string kb, .string kn, .int .u64 (nn : Int), .int .i64 pp] 24)).heap.size = w.heap.size + 1 by simp] at hcv
  have HB := Lib.hid (fun W => bucket_calls kb W (by omega))
  simp only [hbk] at HB
  clear hbk
  have z0 : (bs [UInt8.ofNat kd]).size = 1 := rfl
  obtain ⟨y0, hy0⟩ : ∃ y, y = bs [UInt8.ofNat kd] := ⟨_, rfl⟩
  rw [← hy0] at z0
  rw [← hy0]
  simp only [← hy0] at hcv
  clear hy0
  have s0 : ¬ 9223372036854775807 < kb.size + 1 := by omega
  have s3 : ¬ 9223372036854775807 < 1 + (kb.size + 1) := by omega
  go_enter Tryd.func12, Tryd.ntmps12
  go_wp2_with fail
  refine (HH.out _).mono ?_
  rintro e w1 ⟨rfl, rfl⟩
  go_wp2_with fail
  refine (HB.out _).mono ?_
  rintro e w2 ⟨rfl, hb2⟩
  have b2 := below_of (below_alloc (below_one w _) _) hb2
  have hlt : w.heap.size < (w.alloc (.cells #[.int .u8 (kd : Int), .string kb, .string kn, .int .u64 (nn : Int), .int .i64 pp] 24)).heap.size := by simp
  have q1 : w2.cell? ⟨w.heap.size, 1, none⟩ = some (.string kb) := (hb2.cell (p := ⟨w.heap.size, 1, none⟩) (by simp; omega)).trans (((below_one _ _).cell (p := ⟨w.heap.size, 1, none⟩) hlt).trans (by simp))
  have q2 : w2.cell? ⟨w.heap.size, 2, none⟩ = some (.string kn) := (hb2.cell (p := ⟨w.heap.size, 2, none⟩) (by simp; omega)).trans (((below_one _ _).cell (p := ⟨w.heap.size, 2, none⟩) hlt).trans (by simp))
  have q3 : w2.cell? ⟨w.heap.size, 3, none⟩ = some (.int .u64 (nn : Int)) := (hb2.cell (p := ⟨w.heap.size, 3, none⟩) (by simp; omega)).trans (((below_one _ _).cell (p := ⟨w.heap.size, 3, none⟩) hlt).trans (by simp))
  clear hlt hb2 HB HH
  go_wp2
  go_ret2
  exact ⟨rfl, b2⟩

set_option maxHeartbeats 3200000 in
set_option maxRecDepth 100000 in
theorem pre_I (kb kn : ByteArray) (nn : Nat) (pp : Int) (w : World) (hf : (Key.mk 5 kb kn nn pp).fits) (hbk : bucketL kb.data.toList = true)
    (HH : Hid (∀ W, Calls Tryd.prog 35 #[.int .u8 5] W fun e w' => e = .returned (.tuple #[.bool true, .bool false, .bool true, .bool true]) ∧ w' = W)) :
    Calls Tryd.prog 12 #[(Key.mk 5 kb kn nn pp).val, .int .i64 (4)] w fun e w' => e = .returned (.tuple #[.string (bs [UInt8.ofNat 5] ++ (kb ++ ⟨#[0]⟩) ++ bs (be 8 nn)), .int .i64 0]) ∧ Below w.heap.size w w' := by
  obtain ⟨hb4, hn4, hkl, hnt⟩ := hf
  simp only at hb4 hn4 hkl hnt
  unfold Key.val
  simp only
  have hcv := conv_one (w.alloc (.cells #[.int .u8 5, .string kb, .string kn, .int .u64 (nn : Int), .int .i64 pp] 24)) 5 (UInt8.ofNat 5) (kind_byte 5 hkl) 5
  rw [show (w.alloc (.cells #[.int .u8 5, .string kb, .string kn, .int .u64 (nn : Int), .int .i64 pp] 24)).heap.size = w.heap.size + 1 by simp] at hcv
  have HB := Lib.hid (fun W => bucket_calls kb W (by omega))
  simp only [hbk] at HB
  clear hbk
  have z0 : (bs [UInt8.ofNat 5]).size = 1 := rfl
  obtain ⟨y0, hy0⟩ : ∃ y, y = bs [UInt8.ofNat 5] := ⟨_, rfl⟩
  rw [← hy0] at z0
  rw [← hy0]
  simp only [← hy0] at hcv
  clear hy0
  have s0 : ¬ 9223372036854775807 < kb.size + 1 := by omega
  have s3 : ¬ 9223372036854775807 < 1 + (kb.size + 1) := by omega
  have HY := Lib.hid (fun W => bytes_calls nn 8 W (by omega))
  have z2 : (bs (be 8 nn)).size = 8 := by rw [bs_size, be_length]
  obtain ⟨y2, hy2⟩ : ∃ y, y = bs (be 8 nn) := ⟨_, rfl⟩
  rw [← hy2] at z2
  rw [← hy2]
  simp only [← hy2] at HY
  clear hy2
  have s4 : ¬ 9223372036854775807 < 1 + (kb.size + 1) + 8 := by omega
  go_enter Tryd.func12, Tryd.ntmps12
  go_wp2_with fail
  refine (HH.out _).mono ?_
  rintro e w1 ⟨rfl, rfl⟩
  go_wp2_with fail
  refine (HB.out _).mono ?_
  rintro e w2 ⟨rfl, hb2⟩
  have b2 := below_of (below_alloc (below_one w _) _) hb2
  have hlt : w.heap.size < (w.alloc (.cells #[.int .u8 5, .string kb, .string kn, .int .u64 (nn : Int), .int .i64 pp] 24)).heap.size := by simp
  have q1 : w2.cell? ⟨w.heap.size, 1, none⟩ = some (.string kb) := (hb2.cell (p := ⟨w.heap.size, 1, none⟩) (by simp; omega)).trans (((below_one _ _).cell (p := ⟨w.heap.size, 1, none⟩) hlt).trans (by simp))
  have q2 : w2.cell? ⟨w.heap.size, 2, none⟩ = some (.string kn) := (hb2.cell (p := ⟨w.heap.size, 2, none⟩) (by simp; omega)).trans (((below_one _ _).cell (p := ⟨w.heap.size, 2, none⟩) hlt).trans (by simp))
  have q3 : w2.cell? ⟨w.heap.size, 3, none⟩ = some (.int .u64 (nn : Int)) := (hb2.cell (p := ⟨w.heap.size, 3, none⟩) (by simp; omega)).trans (((below_one _ _).cell (p := ⟨w.heap.size, 3, none⟩) hlt).trans (by simp))
  clear hlt hb2 HB HH
  go_wp2_with fail
  refine (HY.out _).mono ?_
  rintro e w3 ⟨rfl, hb3⟩
  go_wp2
  go_ret2
  exact ⟨rfl, below_of b2 hb3⟩

set_option maxHeartbeats 3200000 in
set_option maxRecDepth 100000 in
theorem pre_J3 (kd : Nat) (kb kn : ByteArray) (nn : Nat) (pp : Int) (b2 : Bool) (b3 : Bool) (w : World) (hf : (Key.mk kd kb kn nn pp).fits) (hk : 1 ≤ kd) (hk6 : kd ≤ 6) (hbk : bucketL kb.data.toList = true)
    (HH : Hid (∀ W, Calls Tryd.prog 35 #[.int .u8 (kd : Int)] W fun e w' => e = .returned (.tuple #[.bool true, .bool false, .bool b2, .bool b3]) ∧ w' = W)) :
    Calls Tryd.prog 12 #[(Key.mk kd kb kn nn pp).val, .int .i64 (3)] w fun e w' => e = .returned (.tuple #[.string ⟨#[]⟩, .int .i64 2]) ∧ Below w.heap.size w w' := by
  obtain ⟨hb4, hn4, hkl, hnt⟩ := hf
  simp only at hb4 hn4 hkl hnt
  unfold Key.val
  simp only
  have hcv := conv_one (w.alloc (.cells #[.int .u8 (kd : Int), .string kb, .string kn, .int .u64 (nn : Int), .int .i64 pp] 24)) (kd : Int) (UInt8.ofNat kd) (kind_byte kd hkl) 5
  rw [show (w.alloc (.cells #[.int .u8 (kd : Int), .string kb, .string kn, .int .u64 (nn : Int), .int .i64 pp] 24)).heap.size = w.heap.size + 1 by simp] at hcv
  have HB := Lib.hid (fun W => bucket_calls kb W (by omega))
  simp only [hbk] at HB
  clear hbk
  have z0 : (bs [UInt8.ofNat kd]).size = 1 := rfl
  obtain ⟨y0, hy0⟩ : ∃ y, y = bs [UInt8.ofNat kd] := ⟨_, rfl⟩
  rw [← hy0] at z0
  simp only [← hy0] at hcv
  clear hy0
  have s0 : ¬ 9223372036854775807 < kb.size + 1 := by omega
  have s3 : ¬ 9223372036854775807 < 1 + (kb.size + 1) := by omega
  go_enter Tryd.func12, Tryd.ntmps12
  go_wp2_with fail
  refine (HH.out _).mono ?_
  rintro e w1 ⟨rfl, rfl⟩
  go_wp2_with fail
  refine (HB.out _).mono ?_
  rintro e w2 ⟨rfl, hb2⟩
  have b2 := below_of (below_alloc (below_one w _) _) hb2
  have hlt : w.heap.size < (w.alloc (.cells #[.int .u8 (kd : Int), .string kb, .string kn, .int .u64 (nn : Int), .int .i64 pp] 24)).heap.size := by simp
  have q1 : w2.cell? ⟨w.heap.size, 1, none⟩ = some (.string kb) := (hb2.cell (p := ⟨w.heap.size, 1, none⟩) (by simp; omega)).trans (((below_one _ _).cell (p := ⟨w.heap.size, 1, none⟩) hlt).trans (by simp))
  have q2 : w2.cell? ⟨w.heap.size, 2, none⟩ = some (.string kn) := (hb2.cell (p := ⟨w.heap.size, 2, none⟩) (by simp; omega)).trans (((below_one _ _).cell (p := ⟨w.heap.size, 2, none⟩) hlt).trans (by simp))
  have q3 : w2.cell? ⟨w.heap.size, 3, none⟩ = some (.int .u64 (nn : Int)) := (hb2.cell (p := ⟨w.heap.size, 3, none⟩) (by simp; omega)).trans (((below_one _ _).cell (p := ⟨w.heap.size, 3, none⟩) hlt).trans (by simp))
  clear hlt hb2 HB HH
  go_wp2
  go_ret2
  exact ⟨rfl, b2⟩

set_option maxHeartbeats 3200000 in
set_option maxRecDepth 100000 in
theorem pre_J4 (kd : Nat) (kb kn : ByteArray) (nn : Nat) (pp : Int) (b2 : Bool) (w : World) (hf : (Key.mk kd kb kn nn pp).fits) (hk : 1 ≤ kd) (hk6 : kd ≤ 6) (hbk : bucketL kb.data.toList = true)
    (HH : Hid (∀ W, Calls Tryd.prog 35 #[.int .u8 (kd : Int)] W fun e w' => e = .returned (.tuple #[.bool true, .bool false, .bool b2, .bool false]) ∧ w' = W)) :
    Calls Tryd.prog 12 #[(Key.mk kd kb kn nn pp).val, .int .i64 (4)] w fun e w' => e = .returned (.tuple #[.string ⟨#[]⟩, .int .i64 2]) ∧ Below w.heap.size w w' := by
  obtain ⟨hb4, hn4, hkl, hnt⟩ := hf
  simp only at hb4 hn4 hkl hnt
  unfold Key.val
  simp only
  have hcv := conv_one (w.alloc (.cells #[.int .u8 (kd : Int), .string kb, .string kn, .int .u64 (nn : Int), .int .i64 pp] 24)) (kd : Int) (UInt8.ofNat kd) (kind_byte kd hkl) 5
  rw [show (w.alloc (.cells #[.int .u8 (kd : Int), .string kb, .string kn, .int .u64 (nn : Int), .int .i64 pp] 24)).heap.size = w.heap.size + 1 by simp] at hcv
  have HB := Lib.hid (fun W => bucket_calls kb W (by omega))
  simp only [hbk] at HB
  clear hbk
  have z0 : (bs [UInt8.ofNat kd]).size = 1 := rfl
  obtain ⟨y0, hy0⟩ : ∃ y, y = bs [UInt8.ofNat kd] := ⟨_, rfl⟩
  rw [← hy0] at z0
  simp only [← hy0] at hcv
  clear hy0
  have s0 : ¬ 9223372036854775807 < kb.size + 1 := by omega
  have s3 : ¬ 9223372036854775807 < 1 + (kb.size + 1) := by omega
  go_enter Tryd.func12, Tryd.ntmps12
  go_wp2_with fail
  refine (HH.out _).mono ?_
  rintro e w1 ⟨rfl, rfl⟩
  go_wp2_with fail
  refine (HB.out _).mono ?_
  rintro e w2 ⟨rfl, hb2⟩
  have b2 := below_of (below_alloc (below_one w _) _) hb2
  have hlt : w.heap.size < (w.alloc (.cells #[.int .u8 (kd : Int), .string kb, .string kn, .int .u64 (nn : Int), .int .i64 pp] 24)).heap.size := by simp
  have q1 : w2.cell? ⟨w.heap.size, 1, none⟩ = some (.string kb) := (hb2.cell (p := ⟨w.heap.size, 1, none⟩) (by simp; omega)).trans (((below_one _ _).cell (p := ⟨w.heap.size, 1, none⟩) hlt).trans (by simp))
  have q2 : w2.cell? ⟨w.heap.size, 2, none⟩ = some (.string kn) := (hb2.cell (p := ⟨w.heap.size, 2, none⟩) (by simp; omega)).trans (((below_one _ _).cell (p := ⟨w.heap.size, 2, none⟩) hlt).trans (by simp))
  have q3 : w2.cell? ⟨w.heap.size, 3, none⟩ = some (.int .u64 (nn : Int)) := (hb2.cell (p := ⟨w.heap.size, 3, none⟩) (by simp; omega)).trans (((below_one _ _).cell (p := ⟨w.heap.size, 3, none⟩) hlt).trans (by simp))
  clear hlt hb2 HB HH
  go_wp2
  go_ret2
  exact ⟨rfl, b2⟩

set_option maxHeartbeats 3200000 in
set_option maxRecDepth 100000 in
theorem pre_K3 (kb kn : ByteArray) (nn : Nat) (pp : Int) (b2 : Bool) (w : World) (hf : (Key.mk 3 kb kn nn pp).fits) (hl : 200 < kn.size) (hbk : bucketL kb.data.toList = true)
    (HH : Hid (∀ W, Calls Tryd.prog 35 #[.int .u8 3] W fun e w' => e = .returned (.tuple #[.bool true, .bool true, .bool b2, .bool false]) ∧ w' = W)) :
    Calls Tryd.prog 12 #[(Key.mk 3 kb kn nn pp).val, .int .i64 (3)] w fun e w' => e = .returned (.tuple #[.string ⟨#[]⟩, .int .i64 2]) ∧ Below w.heap.size w w' := by
  obtain ⟨hb4, hn4, hkl, hnt⟩ := hf
  simp only at hb4 hn4 hkl hnt
  unfold Key.val
  simp only
  have hcv := conv_one (w.alloc (.cells #[.int .u8 3, .string kb, .string kn, .int .u64 (nn : Int), .int .i64 pp] 24)) 3 (UInt8.ofNat 3) (kind_byte 3 hkl) 5
  rw [show (w.alloc (.cells #[.int .u8 3, .string kb, .string kn, .int .u64 (nn : Int), .int .i64 pp] 24)).heap.size = w.heap.size + 1 by simp] at hcv
  have HB := Lib.hid (fun W => bucket_calls kb W (by omega))
  simp only [hbk] at HB
  clear hbk
  have z0 : (bs [UInt8.ofNat 3]).size = 1 := rfl
  obtain ⟨y0, hy0⟩ : ∃ y, y = bs [UInt8.ofNat 3] := ⟨_, rfl⟩
  rw [← hy0] at z0
  simp only [← hy0] at hcv
  clear hy0
  have s0 : ¬ 9223372036854775807 < kb.size + 1 := by omega
  have s3 : ¬ 9223372036854775807 < 1 + (kb.size + 1) := by omega
  go_enter Tryd.func12, Tryd.ntmps12
  go_wp2_with fail
  refine (HH.out _).mono ?_
  rintro e w1 ⟨rfl, rfl⟩
  go_wp2_with fail
  refine (HB.out _).mono ?_
  rintro e w2 ⟨rfl, hb2⟩
  have b2 := below_of (below_alloc (below_one w _) _) hb2
  have hlt : w.heap.size < (w.alloc (.cells #[.int .u8 3, .string kb, .string kn, .int .u64 (nn : Int), .int .i64 pp] 24)).heap.size := by simp
  have q1 : w2.cell? ⟨w.heap.size, 1, none⟩ = some (.string kb) := (hb2.cell (p := ⟨w.heap.size, 1, none⟩) (by simp; omega)).trans (((below_one _ _).cell (p := ⟨w.heap.size, 1, none⟩) hlt).trans (by simp))
  have q2 : w2.cell? ⟨w.heap.size, 2, none⟩ = some (.string kn) := (hb2.cell (p := ⟨w.heap.size, 2, none⟩) (by simp; omega)).trans (((below_one _ _).cell (p := ⟨w.heap.size, 2, none⟩) hlt).trans (by simp))
  have q3 : w2.cell? ⟨w.heap.size, 3, none⟩ = some (.int .u64 (nn : Int)) := (hb2.cell (p := ⟨w.heap.size, 3, none⟩) (by simp; omega)).trans (((below_one _ _).cell (p := ⟨w.heap.size, 3, none⟩) hlt).trans (by simp))
  clear hlt hb2 HB HH
  go_wp2
  go_ret2
  exact ⟨rfl, b2⟩

set_option maxHeartbeats 3200000 in
set_option maxRecDepth 100000 in
theorem pre_K4 (kb kn : ByteArray) (nn : Nat) (pp : Int) (b2 : Bool) (w : World) (hf : (Key.mk 3 kb kn nn pp).fits) (hl : 200 < kn.size) (hbk : bucketL kb.data.toList = true)
    (HH : Hid (∀ W, Calls Tryd.prog 35 #[.int .u8 3] W fun e w' => e = .returned (.tuple #[.bool true, .bool true, .bool b2, .bool false]) ∧ w' = W)) :
    Calls Tryd.prog 12 #[(Key.mk 3 kb kn nn pp).val, .int .i64 (4)] w fun e w' => e = .returned (.tuple #[.string ⟨#[]⟩, .int .i64 2]) ∧ Below w.heap.size w w' := by
  obtain ⟨hb4, hn4, hkl, hnt⟩ := hf
  simp only at hb4 hn4 hkl hnt
  unfold Key.val
  simp only
  have hcv := conv_one (w.alloc (.cells #[.int .u8 3, .string kb, .string kn, .int .u64 (nn : Int), .int .i64 pp] 24)) 3 (UInt8.ofNat 3) (kind_byte 3 hkl) 5
  rw [show (w.alloc (.cells #[.int .u8 3, .string kb, .string kn, .int .u64 (nn : Int), .int .i64 pp] 24)).heap.size = w.heap.size + 1 by simp] at hcv
  have HB := Lib.hid (fun W => bucket_calls kb W (by omega))
  simp only [hbk] at HB
  clear hbk
  have z0 : (bs [UInt8.ofNat 3]).size = 1 := rfl
  obtain ⟨y0, hy0⟩ : ∃ y, y = bs [UInt8.ofNat 3] := ⟨_, rfl⟩
  rw [← hy0] at z0
  simp only [← hy0] at hcv
  clear hy0
  have s0 : ¬ 9223372036854775807 < kb.size + 1 := by omega
  have s3 : ¬ 9223372036854775807 < 1 + (kb.size + 1) := by omega
  go_enter Tryd.func12, Tryd.ntmps12
  go_wp2_with fail
  refine (HH.out _).mono ?_
  rintro e w1 ⟨rfl, rfl⟩
  go_wp2_with fail
  refine (HB.out _).mono ?_
  rintro e w2 ⟨rfl, hb2⟩
  have b2 := below_of (below_alloc (below_one w _) _) hb2
  have hlt : w.heap.size < (w.alloc (.cells #[.int .u8 3, .string kb, .string kn, .int .u64 (nn : Int), .int .i64 pp] 24)).heap.size := by simp
  have q1 : w2.cell? ⟨w.heap.size, 1, none⟩ = some (.string kb) := (hb2.cell (p := ⟨w.heap.size, 1, none⟩) (by simp; omega)).trans (((below_one _ _).cell (p := ⟨w.heap.size, 1, none⟩) hlt).trans (by simp))
  have q2 : w2.cell? ⟨w.heap.size, 2, none⟩ = some (.string kn) := (hb2.cell (p := ⟨w.heap.size, 2, none⟩) (by simp; omega)).trans (((below_one _ _).cell (p := ⟨w.heap.size, 2, none⟩) hlt).trans (by simp))
  have q3 : w2.cell? ⟨w.heap.size, 3, none⟩ = some (.int .u64 (nn : Int)) := (hb2.cell (p := ⟨w.heap.size, 3, none⟩) (by simp; omega)).trans (((below_one _ _).cell (p := ⟨w.heap.size, 3, none⟩) hlt).trans (by simp))
  clear hlt hb2 HB HH
  go_wp2
  go_ret2
  exact ⟨rfl, b2⟩

set_option maxHeartbeats 3200000 in
set_option maxRecDepth 100000 in
theorem pre_L (kb : ByteArray) (nn : Nat) (pp : Int) (b2 : Bool) (w : World) (hf : (Key.mk 3 kb ⟨#[]⟩ nn pp).fits) (hbk : bucketL kb.data.toList = true)
    (HH : Hid (∀ W, Calls Tryd.prog 35 #[.int .u8 3] W fun e w' => e = .returned (.tuple #[.bool true, .bool true, .bool b2, .bool false]) ∧ w' = W)) :
    Calls Tryd.prog 12 #[(Key.mk 3 kb ⟨#[]⟩ nn pp).val, .int .i64 (4)] w fun e w' => e = .returned (.tuple #[.string ⟨#[]⟩, .int .i64 2]) ∧ Below w.heap.size w w' := by
  obtain ⟨hb4, hn4, hkl, hnt⟩ := hf
  simp only at hb4 hn4 hkl hnt
  unfold Key.val
  simp only
  have hcv := conv_one (w.alloc (.cells #[.int .u8 3, .string kb, .string ⟨#[]⟩, .int .u64 (nn : Int), .int .i64 pp] 24)) 3 (UInt8.ofNat 3) (kind_byte 3 hkl) 5
  rw [show (w.alloc (.cells #[.int .u8 3, .string kb, .string ⟨#[]⟩, .int .u64 (nn : Int), .int .i64 pp] 24)).heap.size = w.heap.size + 1 by simp] at hcv
  have HB := Lib.hid (fun W => bucket_calls kb W (by omega))
  simp only [hbk] at HB
  clear hbk
  have z0 : (bs [UInt8.ofNat 3]).size = 1 := rfl
  obtain ⟨y0, hy0⟩ : ∃ y, y = bs [UInt8.ofNat 3] := ⟨_, rfl⟩
  rw [← hy0] at z0
  simp only [← hy0] at hcv
  clear hy0
  have s0 : ¬ 9223372036854775807 < kb.size + 1 := by omega
  have s3 : ¬ 9223372036854775807 < 1 + (kb.size + 1) := by omega
  go_enter Tryd.func12, Tryd.ntmps12
  go_wp2_with fail
  refine (HH.out _).mono ?_
  rintro e w1 ⟨rfl, rfl⟩
  go_wp2_with fail
  refine (HB.out _).mono ?_
  rintro e w2 ⟨rfl, hb2⟩
  have b2 := below_of (below_alloc (below_one w _) _) hb2
  have hlt : w.heap.size < (w.alloc (.cells #[.int .u8 3, .string kb, .string ⟨#[]⟩, .int .u64 (nn : Int), .int .i64 pp] 24)).heap.size := by simp
  have q1 : w2.cell? ⟨w.heap.size, 1, none⟩ = some (.string kb) := (hb2.cell (p := ⟨w.heap.size, 1, none⟩) (by simp; omega)).trans (((below_one _ _).cell (p := ⟨w.heap.size, 1, none⟩) hlt).trans (by simp))
  have q2 : w2.cell? ⟨w.heap.size, 2, none⟩ = some (.string ⟨#[]⟩) := (hb2.cell (p := ⟨w.heap.size, 2, none⟩) (by simp; omega)).trans (((below_one _ _).cell (p := ⟨w.heap.size, 2, none⟩) hlt).trans (by simp))
  have q3 : w2.cell? ⟨w.heap.size, 3, none⟩ = some (.int .u64 (nn : Int)) := (hb2.cell (p := ⟨w.heap.size, 3, none⟩) (by simp; omega)).trans (((below_one _ _).cell (p := ⟨w.heap.size, 3, none⟩) hlt).trans (by simp))
  clear hlt hb2 HB HH
  go_wp2
  go_ret2
  exact ⟨rfl, b2⟩

set_option maxHeartbeats 3200000 in
set_option maxRecDepth 100000 in
theorem pre_M (kb kn : ByteArray) (nn : Nat) (pp : Int) (b2 : Bool) (w : World) (hv : Var0 w) (hf : (Key.mk 3 kb kn nn pp).fits) (hl : ¬ 200 < kn.size) (hbk : bucketL kb.data.toList = true)
    (HH : Hid (∀ W, Calls Tryd.prog 35 #[.int .u8 3] W fun e w' => e = .returned (.tuple #[.bool true, .bool true, .bool b2, .bool false]) ∧ w' = W)) :
    Calls Tryd.prog 12 #[(Key.mk 3 kb kn nn pp).val, .int .i64 (3)] w fun e w' => e = .returned (.tuple #[.string (bs [UInt8.ofNat 3] ++ (kb ++ ⟨#[0]⟩) ++ bs (esc kn.data.toList)), .int .i64 0]) ∧ Below w.heap.size w w' := by
  obtain ⟨hb4, hn4, hkl, hnt⟩ := hf
  simp only at hb4 hn4 hkl hnt
  unfold Key.val
  simp only
  have hcv := conv_one (w.alloc (.cells #[.int .u8 3, .string kb, .string kn, .int .u64 (nn : Int), .int .i64 pp] 24)) 3 (UInt8.ofNat 3) (kind_byte 3 hkl) 5
  rw [show (w.alloc (.cells #[.int .u8 3, .string kb, .string kn, .int .u64 (nn : Int), .int .i64 pp] 24)).heap.size = w.heap.size + 1 by simp] at hcv
  have HB := Lib.hid (fun W => bucket_calls kb W (by omega))
  simp only [hbk] at HB
  clear hbk
  have z0 : (bs [UInt8.ofNat 3]).size = 1 := rfl
  obtain ⟨y0, hy0⟩ : ∃ y, y = bs [UInt8.ofNat 3] := ⟨_, rfl⟩
  rw [← hy0] at z0
  rw [← hy0]
  simp only [← hy0] at hcv
  clear hy0
  have s0 : ¬ 9223372036854775807 < kb.size + 1 := by omega
  have s3 : ¬ 9223372036854775807 < 1 + (kb.size + 1) := by omega
  have HE := Lib.hid (fun W (h : Var0 W) => escape_calls kn W h hn4)
  have hel : (esc kn.data.toList).length ≤ 8192 := by have := esc_length kn.data.toList; rw [size_list] at this; omega
  have z1 : (bs (esc kn.data.toList)).size ≤ 8192 := by rw [bs_size]; exact hel
  obtain ⟨y1, hy1⟩ : ∃ y, y = bs (esc kn.data.toList) := ⟨_, rfl⟩
  rw [← hy1] at z1
  rw [← hy1]
  simp only [← hy1] at HE
  clear hy1 hel
  have s4 : ¬ 9223372036854775807 < 1 + (kb.size + 1) + y1.size := by omega
  have s5 : ¬ 9223372036854775807 < 1 + (kb.size + 1) + y1.size + 2 := by omega
  go_enter Tryd.func12, Tryd.ntmps12
  go_wp2_with fail
  refine (HH.out _).mono ?_
  rintro e w1 ⟨rfl, rfl⟩
  go_wp2_with fail
  refine (HB.out _).mono ?_
  rintro e w2 ⟨rfl, hb2⟩
  have b2 := below_of (below_alloc (below_one w _) _) hb2
  have hlt : w.heap.size < (w.alloc (.cells #[.int .u8 3, .string kb, .string kn, .int .u64 (nn : Int), .int .i64 pp] 24)).heap.size := by simp
  have q1 : w2.cell? ⟨w.heap.size, 1, none⟩ = some (.string kb) := (hb2.cell (p := ⟨w.heap.size, 1, none⟩) (by simp; omega)).trans (((below_one _ _).cell (p := ⟨w.heap.size, 1, none⟩) hlt).trans (by simp))
  have q2 : w2.cell? ⟨w.heap.size, 2, none⟩ = some (.string kn) := (hb2.cell (p := ⟨w.heap.size, 2, none⟩) (by simp; omega)).trans (((below_one _ _).cell (p := ⟨w.heap.size, 2, none⟩) hlt).trans (by simp))
  have q3 : w2.cell? ⟨w.heap.size, 3, none⟩ = some (.int .u64 (nn : Int)) := (hb2.cell (p := ⟨w.heap.size, 3, none⟩) (by simp; omega)).trans (((below_one _ _).cell (p := ⟨w.heap.size, 3, none⟩) hlt).trans (by simp))
  clear hlt hb2 HB HH
  have hv2 := hv.below b2
  go_wp2_with fail
  refine (HE.out _ hv2).mono ?_
  rintro e w3 ⟨rfl, hb3⟩
  go_wp2
  go_ret2
  exact ⟨rfl, below_of b2 hb3⟩

set_option maxHeartbeats 3200000 in
set_option maxRecDepth 100000 in
theorem pre_N (kb kn : ByteArray) (nn : Nat) (pp : Int) (b2 : Bool) (w : World) (hv : Var0 w) (hf : (Key.mk 3 kb kn nn pp).fits) (hl : ¬ 200 < kn.size) (hne : kn.toList.isEmpty = false) (hbk : bucketL kb.data.toList = true)
    (HH : Hid (∀ W, Calls Tryd.prog 35 #[.int .u8 3] W fun e w' => e = .returned (.tuple #[.bool true, .bool true, .bool b2, .bool false]) ∧ w' = W)) :
    Calls Tryd.prog 12 #[(Key.mk 3 kb kn nn pp).val, .int .i64 (4)] w fun e w' => e = .returned (.tuple #[.string (bs [UInt8.ofNat 3] ++ (kb ++ ⟨#[0]⟩) ++ bs (esc kn.data.toList) ++ ⟨#[0, 1]⟩), .int .i64 0]) ∧ Below w.heap.size w w' := by
  obtain ⟨hb4, hn4, hkl, hnt⟩ := hf
  simp only at hb4 hn4 hkl hnt
  unfold Key.val
  simp only
  have hcv := conv_one (w.alloc (.cells #[.int .u8 3, .string kb, .string kn, .int .u64 (nn : Int), .int .i64 pp] 24)) 3 (UInt8.ofNat 3) (kind_byte 3 hkl) 5
  rw [show (w.alloc (.cells #[.int .u8 3, .string kb, .string kn, .int .u64 (nn : Int), .int .i64 pp] 24)).heap.size = w.heap.size + 1 by simp] at hcv
  have HB := Lib.hid (fun W => bucket_calls kb W (by omega))
  simp only [hbk] at HB
  clear hbk
  have z0 : (bs [UInt8.ofNat 3]).size = 1 := rfl
  obtain ⟨y0, hy0⟩ : ∃ y, y = bs [UInt8.ofNat 3] := ⟨_, rfl⟩
  rw [← hy0] at z0
  rw [← hy0]
  simp only [← hy0] at hcv
  clear hy0
  have s0 : ¬ 9223372036854775807 < kb.size + 1 := by omega
  have s3 : ¬ 9223372036854775807 < 1 + (kb.size + 1) := by omega
  have HE := Lib.hid (fun W (h : Var0 W) => escape_calls kn W h hn4)
  have hel : (esc kn.data.toList).length ≤ 8192 := by have := esc_length kn.data.toList; rw [size_list] at this; omega
  have z1 : (bs (esc kn.data.toList)).size ≤ 8192 := by rw [bs_size]; exact hel
  obtain ⟨y1, hy1⟩ : ∃ y, y = bs (esc kn.data.toList) := ⟨_, rfl⟩
  rw [← hy1] at z1
  rw [← hy1]
  simp only [← hy1] at HE
  clear hy1 hel
  have s4 : ¬ 9223372036854775807 < 1 + (kb.size + 1) + y1.size := by omega
  have s5 : ¬ 9223372036854775807 < 1 + (kb.size + 1) + y1.size + 2 := by omega
  go_enter Tryd.func12, Tryd.ntmps12
  go_wp2_with fail
  refine (HH.out _).mono ?_
  rintro e w1 ⟨rfl, rfl⟩
  go_wp2_with fail
  refine (HB.out _).mono ?_
  rintro e w2 ⟨rfl, hb2⟩
  have b2 := below_of (below_alloc (below_one w _) _) hb2
  have hlt : w.heap.size < (w.alloc (.cells #[.int .u8 3, .string kb, .string kn, .int .u64 (nn : Int), .int .i64 pp] 24)).heap.size := by simp
  have q1 : w2.cell? ⟨w.heap.size, 1, none⟩ = some (.string kb) := (hb2.cell (p := ⟨w.heap.size, 1, none⟩) (by simp; omega)).trans (((below_one _ _).cell (p := ⟨w.heap.size, 1, none⟩) hlt).trans (by simp))
  have q2 : w2.cell? ⟨w.heap.size, 2, none⟩ = some (.string kn) := (hb2.cell (p := ⟨w.heap.size, 2, none⟩) (by simp; omega)).trans (((below_one _ _).cell (p := ⟨w.heap.size, 2, none⟩) hlt).trans (by simp))
  have q3 : w2.cell? ⟨w.heap.size, 3, none⟩ = some (.int .u64 (nn : Int)) := (hb2.cell (p := ⟨w.heap.size, 3, none⟩) (by simp; omega)).trans (((below_one _ _).cell (p := ⟨w.heap.size, 3, none⟩) hlt).trans (by simp))
  clear hlt hb2 HB HH
  have hv2 := hv.below b2
  go_wp2_with fail
  refine (HE.out _ hv2).mono ?_
  rintro e w3 ⟨rfl, hb3⟩
  go_wp2
  go_ret2
  exact ⟨rfl, below_of b2 hb3⟩

theorem pref_calls (k : Key) (d : Int) (w : World) (hv : Var0 w) (hf : k.fits) : Calls Tryd.prog 12 #[k.val, .int .i64 d] w fun e w' => e = .returned (prefR k d) ∧ Below w.heap.size w w' := by
  have HH := has_calls k.kind
  obtain ⟨kd, kb, kn, nn, pp⟩ := k
  simp only at HH
  unfold hasV at HH
  unfold prefR prefL
  simp only
  by_cases h1 : d < 1
  · rw [if_pos (.inl h1)]; exact pre_A kd kb kn nn pp d _ _ _ _ w hf h1 HH
  by_cases h4 : 4 < d
  · rw [if_pos (.inr (.inl h4))]; exact pre_B kd kb kn nn pp d _ _ _ _ w hf h4 HH
  by_cases hk : kd < 1
  · obtain rfl : kd = 0 := by omega
    rw [if_pos (.inr (.inr (.inl hk)))]; exact pre_C kb kn nn pp d _ _ _ _ w hf (by omega) (by omega) HH
  by_cases hk6 : 6 < kd
  · rw [if_pos (.inr (.inr (.inr hk6)))]; exact pre_D kd kb kn nn pp d _ _ _ _ w hf (by omega) (by omega) hk6 HH
  rw [if_neg (by omega)]
  by_cases hd1 : d = 1
  · subst hd1; rw [if_pos rfl]; exact pre_E kd kb kn nn pp _ _ _ _ w hf (by omega) (by omega) HH
  rw [if_neg hd1]
  have hn1 : (d == 1) = false := beq_eq_false_iff_ne.2 hd1
  cases hB : hasB kd
  · rw [if_pos (.inl rfl)]
    rw [hB] at HH
    exact pre_F kd kb kn nn pp d _ _ _ w hf (by omega) (by omega) (by omega) (by omega) hn1 HH
  rw [hB] at HH
  cases hbk : bucketL kb.data.toList
  · rw [if_pos (.inr rfl)]
    exact pre_G kd kb kn nn pp d _ _ _ w hf (by omega) (by omega) (by omega) (by omega) hn1 hbk HH
  rw [if_neg (by simp)]
  have e2 : bs (UInt8.ofNat kd :: (kb.data.toList ++ [0])) = bs [UInt8.ofNat kd] ++ (kb ++ ⟨#[0]⟩) := by apply ba_ext; simp [bs]
  by_cases hd2 : d = 2
  · subst hd2
    rw [if_pos rfl]
    simp only
    rw [e2]
    exact pre_H kd kb kn nn pp _ _ _ w hf (by omega) (by omega) hbk HH
  rw [if_neg hd2]
  by_cases h5 : d = 4 ∧ kd = 5
  · obtain ⟨rfl, rfl⟩ := h5
    rw [if_pos ⟨rfl, rfl⟩]
    simp only
    rw [show bs (UInt8.ofNat 5 :: (kb.data.toList ++ [0]) ++ be 8 nn) = bs [UInt8.ofNat 5] ++ (kb ++ ⟨#[0]⟩) ++ bs (be 8 nn) by apply ba_ext; simp [bs]]
    exact pre_I kb kn nn pp w hf hbk HH
  rw [if_neg h5]
  have hd34 : d = 3 ∨ d = 4 := by omega
  by_cases h3 : kd = 3
  · subst h3
    by_cases hl : 200 < kn.size
    · rw [if_pos (.inr (.inl hl))]
      rcases hd34 with rfl | rfl
      · exact pre_K3 kb kn nn pp _ w hf hl hbk HH
      · exact pre_K4 kb kn nn pp _ w hf hl hbk HH
    · rcases hd34 with rfl | rfl
      · rw [if_neg (fun h => h.elim (fun h => h rfl) (fun h => h.elim hl (fun h => absurd h.1 (by decide)))), if_neg (by decide)]
        simp only
        rw [show bs (UInt8.ofNat 3 :: (kb.data.toList ++ [0]) ++ esc kn.data.toList) = bs [UInt8.ofNat 3] ++ (kb ++ ⟨#[0]⟩) ++ bs (esc kn.data.toList) by apply ba_ext; simp [bs]]
        exact pre_M kb kn nn pp _ w hv hf hl hbk HH
      · by_cases he : kn = ⟨#[]⟩
        · subst he
          rw [if_pos (.inr (.inr ⟨rfl, rfl⟩))]
          exact pre_L kb nn pp _ w hf hbk HH
        · rw [if_neg (fun h => h.elim (fun h => h rfl) (fun h => h.elim hl (fun h => he h.2))), if_pos rfl]
          simp only
          rw [show bs (UInt8.ofNat 3 :: (kb.data.toList ++ [0]) ++ esc kn.data.toList ++ [0, 1]) = bs [UInt8.ofNat 3] ++ (kb ++ ⟨#[0]⟩) ++ bs (esc kn.data.toList) ++ ⟨#[0, 1]⟩ by apply ba_ext; simp [bs]]
          exact pre_N kb kn nn pp _ w hv hf hl (by rw [empty_iff, decide_eq_false he]) hbk HH
  · rw [if_pos (.inl h3)]
    rw [decide_eq_false h3] at HH
    rcases hd34 with rfl | rfl
    · exact pre_J3 kd kb kn nn pp _ _ w hf (by omega) (by omega) hbk HH
    · rw [decide_eq_false (fun e => h5 ⟨rfl, e⟩)] at HH
      exact pre_J4 kd kb kn nn pp _ w hf (by omega) (by omega) hbk HH

end Go.Proofs.YtaeiahkomdpcoaaDoor.Name
end
