/- The walk of package name's Decode. -/
import Derived.Test.YtaeiahkomdpcoaaDoorNameH
import Derived.Laws.ResultCell
import Derived.Laws.Rows
namespace Go.Proofs.YtaeiahkomdpcoaaDoor.Name
open Go.RowKit Go.Shelf

theorem cut_calls (s : ByteArray) (w : World) (hv : Var0 w) (hs : s.size ≤ 10000) : Calls Tryd.prog 38 #[.string s, .string ⟨#[0]⟩] w fun e w' => e = .returned (.tuple #[.string (bs (Lib.cut s.data.toList [0]).1), .string (bs (Lib.cut s.data.toList [0]).2.1), .bool (Lib.cut s.data.toList [0]).2.2]) ∧ Below w.heap.size w w' := by
  obtain ⟨m, hm, _⟩ := hv
  refine (Tryd.strings_Cut s ⟨#[0]⟩ m w (by omega) hm).mono ?_
  rintro e w' ⟨rfl, n, rfl⟩
  exact ⟨rfl, below_drewN (Below.refl _ _) n⟩

def Key.cells (k : Key) : Array Value := #[.int .u8 (k.kind : Int), .string k.bucket, .string k.name, .int .u64 (k.n : Int), .int .i64 k.part]
/-- A key in a block. -/
def KeyAt (w : World) (b : Nat) (k : Key) : Prop := w.heap[b]? = some (.cells k.cells 24 (0, 0))
def zeroK : Key := ⟨0, ⟨#[]⟩, ⟨#[]⟩, 0, 0⟩
theorem KeyAt.lt {w : World} {b : Nat} {k : Key} (h : KeyAt w b k) : b < w.heap.size := (Array.getElem?_eq_some_iff.1 h).1
theorem KeyAt.below {w w' : World} {b : Nat} {k : Key} (h : KeyAt w b k) (hb : Below w.heap.size w w') : KeyAt w' b k := (hb.block _ h.lt).trans h
theorem KeyAt.drew {w : World} {b : Nat} {k : Key} (h : KeyAt w b k) : KeyAt w.drew b k := h
theorem KeyAt.c {w : World} {b : Nat} {k : Key} (h : KeyAt w b k) : w.cell? ⟨b, 0, none⟩ = some (.int .u8 (k.kind : Int)) ∧ w.cell? ⟨b, 1, none⟩ = some (.string k.bucket) ∧ w.cell? ⟨b, 2, none⟩ = some (.string k.name) ∧ w.cell? ⟨b, 3, none⟩ = some (.int .u64 (k.n : Int)) ∧ w.cell? ⟨b, 4, none⟩ = some (.int .i64 k.part) := by
  refine ⟨?_, ?_, ?_, ?_, ?_⟩ <;> (rw [Joins.cell_of_block h]; rfl)
theorem KeyAt.f {w : World} {b : Nat} {k : Key} (h : KeyAt w b k) (i : Nat) : w.frozen? ⟨b, i, none⟩ = false := Lib.frozen_of_heap h i
theorem KeyAt.set1 {w : World} {b : Nat} {k : Key} (h : KeyAt w b k) (x : ByteArray) : KeyAt (w.setCell ⟨b, 1, none⟩ (.string x)) b { k with bucket := x } := by
  unfold KeyAt at h ⊢; simp [World.setCell, Array.getElem?_modify, h, Key.cells]
theorem KeyAt.set2 {w : World} {b : Nat} {k : Key} (h : KeyAt w b k) (x : ByteArray) : KeyAt (w.setCell ⟨b, 2, none⟩ (.string x)) b { k with name := x } := by
  unfold KeyAt at h ⊢; simp [World.setCell, Array.getElem?_modify, h, Key.cells]
theorem KeyAt.set3 {w : World} {b : Nat} {k : Key} (h : KeyAt w b k) (x : Nat) : KeyAt (w.setCell ⟨b, 3, none⟩ (.int .u64 (x : Int))) b { k with n := x } := by
  unfold KeyAt at h ⊢; simp [World.setCell, Array.getElem?_modify, h, Key.cells]
theorem KeyAt.set4 {w : World} {b : Nat} {k : Key} (h : KeyAt w b k) (x : Int) : KeyAt (w.setCell ⟨b, 4, none⟩ (.int .i64 x)) b { k with part := x } := by
  unfold KeyAt at h ⊢; simp [World.setCell, Array.getElem?_modify, h, Key.cells]
theorem KeyAt.set0 {w : World} {b : Nat} {k : Key} (h : KeyAt w b k) (x : Nat) : KeyAt (w.setCell ⟨b, 0, none⟩ (.int .u8 (x : Int))) b { k with kind := x } := by
  unfold KeyAt at h ⊢; simp [World.setCell, Array.getElem?_modify, h, Key.cells]
theorem KeyAt.setAll {w : World} {b : Nat} {k : Key} (h : KeyAt w b k) (K : Key) : KeyAt (((((w.setCell ⟨b, 0, none⟩ (.int .u8 (K.kind : Int))).setCell ⟨b, 1, none⟩ (.string K.bucket)).setCell ⟨b, 2, none⟩ (.string K.name)).setCell ⟨b, 3, none⟩ (.int .u64 (K.n : Int))).setCell ⟨b, 4, none⟩ (.int .i64 K.part)) b K :=
  ((((h.set0 K.kind).set1 K.bucket).set2 K.name).set3 K.n).set4 K.part
theorem KeyAt.other {w : World} {b : Nat} {k : Key} (h : KeyAt w b k) (a : Addr) (ha : a.block ≠ b) (v : Value) : KeyAt (w.setCell a v) b k :=
  (Below.heap_setCell _ _ _ _ (fun e => ha e.symm)).trans h

theorem Var0.set {w : World} (h : Var0 w) (a : Addr) (ha : a.block ≠ 0) (v : Value) : Var0 (w.setCell a v) := by
  obtain ⟨m, h1, h2⟩ := h
  exact ⟨m, (World.cell?_setCell_other _ _ _ _ (fun e => ha (by rw [e]))).trans h1, by simpa [World.setCell] using h2⟩
theorem Var0.drew {w : World} (h : Var0 w) : Var0 w.drew := h
theorem below_key {w w1 : World} (hb : Below w.heap.size w w1) (a : Addr) (ha : w.heap.size ≤ a.block) (v : Value) : Below w.heap.size w (w1.setCell a v) := below_set hb ha v

/-- What Decode answers of a key that it has read. -/
def decEnd (k : Key) (s : Bs) : Value := if mayB k = true ∧ encL k = s then .tuple #[k.val, .int .i64 0] else .tuple #[zeroK.val, .int .i64 8]

theorem results_key {P : Program} {fn : Func} {p u : Tmp} {ty : TypeId} (h : fn.results = #[.cell p ty, .tmp u]) (tmps : Array Value) (w : World) (g : Nat) (t : TypeId) (cs : Array Value) (fr : Nat × Nat) (d : TypeDesc)
    (hp : tmps.getD p undef = .pointer (some ⟨g, 0, none⟩)) (hg : w.heap[g]? = some (.cells cs t fr))
    (hu : P.underlying ty = some d) (hd : (match d with | .struct _ | .array _ _ => true | _ => false) = true) (hi : (P.info? ty).map (·.size) = some cs.size) :
    (results fn tmps).run P w = .ok (.tuple #[.agg cs, tmps.getD u undef]) w := by
  rw [results_cell_tmp h, hp]
  have e : (asAddr (.pointer (some ⟨g, 0, none⟩))).run P w = .ok ⟨g, 0, none⟩ w := rfl
  rw [e]
  simp only [Result.andThen, run_loadVar_row w g t ty cs fr d hg hu hd hi]

set_option maxHeartbeats 3200000 in
set_option maxRecDepth 100000 in
theorem decode3 (s : ByteArray) (qb qr nm r2 : Bs) (w : World) (hv : Var0 w) (hs : s.size ≤ 4096) (h0 : 0 < s.size) (hc : s[0].toNat = 3) (hq : Lib.cut (s.data.toList.drop 1) [0] = (qb, qr, true)) (hun : un qr = some (nm, r2)) (h8 : 8 ≤ r2.length)
    (hqb : qb.length ≤ 4096) (hqr : qr.length ≤ 4096) (hnm : nm.length ≤ 4096) (hr2 : r2.length ≤ 4096) :
    Calls Tryd.prog 14 #[.string s] w fun e w' => e = .returned (decEnd ⟨3, bs qb, bs nm, top - val (r2.take 8), 0⟩ s.data.toList) ∧ Below w.heap.size w w' := by
  have hne : s.toList.isEmpty = false := by rw [empty_iff, decide_eq_false_iff_not]; intro e; rw [e] at h0; exact absurd h0 (by decide)
  obtain ⟨R, hR⟩ : ∃ R, R = s.extract 1 s.size := ⟨_, rfl⟩
  have hRd : R.data.toList = s.data.toList.drop 1 := by rw [hR, str_drop]; rfl
  have HC := Lib.hid (fun W (h : Var0 W) => cut_calls R W h (by rw [← size_list, hRd, List.length_drop, size_list]; omega))
  rw [hRd, hq] at HC
  have HU := Lib.hid (fun W => unname_calls (bs qr) W (by rw [bs_size]; omega))
  rw [show (bs qr).data.toList = qr from rfl, hun] at HU
  obtain ⟨Y, hY⟩ : ∃ Y, Y = bs r2 := ⟨_, rfl⟩
  have hYz : 8 ≤ Y.size := by rw [hY, bs_size]; exact h8
  have hYz2 : Y.size ≤ 4096 := by rw [hY, bs_size]; exact hr2
  have HN := Lib.hid (fun W => number_calls (Y.extract 0 8) W (by rw [str_take, bs_size, List.length_take]; omega))
  rw [show (Y.extract 0 8).data.toList = r2.take 8 by rw [str_take, hY]; rfl] at HN
  have hN0 : val (r2.take 8) ≤ top := by
    have h1 := val_lt (r2.take 8)
    rw [List.length_take, Nat.min_eq_left h8] at h1
    have : (256 : Nat) ^ 8 = 18446744073709551616 := by decide
    unfold top; omega
  have hx := comp_u64 _ hN0
  have HEnc := Lib.hid (fun W (h : Var0 W) => encode_calls ⟨3, bs qb, bs nm, top - val (r2.take 8), 0⟩ W h ⟨by show (bs qb).size ≤ _; rw [bs_size]; exact hqb, by show (bs nm).size ≤ _; rw [bs_size]; exact hnm, by show 3 < 256; decide, Nat.sub_le _ _⟩)
  obtain ⟨N0, hN⟩ : ∃ N0, N0 = val (r2.take 8) := ⟨_, rfl⟩
  obtain ⟨N1, hN1⟩ : ∃ N1, N1 = top - N0 := ⟨_, rfl⟩
  rw [← hN] at HN hx HEnc
  rw [← hN]
  rw [← hN1] at hx HEnc
  rw [← hN1]
  unfold unV at HU
  simp only [← hY] at HU
  obtain ⟨zb, hzb⟩ : ∃ z, z = bs qb := ⟨_, rfl⟩
  obtain ⟨zr, hzr⟩ : ∃ z, z = bs qr := ⟨_, rfl⟩
  obtain ⟨zn, hzn⟩ : ∃ z, z = bs nm := ⟨_, rfl⟩
  rw [← hzb] at HEnc
  rw [← hzn] at HEnc
  rw [← hzb, ← hzn]
  simp only [← hzr, ← hzn] at HU
  simp only [← hzb, ← hzr] at HC
  have hRs : s.extract 1 s.size = R := hR.symm
  unfold encR at HEnc
  have hcase : ∃ (T : ByteArray) (E : Int) (out : Value), decEnd ⟨3, zb, zn, N1, 0⟩ s.data.toList = out ∧ Hid (∀ W, Var0 W → Calls Tryd.prog 11 #[(Key.mk 3 zb zn N1 0).val] W fun e w' => e = .returned (.tuple #[.string T, .int .i64 E]) ∧ Below W.heap.size W w') ∧
      ((E = 2 ∧ out = .tuple #[zeroK.val, .int .i64 8]) ∨ (E = 0 ∧ (T.toList == s.toList) = false ∧ out = .tuple #[zeroK.val, .int .i64 8]) ∨ (E = 0 ∧ (T.toList == s.toList) = true ∧ out = .tuple #[(Key.mk 3 zb zn N1 0).val, .int .i64 0])) := by
    unfold decEnd
    cases hm : mayB ⟨3, zb, zn, N1, 0⟩
    · rw [hm] at HEnc
      exact ⟨_, _, _, if_neg (by simp), HEnc, .inl ⟨rfl, rfl⟩⟩
    · rw [hm] at HEnc
      by_cases he : encL ⟨3, zb, zn, N1, 0⟩ = s.data.toList
      · exact ⟨_, _, _, if_pos ⟨rfl, he⟩, HEnc, .inr (.inr ⟨rfl, by rw [he, bs_list]; simp, rfl⟩)⟩
      · exact ⟨_, _, _, if_neg (fun h => he h.2), HEnc, .inr (.inl ⟨rfl, by
          rw [beq_eq_false_iff_ne, ByteArray.toList_eq, ByteArray.toList_eq]
          exact he, rfl⟩)⟩
  obtain ⟨T, E, out, hout, HEn2, hcase⟩ := hcase
  rw [hout]
  clear hN hN1 hzb hzr hzn hY hRd hq hun h8 hqb hqr hnm hr2 hN0 HEnc hout
  clear hR
  have HH : Hid (∀ W, Calls Tryd.prog 35 #[.int .u8 3] W fun e w' => e = .returned (.tuple #[.bool true, .bool true, .bool true, .bool false]) ∧ w' = W) := has_calls 3
  have hK0 : KeyAt ((w.alloc (.cells zeroK.cells 24)).alloc (.cells (Key.mk 3 ⟨#[]⟩ ⟨#[]⟩ 0 0).cells 24)) w.heap.size zeroK := KeyAt.below (w := w.alloc (.cells zeroK.cells 24)) (MapKept.heap_alloc w _).1 (below_one _ _)
  have hK1 : KeyAt ((w.alloc (.cells zeroK.cells 24)).alloc (.cells (Key.mk 3 ⟨#[]⟩ ⟨#[]⟩ 0 0).cells 24)) (w.heap.size + 1) (Key.mk 3 ⟨#[]⟩ ⟨#[]⟩ 0 0) := by
    have := (MapKept.heap_alloc (w.alloc (.cells zeroK.cells 24)) (.cells (Key.mk 3 ⟨#[]⟩ ⟨#[]⟩ 0 0).cells 24)).1
    rw [show (w.alloc (.cells zeroK.cells 24)).heap.size = w.heap.size + 1 by simp] at this
    exact this
  have hv1 := (hv.below (below_one w (.cells zeroK.cells 24))).below (below_one _ (.cells (Key.mk 3 ⟨#[]⟩ ⟨#[]⟩ 0 0).cells 24))
  have b1 := below_alloc (below_one w (.cells zeroK.cells 24)) (.cells (Key.mk 3 ⟨#[]⟩ ⟨#[]⟩ 0 0).cells 24)
  rcases hcase with ⟨rfl, rfl⟩ | ⟨rfl, hTs, rfl⟩ | ⟨rfl, hTs, rfl⟩
  · go_enter Tryd.func14, Tryd.ntmps14
    go_wp2_with fail
    refine (HH.out _).mono ?_
    rintro e w1 ⟨rfl, hw1⟩
    subst hw1
    go_wp2_with fail
    refine (HC.out _ hv1).mono ?_
    rintro e w2 ⟨rfl, hb2⟩
    have hA0 := hK0.below hb2
    have hA1 := hK1.below hb2
    have hv2 := hv1.below hb2
    have b2 := below_of b1 hb2
    obtain ⟨p0, p1, p2, p3, p4⟩ := hA1.c
    have f1 := hA1.f 1
    have hne1 : w.heap.size + 1 ≠ w.heap.size := by omega
    have hB1 := hA1.set1 zb
    have hB0 := hA0.other ⟨w.heap.size + 1, 1, none⟩ hne1 (.string zb)
    have hvB := hv2.set ⟨w.heap.size + 1, 1, none⟩ (by simp) (.string zb)
    have bB := below_key b2 ⟨w.heap.size + 1, 1, none⟩ (by simp) (.string zb)
    clear hK0 hK1 hv1 b1 hb2
    go_wp2_with fail
    refine (HU.out _).mono ?_
    rintro e w3 ⟨rfl, hb3⟩
    have hC0 := hB0.below hb3
    have hC1 := hB1.below hb3
    have hv3 := hvB.below hb3
    have b3 := below_of bB hb3
    clear p0 p1 p2 p3 p4 f1 hA0 hA1 hB0 hB1 hvB bB hb3 hv2 b2
    obtain ⟨p0, p1, p2, p3, p4⟩ := hC1.c
    have f2 := hC1.f 2
    have f3 := hC1.f 3
    have hd1 : decide (Y.size < 8) = false := by rw [decide_eq_false_iff_not]; omega
    have hD1 := ((hC1.set2 zn).set3 N0).set3 N1
    have hD0 := ((hC0.other ⟨w.heap.size + 1, 2, none⟩ hne1 (.string zn)).other ⟨w.heap.size + 1, 3, none⟩ hne1 (.int .u64 (N0 : Int))).other ⟨w.heap.size + 1, 3, none⟩ hne1 (.int .u64 (N1 : Int))
    have hvD := ((hv3.set ⟨w.heap.size + 1, 2, none⟩ (by simp) (.string zn)).set ⟨w.heap.size + 1, 3, none⟩ (by simp) (.int .u64 (N0 : Int))).set ⟨w.heap.size + 1, 3, none⟩ (by simp) (.int .u64 (N1 : Int))
    have bD := below_drew (below_key (below_key (below_key b3 ⟨w.heap.size + 1, 2, none⟩ (by simp) (.string zn)) ⟨w.heap.size + 1, 3, none⟩ (by simp) (.int .u64 (N0 : Int))) ⟨w.heap.size + 1, 3, none⟩ (by simp) (.int .u64 (N1 : Int)))
    obtain ⟨r0, r1, r2, r3, r4⟩ := hD1.c
    have hE1 := hD1.drew
    have hE0 := hD0.drew
    have hvE := hvD.drew
    clear hC0 hC1 hv3 hD0 hvD b3
    go_wp2_with fail
    go_region_held3 (fun _ => True) (first | trivial) (first | (go_at_call 40; refine (HN.out _).mono ?_; rintro e wN ⟨rfl, hwN⟩; subst hwN))
    all_goals
      go_wp2_with fail
      refine (HEn2.out _ hvE).mono ?_
      rintro e w4 ⟨rfl, hb4⟩
      have hF1 := hE1.below hb4
      have hF0 := hE0.below hb4
      have b4 := below_of bD hb4
      clear p0 p1 p2 p3 p4 r0 r1 r2 r3 r4 f2 f3 hE1 hE0 hvE bD hb4 HEn2 HC HU HN
      obtain ⟨p0, p1, p2, p3, p4⟩ := hF1.c
      obtain ⟨z0, z1, z2, z3, z4⟩ := hF0.c
      have g0 := hF0.f 0
      have g1 := hF0.f 1
      have g2 := hF0.f 2
      have g3 := hF0.f 3
      have g4 := hF0.f 4
      have hG := hF0.setAll zeroK
      go_wp2
      refine bodyPost_ret (results_key rfl _ _ w.heap.size 24 (Key.cells zeroK) (0, 0) _ rfl hG Tryd.underlying24 rfl (by kernel_rfl)) rfl ?_
      exact ⟨rfl, below_key (below_key (below_key (below_key (below_key b4 ⟨w.heap.size, 0, none⟩ (Nat.le_refl _) _) ⟨w.heap.size, 1, none⟩ (Nat.le_refl _) _) ⟨w.heap.size, 2, none⟩ (Nat.le_refl _) _) ⟨w.heap.size, 3, none⟩ (Nat.le_refl _) _) ⟨w.heap.size, 4, none⟩ (Nat.le_refl _) _⟩
  · go_enter Tryd.func14, Tryd.ntmps14
    go_wp2_with fail
    refine (HH.out _).mono ?_
    rintro e w1 ⟨rfl, hw1⟩
    subst hw1
    go_wp2_with fail
    refine (HC.out _ hv1).mono ?_
    rintro e w2 ⟨rfl, hb2⟩
    have hA0 := hK0.below hb2
    have hA1 := hK1.below hb2
    have hv2 := hv1.below hb2
    have b2 := below_of b1 hb2
    obtain ⟨p0, p1, p2, p3, p4⟩ := hA1.c
    have f1 := hA1.f 1
    have hne1 : w.heap.size + 1 ≠ w.heap.size := by omega
    have hB1 := hA1.set1 zb
    have hB0 := hA0.other ⟨w.heap.size + 1, 1, none⟩ hne1 (.string zb)
    have hvB := hv2.set ⟨w.heap.size + 1, 1, none⟩ (by simp) (.string zb)
    have bB := below_key b2 ⟨w.heap.size + 1, 1, none⟩ (by simp) (.string zb)
    clear hK0 hK1 hv1 b1 hb2
    go_wp2_with fail
    refine (HU.out _).mono ?_
    rintro e w3 ⟨rfl, hb3⟩
    have hC0 := hB0.below hb3
    have hC1 := hB1.below hb3
    have hv3 := hvB.below hb3
    have b3 := below_of bB hb3
    clear p0 p1 p2 p3 p4 f1 hA0 hA1 hB0 hB1 hvB bB hb3 hv2 b2
    obtain ⟨p0, p1, p2, p3, p4⟩ := hC1.c
    have f2 := hC1.f 2
    have f3 := hC1.f 3
    have hd1 : decide (Y.size < 8) = false := by rw [decide_eq_false_iff_not]; omega
    have hD1 := ((hC1.set2 zn).set3 N0).set3 N1
    have hD0 := ((hC0.other ⟨w.heap.size + 1, 2, none⟩ hne1 (.string zn)).other ⟨w.heap.size + 1, 3, none⟩ hne1 (.int .u64 (N0 : Int))).other ⟨w.heap.size + 1, 3, none⟩ hne1 (.int .u64 (N1 : Int))
    have hvD := ((hv3.set ⟨w.heap.size + 1, 2, none⟩ (by simp) (.string zn)).set ⟨w.heap.size + 1, 3, none⟩ (by simp) (.int .u64 (N0 : Int))).set ⟨w.heap.size + 1, 3, none⟩ (by simp) (.int .u64 (N1 : Int))
    have bD := below_drew (below_key (below_key (below_key b3 ⟨w.heap.size + 1, 2, none⟩ (by simp) (.string zn)) ⟨w.heap.size + 1, 3, none⟩ (by simp) (.int .u64 (N0 : Int))) ⟨w.heap.size + 1, 3, none⟩ (by simp) (.int .u64 (N1 : Int)))
    obtain ⟨r0, r1, r2, r3, r4⟩ := hD1.c
    have hE1 := hD1.drew
    have hE0 := hD0.drew
    have hvE := hvD.drew
    clear hC0 hC1 hv3 hD0 hvD b3
    go_wp2_with fail
    go_region_held3 (fun _ => True) (first | trivial) (first | (go_at_call 40; refine (HN.out _).mono ?_; rintro e wN ⟨rfl, hwN⟩; subst hwN))
    all_goals
      go_wp2_with fail
      refine (HEn2.out _ hvE).mono ?_
      rintro e w4 ⟨rfl, hb4⟩
      have hF1 := hE1.below hb4
      have hF0 := hE0.below hb4
      have b4 := below_of bD hb4
      clear p0 p1 p2 p3 p4 r0 r1 r2 r3 r4 f2 f3 hE1 hE0 hvE bD hb4 HEn2 HC HU HN
      obtain ⟨p0, p1, p2, p3, p4⟩ := hF1.c
      obtain ⟨z0, z1, z2, z3, z4⟩ := hF0.c
      have g0 := hF0.f 0
      have g1 := hF0.f 1
      have g2 := hF0.f 2
      have g3 := hF0.f 3
      have g4 := hF0.f 4
      have hG := hF0.setAll zeroK
      go_wp2
      refine bodyPost_ret (results_key rfl _ _ w.heap.size 24 (Key.cells zeroK) (0, 0) _ rfl hG Tryd.underlying24 rfl (by kernel_rfl)) rfl ?_
      exact ⟨rfl, below_key (below_key (below_key (below_key (below_key b4 ⟨w.heap.size, 0, none⟩ (Nat.le_refl _) _) ⟨w.heap.size, 1, none⟩ (Nat.le_refl _) _) ⟨w.heap.size, 2, none⟩ (Nat.le_refl _) _) ⟨w.heap.size, 3, none⟩ (Nat.le_refl _) _) ⟨w.heap.size, 4, none⟩ (Nat.le_refl _) _⟩
  · go_enter Tryd.func14, Tryd.ntmps14
    go_wp2_with fail
    refine (HH.out _).mono ?_
    rintro e w1 ⟨rfl, hw1⟩
    subst hw1
    go_wp2_with fail
    refine (HC.out _ hv1).mono ?_
    rintro e w2 ⟨rfl, hb2⟩
    have hA0 := hK0.below hb2
    have hA1 := hK1.below hb2
    have hv2 := hv1.below hb2
    have b2 := below_of b1 hb2
    obtain ⟨p0, p1, p2, p3, p4⟩ := hA1.c
    have f1 := hA1.f 1
    have hne1 : w.heap.size + 1 ≠ w.heap.size := by omega
    have hB1 := hA1.set1 zb
    have hB0 := hA0.other ⟨w.heap.size + 1, 1, none⟩ hne1 (.string zb)
    have hvB := hv2.set ⟨w.heap.size + 1, 1, none⟩ (by simp) (.string zb)
    have bB := below_key b2 ⟨w.heap.size + 1, 1, none⟩ (by simp) (.string zb)
    clear hK0 hK1 hv1 b1 hb2
    go_wp2_with fail
    refine (HU.out _).mono ?_
    rintro e w3 ⟨rfl, hb3⟩
    have hC0 := hB0.below hb3
    have hC1 := hB1.below hb3
    have hv3 := hvB.below hb3
    have b3 := below_of bB hb3
    clear p0 p1 p2 p3 p4 f1 hA0 hA1 hB0 hB1 hvB bB hb3 hv2 b2
    obtain ⟨p0, p1, p2, p3, p4⟩ := hC1.c
    have f2 := hC1.f 2
    have f3 := hC1.f 3
    have hd1 : decide (Y.size < 8) = false := by rw [decide_eq_false_iff_not]; omega
    have hD1 := ((hC1.set2 zn).set3 N0).set3 N1
    have hD0 := ((hC0.other ⟨w.heap.size + 1, 2, none⟩ hne1 (.string zn)).other ⟨w.heap.size + 1, 3, none⟩ hne1 (.int .u64 (N0 : Int))).other ⟨w.heap.size + 1, 3, none⟩ hne1 (.int .u64 (N1 : Int))
    have hvD := ((hv3.set ⟨w.heap.size + 1, 2, none⟩ (by simp) (.string zn)).set ⟨w.heap.size + 1, 3, none⟩ (by simp) (.int .u64 (N0 : Int))).set ⟨w.heap.size + 1, 3, none⟩ (by simp) (.int .u64 (N1 : Int))
    have bD := below_drew (below_key (below_key (below_key b3 ⟨w.heap.size + 1, 2, none⟩ (by simp) (.string zn)) ⟨w.heap.size + 1, 3, none⟩ (by simp) (.int .u64 (N0 : Int))) ⟨w.heap.size + 1, 3, none⟩ (by simp) (.int .u64 (N1 : Int)))
    obtain ⟨r0, r1, r2, r3, r4⟩ := hD1.c
    have hE1 := hD1.drew
    have hE0 := hD0.drew
    have hvE := hvD.drew
    clear hC0 hC1 hv3 hD0 hvD b3
    go_wp2_with fail
    go_region_held3 (fun _ => True) (first | trivial) (first | (go_at_call 40; refine (HN.out _).mono ?_; rintro e wN ⟨rfl, hwN⟩; subst hwN))
    all_goals
      go_wp2_with fail
      refine (HEn2.out _ hvE).mono ?_
      rintro e w4 ⟨rfl, hb4⟩
      have hF1 := hE1.below hb4
      have hF0 := hE0.below hb4
      have b4 := below_of bD hb4
      clear p0 p1 p2 p3 p4 r0 r1 r2 r3 r4 f2 f3 hE1 hE0 hvE bD hb4 HEn2 HC HU HN
      obtain ⟨p0, p1, p2, p3, p4⟩ := hF1.c
      obtain ⟨z0, z1, z2, z3, z4⟩ := hF0.c
      have g0 := hF0.f 0
      have g1 := hF0.f 1
      have g2 := hF0.f 2
      have g3 := hF0.f 3
      have g4 := hF0.f 4
      have hG := hF0.setAll ⟨3, zb, zn, N1, 0⟩
      go_wp2
      refine bodyPost_ret (results_key rfl _ _ w.heap.size 24 (Key.cells ⟨3, zb, zn, N1, 0⟩) (0, 0) _ rfl hG Tryd.underlying24 rfl (by kernel_rfl)) rfl ?_
      exact ⟨rfl, below_key (below_key (below_key (below_key (below_key b4 ⟨w.heap.size, 0, none⟩ (Nat.le_refl _) _) ⟨w.heap.size, 1, none⟩ (Nat.le_refl _) _) ⟨w.heap.size, 2, none⟩ (Nat.le_refl _) _) ⟨w.heap.size, 3, none⟩ (Nat.le_refl _) _) ⟨w.heap.size, 4, none⟩ (Nat.le_refl _) _⟩

end Go.Proofs.YtaeiahkomdpcoaaDoor.Name
