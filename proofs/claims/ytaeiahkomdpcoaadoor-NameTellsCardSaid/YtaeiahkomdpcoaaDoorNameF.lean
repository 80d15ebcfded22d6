/- The walk of package name's Encode. -/
import Derived.Test.YtaeiahkomdpcoaaDoorNameE
import Derived.Laws.BitsAllLaws
namespace Go.Proofs.YtaeiahkomdpcoaaDoor.Name
open Go.RowKit Go.Shelf

def encR (k : Key) : Value := if mayB k then .tuple #[.string (bs (encL k)), .int .i64 0] else .tuple #[.string ⟨#[]⟩, .int .i64 2]

theorem conv_one (w : World) (n : Int) (c : UInt8) (hn : n = (c.toNat : Int)) (t : TypeId) :
    (convert 71 9 (.slice (some ⟨w.heap.size, 0, none⟩) 1 1)).run Tryd.prog (w.alloc (.cells #[.int .u8 n] t)) = .ok (.string (bs [c])) (w.alloc (.cells #[.int .u8 n] t)) := by
  subst hn
  have h : RowAt (w.alloc (.cells #[.int .u8 (c.toNat : Int)] t)) w.heap.size [c] := by
    intro i d hd
    cases i with
    | zero =>
      simp at hd; subst hd
      exact ⟨by simp, by simp⟩
    | succ i => simp at hd
  exact conv_row _ _ [c] 1 1 rfl h

theorem xor_top (n : Nat) (h : n ≤ top) : top ^^^ n = top - n := by
  unfold top at h ⊢
  have h1 : (BitVec.allOnes 64 ^^^ BitVec.ofNat 64 n).toNat = 18446744073709551615 ^^^ n := by
    rw [BitVec.toNat_xor, BitVec.toNat_allOnes, BitVec.toNat_ofNat, Nat.mod_eq_of_lt (by omega)]
  have h2 : (BitVec.allOnes 64 ^^^ BitVec.ofNat 64 n) = ~~~ BitVec.ofNat 64 n := BitVec.allOnes_xor
  rw [← h1, h2, BitVec.toNat_not, BitVec.toNat_ofNat, Nat.mod_eq_of_lt (by omega)]
theorem comp_u64 (n : Nat) (h : n ≤ top) : bits BinOp.xor IntKind.u64 (if IntKind.u64.signed = true then -1 else IntKind.u64.max) (n : Int) = ((top - n : Nat) : Int) := by
  rw [← xor_top n h]
  exact u64_xor_nat top n (by unfold top; omega) (by unfold top at h; omega)

/-- A key in a block, while the order is drawn. -/
def KeyIn (w0 : World) (b : Nat) (kn : ByteArray) (nn : Nat) (w' : World) : Prop := w'.cell? ⟨b, 2, none⟩ = some (.string kn) ∧ w'.cell? ⟨b, 3, none⟩ = some (.int .u64 (nn : Int)) ∧ Var0 w' ∧ b < w'.heap.size ∧ Below w0.heap.size w0 w'
theorem KeyIn.below {w0 w1 w2 : World} {b : Nat} {kn : ByteArray} {nn : Nat} (h : KeyIn w0 b kn nn w1) (hb : Below w1.heap.size w1 w2) : KeyIn w0 b kn nn w2 := by
  obtain ⟨h1, h2, h3, h4, h5⟩ := h
  exact ⟨(hb.cell (p := ⟨b, 2, none⟩) h4).trans h1, (hb.cell (p := ⟨b, 3, none⟩) h4).trans h2, h3.below hb, Nat.lt_of_lt_of_le h4 hb.size, below_of h5 hb⟩

set_option maxHeartbeats 3200000 in
set_option maxRecDepth 100000 in
theorem encode_bad (k : Key) (w : World) (hf : k.fits) (hm : mayB k = false) : Calls Tryd.prog 11 #[k.val] w fun e w' => e = .returned (.tuple #[.string ⟨#[]⟩, .int .i64 2]) ∧ Below w.heap.size w w' := by
  have HM := Lib.hid (fun W => may_calls k W hf)
  rw [hm] at HM
  clear hm
  obtain ⟨kd, kb, kn, nn, pp⟩ := k
  unfold Key.val at HM ⊢
  simp only at HM ⊢
  go_enter Tryd.func11, Tryd.ntmps11
  go_wp2_with fail
  refine (HM.out _).mono ?_
  rintro e w1 ⟨rfl, hb1⟩
  go_wp2
  go_ret2
  exact ⟨rfl, below_of (below_one _ _) hb1⟩

set_option maxHeartbeats 6400000 in
set_option maxRecDepth 100000 in
theorem encode_3 (kb kn : ByteArray) (nn : Nat) (pp : Int) (w : World) (hv : Var0 w) (hf : (Key.mk 3 kb kn nn pp).fits) (hm : mayB ⟨3, kb, kn, nn, pp⟩ = true) : Calls Tryd.prog 11 #[(Key.mk 3 kb kn nn pp).val] w fun e w' => e = .returned (.tuple #[.string (bs (encL ⟨3, kb, kn, nn, pp⟩)), .int .i64 0]) ∧ Below w.heap.size w w' := by
  have HM := Lib.hid (fun W => may_calls ⟨3, kb, kn, nn, pp⟩ W hf)
  rw [hm] at HM
  have HH : Hid (∀ W, Calls Tryd.prog 35 #[.int .u8 3] W fun e w' => e = .returned (.tuple #[.bool true, .bool true, .bool true, .bool false]) ∧ w' = W) := has_calls 3
  obtain ⟨hb4, hn4, _, hnt⟩ := hf
  simp only at hb4 hn4 hnt
  clear hm
  unfold Key.val at HM ⊢
  simp only at HM ⊢
  have hcv := fun W => conv_one W 3 3 rfl 5
  have HE := Lib.hid (fun W (h : Var0 W) => escape_calls kn W h hn4)
  have HY := Lib.hid (fun W => bytes_calls (top - nn) 8 W (by omega))
  have hel : (esc kn.data.toList).length ≤ 8192 := by have := esc_length kn.data.toList; rw [size_list] at this; omega
  have e1 : bs (encL ⟨3, kb, kn, nn, pp⟩) = bs [3] ++ (kb ++ ⟨#[0]⟩) ++ (bs (esc kn.data.toList) ++ ⟨#[0, 1]⟩ ++ bs (be 8 (top - nn))) := by
    apply ba_ext
    simp [bs, encL, hasB]
  rw [e1]
  have z0 : (bs [3]).size = 1 := rfl
  have z1 : (bs (esc kn.data.toList)).size ≤ 8192 := by rw [bs_size]; exact hel
  have z2 : (bs (be 8 (top - nn))).size = 8 := by rw [bs_size, be_length]
  obtain ⟨y0, hy0⟩ : ∃ y, y = bs [3] := ⟨_, rfl⟩
  obtain ⟨y1, hy1⟩ : ∃ y, y = bs (esc kn.data.toList) := ⟨_, rfl⟩
  obtain ⟨y2, hy2⟩ : ∃ y, y = bs (be 8 (top - nn)) := ⟨_, rfl⟩
  rw [← hy0] at z0
  rw [← hy1] at z1
  rw [← hy2] at z2
  rw [← hy0, ← hy1, ← hy2]
  simp only [← hy0] at hcv
  simp only [← hy1] at HE
  simp only [← hy2] at HY
  clear hy0 hy1 hy2 e1 hel
  have hv1 := hv.below (below_one w (.cells #[.int .u8 3, .string kb, .string kn, .int .u64 (nn : Int), .int .i64 pp] 24))
  go_enter Tryd.func11, Tryd.ntmps11
  go_wp2_with fail
  refine (HM.out _).mono ?_
  rintro e w1 ⟨rfl, hb1⟩
  have hv2 := hv1.below hb1
  have q0 : w1.cell? ⟨w.heap.size, 0, none⟩ = some (.int .u8 3) := (hb1.cell (p := ⟨w.heap.size, 0, none⟩) (by simp)).trans (by simp)
  have q1 : w1.cell? ⟨w.heap.size, 1, none⟩ = some (.string kb) := (hb1.cell (p := ⟨w.heap.size, 1, none⟩) (by simp)).trans (by simp)
  have q2 : w1.cell? ⟨w.heap.size, 2, none⟩ = some (.string kn) := (hb1.cell (p := ⟨w.heap.size, 2, none⟩) (by simp)).trans (by simp)
  have q3 : w1.cell? ⟨w.heap.size, 3, none⟩ = some (.int .u64 (nn : Int)) := (hb1.cell (p := ⟨w.heap.size, 3, none⟩) (by simp)).trans (by simp)
  have q4 : w1.cell? ⟨w.heap.size, 4, none⟩ = some (.int .i64 pp) := (hb1.cell (p := ⟨w.heap.size, 4, none⟩) (by simp)).trans (by simp)
  have hlt : w.heap.size < w1.heap.size := by have := hb1.size; simp at this; omega
  have b1 := below_of (below_one _ _) hb1
  clear hb1 HM
  go_wp2_with fail
  refine (HH.out _).mono ?_
  rintro e w2 ⟨rfl, rfl⟩
  have hx := comp_u64 nn hnt
  have H0 : KeyIn w w.heap.size kn nn ((w2.alloc (.cells #[.int .u8 3] 5)).drew) := KeyIn.below (KeyIn.below ⟨q2, q3, hv2, hlt, b1⟩ (below_one _ _)) (below_drew (Below.refl _ _))
  go_wp2
  have s1 : ¬ 9223372036854775807 < y1.size + 2 := by omega
  have s2 : ¬ 9223372036854775807 < y1.size + 2 + 8 := by omega
  have s3 : ¬ 9223372036854775807 < 1 + (kb.size + 1) + (y1.size + 2 + 8) := by omega
  go_region_held3 (fun w' => w'.cell? ⟨w.heap.size, 2, none⟩ = some (.string kn) ∧ w'.cell? ⟨w.heap.size, 3, none⟩ = some (.int .u64 (nn : Int)) ∧ KeyIn w w.heap.size kn nn w') (first | exact ⟨HKE.1, HKE.2.1, HKE⟩ | exact ⟨HKY.1, HKY.2.1, HKY⟩ | exact ⟨H0.1, H0.2.1, H0⟩)
    (first | (go_at_call 36; refine Calls.mono (HE.out _ ?hvE) ?_; (case hvE => exact (KeyIn.below (w0 := w) (b := w.heap.size) (kn := kn) (nn := nn) (by assumption) (Below.refl _ _)).2.2.1); rintro e wE ⟨rfl, hbE⟩; have HKE := KeyIn.below (w0 := w) (b := w.heap.size) (kn := kn) (nn := nn) (by assumption) hbE) | (go_at_call 37; refine Calls.mono (HY.out _) ?_; rintro e wY ⟨rfl, hbY⟩; have HKY := KeyIn.below (w0 := w) (b := w.heap.size) (kn := kn) (nn := nn) (by assumption) hbY))
  all_goals
    go_wp2
    go_ret2
    first | exact ⟨rfl, HKY.2.2.2.2⟩ | exact ⟨rfl, HKE.2.2.2.2⟩

set_option maxHeartbeats 6400000 in
set_option maxRecDepth 100000 in
theorem encode_2 (kb kn : ByteArray) (nn : Nat) (pp : Int) (w : World) (hv : Var0 w) (hf : (Key.mk 2 kb kn nn pp).fits) (hm : mayB ⟨2, kb, kn, nn, pp⟩ = true) : Calls Tryd.prog 11 #[(Key.mk 2 kb kn nn pp).val] w fun e w' => e = .returned (.tuple #[.string (bs (encL ⟨2, kb, kn, nn, pp⟩)), .int .i64 0]) ∧ Below w.heap.size w w' := by
  have HM := Lib.hid (fun W => may_calls ⟨2, kb, kn, nn, pp⟩ W hf)
  rw [hm] at HM
  have HH : Hid (∀ W, Calls Tryd.prog 35 #[.int .u8 2] W fun e w' => e = .returned (.tuple #[.bool true, .bool false, .bool false, .bool false]) ∧ w' = W) := has_calls 2
  obtain ⟨hb4, hn4, _, hnt⟩ := hf
  simp only at hb4 hn4 hnt
  clear hm
  unfold Key.val at HM ⊢
  simp only at HM ⊢
  have hcv := fun W => conv_one W 2 2 rfl 5
  have e1 : bs (encL ⟨2, kb, kn, nn, pp⟩) = bs [2] ++ (kb ++ ⟨#[0]⟩) := by
    apply ba_ext
    simp [bs, encL, hasB, hasN]
  rw [e1]
  have z0 : (bs [2]).size = 1 := rfl
  obtain ⟨y0, hy0⟩ : ∃ y, y = bs [2] := ⟨_, rfl⟩
  rw [← hy0] at z0
  rw [← hy0]
  simp only [← hy0] at hcv
  clear hy0 e1 hnt hn4
  have s1 : ¬ 9223372036854775807 < kb.size + 1 := by omega
  have s2 : ¬ 9223372036854775807 < 1 + (kb.size + 1) := by omega
  have hv1 := hv.below (below_one w (.cells #[.int .u8 2, .string kb, .string kn, .int .u64 (nn : Int), .int .i64 pp] 24))
  go_enter Tryd.func11, Tryd.ntmps11
  go_wp2_with fail
  refine (HM.out _).mono ?_
  rintro e w1 ⟨rfl, hb1⟩
  have hv2 := hv1.below hb1
  have q0 : w1.cell? ⟨w.heap.size, 0, none⟩ = some (.int .u8 2) := (hb1.cell (p := ⟨w.heap.size, 0, none⟩) (by simp)).trans (by simp)
  have q1 : w1.cell? ⟨w.heap.size, 1, none⟩ = some (.string kb) := (hb1.cell (p := ⟨w.heap.size, 1, none⟩) (by simp)).trans (by simp)
  have q2 : w1.cell? ⟨w.heap.size, 2, none⟩ = some (.string kn) := (hb1.cell (p := ⟨w.heap.size, 2, none⟩) (by simp)).trans (by simp)
  have q3 : w1.cell? ⟨w.heap.size, 3, none⟩ = some (.int .u64 (nn : Int)) := (hb1.cell (p := ⟨w.heap.size, 3, none⟩) (by simp)).trans (by simp)
  have q4 : w1.cell? ⟨w.heap.size, 4, none⟩ = some (.int .i64 pp) := (hb1.cell (p := ⟨w.heap.size, 4, none⟩) (by simp)).trans (by simp)
  have hlt : w.heap.size < w1.heap.size := by have := hb1.size; simp at this; omega
  have b1 := below_of (below_one _ _) hb1
  clear hb1 HM
  go_wp2_with fail
  refine (HH.out _).mono ?_
  rintro e w2 ⟨rfl, rfl⟩
  go_wp2
  go_ret2
  exact ⟨rfl, below_of b1 (below_one _ _)⟩

set_option maxHeartbeats 6400000 in
set_option maxRecDepth 100000 in
theorem encode_4 (kb kn : ByteArray) (nn : Nat) (pp : Int) (w : World) (hv : Var0 w) (hf : (Key.mk 4 kb kn nn pp).fits) (hm : mayB ⟨4, kb, kn, nn, pp⟩ = true) : Calls Tryd.prog 11 #[(Key.mk 4 kb kn nn pp).val] w fun e w' => e = .returned (.tuple #[.string (bs (encL ⟨4, kb, kn, nn, pp⟩)), .int .i64 0]) ∧ Below w.heap.size w w' := by
  have HM := Lib.hid (fun W => may_calls ⟨4, kb, kn, nn, pp⟩ W hf)
  rw [hm] at HM
  have HH : Hid (∀ W, Calls Tryd.prog 35 #[.int .u8 4] W fun e w' => e = .returned (.tuple #[.bool true, .bool false, .bool true, .bool false]) ∧ w' = W) := has_calls 4
  obtain ⟨hb4, hn4, _, hnt⟩ := hf
  simp only at hb4 hn4 hnt
  clear hm
  unfold Key.val at HM ⊢
  simp only at HM ⊢
  have hcv := fun W => conv_one W 4 4 rfl 5
  have HY := Lib.hid (fun W => bytes_calls nn 8 W (by omega))
  have e1 : bs (encL ⟨4, kb, kn, nn, pp⟩) = bs [4] ++ (kb ++ ⟨#[0]⟩) ++ bs (be 8 nn) := by
    apply ba_ext
    simp [bs, encL, hasB, hasN]
  rw [e1]
  have z0 : (bs [4]).size = 1 := rfl
  have z2 : (bs (be 8 nn)).size = 8 := by rw [bs_size, be_length]
  obtain ⟨y0, hy0⟩ : ∃ y, y = bs [4] := ⟨_, rfl⟩
  obtain ⟨y2, hy2⟩ : ∃ y, y = bs (be 8 nn) := ⟨_, rfl⟩
  rw [← hy0] at z0
  rw [← hy2] at z2
  rw [← hy0, ← hy2]
  simp only [← hy0] at hcv
  simp only [← hy2] at HY
  clear hy0 hy2 e1 hnt hn4
  have s1 : ¬ 9223372036854775807 < kb.size + 1 := by omega
  have s2 : ¬ 9223372036854775807 < 1 + (kb.size + 1) := by omega
  have s3 : ¬ 9223372036854775807 < 1 + (kb.size + 1) + 8 := by omega
  have hv1 := hv.below (below_one w (.cells #[.int .u8 4, .string kb, .string kn, .int .u64 (nn : Int), .int .i64 pp] 24))
  go_enter Tryd.func11, Tryd.ntmps11
  go_wp2_with fail
  refine (HM.out _).mono ?_
  rintro e w1 ⟨rfl, hb1⟩
  have hv2 := hv1.below hb1
  have q0 : w1.cell? ⟨w.heap.size, 0, none⟩ = some (.int .u8 4) := (hb1.cell (p := ⟨w.heap.size, 0, none⟩) (by simp)).trans (by simp)
  have q1 : w1.cell? ⟨w.heap.size, 1, none⟩ = some (.string kb) := (hb1.cell (p := ⟨w.heap.size, 1, none⟩) (by simp)).trans (by simp)
  have q2 : w1.cell? ⟨w.heap.size, 2, none⟩ = some (.string kn) := (hb1.cell (p := ⟨w.heap.size, 2, none⟩) (by simp)).trans (by simp)
  have q3 : w1.cell? ⟨w.heap.size, 3, none⟩ = some (.int .u64 (nn : Int)) := (hb1.cell (p := ⟨w.heap.size, 3, none⟩) (by simp)).trans (by simp)
  have q4 : w1.cell? ⟨w.heap.size, 4, none⟩ = some (.int .i64 pp) := (hb1.cell (p := ⟨w.heap.size, 4, none⟩) (by simp)).trans (by simp)
  have hlt : w.heap.size < w1.heap.size := by have := hb1.size; simp at this; omega
  have b1 := below_of (below_one _ _) hb1
  clear hb1 HM
  go_wp2_with fail
  refine (HH.out _).mono ?_
  rintro e w2 ⟨rfl, rfl⟩
  go_wp2_with fail
  refine (HY.out _).mono ?_
  rintro e w3 ⟨rfl, b3⟩
  go_wp2
  go_ret2
  exact ⟨rfl, below_of (below_of b1 (below_one _ _)) b3⟩

set_option maxHeartbeats 6400000 in
set_option maxRecDepth 100000 in
theorem encode_5 (kb kn : ByteArray) (nn : Nat) (pp : Int) (w : World) (hv : Var0 w) (hf : (Key.mk 5 kb kn nn pp).fits) (hm : mayB ⟨5, kb, kn, nn, pp⟩ = true) : Calls Tryd.prog 11 #[(Key.mk 5 kb kn nn pp).val] w fun e w' => e = .returned (.tuple #[.string (bs (encL ⟨5, kb, kn, nn, pp⟩)), .int .i64 0]) ∧ Below w.heap.size w w' := by
  have HM := Lib.hid (fun W => may_calls ⟨5, kb, kn, nn, pp⟩ W hf)
  rw [hm] at HM
  have HH : Hid (∀ W, Calls Tryd.prog 35 #[.int .u8 5] W fun e w' => e = .returned (.tuple #[.bool true, .bool false, .bool true, .bool true]) ∧ w' = W) := has_calls 5
  obtain ⟨hb4, hn4, _, hnt⟩ := hf
  simp only at hb4 hn4 hnt
  have hpp := (may_facts hm).2.2.2.2.2.2.1 rfl
  simp only at hpp
  clear hm
  unfold Key.val at HM ⊢
  simp only at HM ⊢
  have hcv := fun W => conv_one W 5 5 rfl 5
  obtain ⟨pq, rfl⟩ := Int.eq_ofNat_of_zero_le (show 0 ≤ pp by omega)
  have HY := Lib.hid (fun W => bytes_calls nn 8 W (by omega))
  have HY2 := Lib.hid (fun W => bytes_calls pq 2 W (by omega))
  have e1 : bs (encL ⟨5, kb, kn, nn, pq⟩) = bs [5] ++ (kb ++ ⟨#[0]⟩) ++ bs (be 8 nn) ++ bs (be 2 pq) := by
    apply ba_ext
    simp [bs, encL, hasB, hasN]
  rw [e1]
  have hpw : IntKind.u64.wrap (pq : Int) = (pq : Int) := IntWalk.u64_in _ (by omega)
  have z0 : (bs [5]).size = 1 := rfl
  have z2 : (bs (be 8 nn)).size = 8 := by rw [bs_size, be_length]
  have z3 : (bs (be 2 pq)).size = 2 := by rw [bs_size, be_length]
  obtain ⟨y0, hy0⟩ : ∃ y, y = bs [5] := ⟨_, rfl⟩
  obtain ⟨y2, hy2⟩ : ∃ y, y = bs (be 8 nn) := ⟨_, rfl⟩
  obtain ⟨y3, hy3⟩ : ∃ y, y = bs (be 2 pq) := ⟨_, rfl⟩
  rw [← hy0] at z0
  rw [← hy2] at z2
  rw [← hy3] at z3
  rw [← hy0, ← hy2, ← hy3]
  simp only [← hy0] at hcv
  simp only [← hy2] at HY
  simp only [← hy3] at HY2
  clear hy0 hy2 hy3 e1 hnt hn4
  have s1 : ¬ 9223372036854775807 < kb.size + 1 := by omega
  have s2 : ¬ 9223372036854775807 < 1 + (kb.size + 1) := by omega
  have s3 : ¬ 9223372036854775807 < 1 + (kb.size + 1) + 8 := by omega
  have s4 : ¬ 9223372036854775807 < 1 + (kb.size + 1) + 8 + 2 := by omega
  have hv1 := hv.below (below_one w (.cells #[.int .u8 5, .string kb, .string kn, .int .u64 (nn : Int), .int .i64 (pq : Int)] 24))
  go_enter Tryd.func11, Tryd.ntmps11
  go_wp2_with fail
  refine (HM.out _).mono ?_
  rintro e w1 ⟨rfl, hb1⟩
  have hv2 := hv1.below hb1
  have q0 : w1.cell? ⟨w.heap.size, 0, none⟩ = some (.int .u8 5) := (hb1.cell (p := ⟨w.heap.size, 0, none⟩) (by simp)).trans (by simp)
  have q1 : w1.cell? ⟨w.heap.size, 1, none⟩ = some (.string kb) := (hb1.cell (p := ⟨w.heap.size, 1, none⟩) (by simp)).trans (by simp)
  have q2 : w1.cell? ⟨w.heap.size, 2, none⟩ = some (.string kn) := (hb1.cell (p := ⟨w.heap.size, 2, none⟩) (by simp)).trans (by simp)
  have q3 : w1.cell? ⟨w.heap.size, 3, none⟩ = some (.int .u64 (nn : Int)) := (hb1.cell (p := ⟨w.heap.size, 3, none⟩) (by simp)).trans (by simp)
  have q4 : w1.cell? ⟨w.heap.size, 4, none⟩ = some (.int .i64 (pq : Int)) := (hb1.cell (p := ⟨w.heap.size, 4, none⟩) (by simp)).trans (by simp)
  have hlt : w.heap.size < w1.heap.size := by have := hb1.size; simp at this; omega
  have b1 := below_of (below_one _ _) hb1
  clear hb1 HM
  go_wp2_with fail
  refine (HH.out _).mono ?_
  rintro e w2 ⟨rfl, rfl⟩
  have hbs := b1.size
  have hs1 : w.heap.size < (w2.alloc (.cells #[.int .u8 5] 5)).heap.size := by simp; omega
  have q4' := (below_one w2 (.cells #[.int .u8 5] 5)).cell (p := ⟨w.heap.size, 4, none⟩) hlt
  go_wp2_with fail
  refine (HY.out _).mono ?_
  rintro e w3 ⟨rfl, b3⟩
  have q5 : w3.cell? ⟨w.heap.size, 4, none⟩ = some (.int .i64 (pq : Int)) := (b3.cell (p := ⟨w.heap.size, 4, none⟩) hs1).trans (q4'.trans q4)
  clear q4'
  go_wp2_with fail
  refine (HY2.out _).mono ?_
  rintro e w4 ⟨rfl, b4⟩
  go_wp2
  go_ret2
  exact ⟨rfl, below_of (below_of (below_of b1 (below_one _ _)) b3) b4⟩

set_option maxHeartbeats 6400000 in
set_option maxRecDepth 100000 in
theorem encode_1 (kb kn : ByteArray) (nn : Nat) (pp : Int) (w : World) (hv : Var0 w) (hf : (Key.mk 1 kb kn nn pp).fits) (hm : mayB ⟨1, kb, kn, nn, pp⟩ = true) : Calls Tryd.prog 11 #[(Key.mk 1 kb kn nn pp).val] w fun e w' => e = .returned (.tuple #[.string (bs (encL ⟨1, kb, kn, nn, pp⟩)), .int .i64 0]) ∧ Below w.heap.size w w' := by
  have HM := Lib.hid (fun W => may_calls ⟨1, kb, kn, nn, pp⟩ W hf)
  rw [hm] at HM
  have HH : Hid (∀ W, Calls Tryd.prog 35 #[.int .u8 1] W fun e w' => e = .returned (.tuple #[.bool false, .bool false, .bool false, .bool false]) ∧ w' = W) := has_calls 1
  obtain ⟨hb4, hn4, _, hnt⟩ := hf
  simp only at hb4 hn4 hnt
  clear hm
  unfold Key.val at HM ⊢
  simp only at HM ⊢
  have hcv := fun W => conv_one W 1 1 rfl 5
  have e1 : bs (encL ⟨1, kb, kn, nn, pp⟩) = bs [1] := by
    apply ba_ext
    simp [bs, encL, hasB, hasN]
  rw [e1]
  have z0 : (bs [1]).size = 1 := rfl
  obtain ⟨y0, hy0⟩ : ∃ y, y = bs [1] := ⟨_, rfl⟩
  rw [← hy0] at z0
  rw [← hy0]
  simp only [← hy0] at hcv
  clear hy0 e1 hnt hn4 hb4
  have hv1 := hv.below (below_one w (.cells #[.int .u8 1, .string kb, .string kn, .int .u64 (nn : Int), .int .i64 pp] 24))
  go_enter Tryd.func11, Tryd.ntmps11
  go_wp2_with fail
  refine (HM.out _).mono ?_
  rintro e w1 ⟨rfl, hb1⟩
  have hv2 := hv1.below hb1
  have q0 : w1.cell? ⟨w.heap.size, 0, none⟩ = some (.int .u8 1) := (hb1.cell (p := ⟨w.heap.size, 0, none⟩) (by simp)).trans (by simp)
  have q1 : w1.cell? ⟨w.heap.size, 1, none⟩ = some (.string kb) := (hb1.cell (p := ⟨w.heap.size, 1, none⟩) (by simp)).trans (by simp)
  have q2 : w1.cell? ⟨w.heap.size, 2, none⟩ = some (.string kn) := (hb1.cell (p := ⟨w.heap.size, 2, none⟩) (by simp)).trans (by simp)
  have q3 : w1.cell? ⟨w.heap.size, 3, none⟩ = some (.int .u64 (nn : Int)) := (hb1.cell (p := ⟨w.heap.size, 3, none⟩) (by simp)).trans (by simp)
  have q4 : w1.cell? ⟨w.heap.size, 4, none⟩ = some (.int .i64 pp) := (hb1.cell (p := ⟨w.heap.size, 4, none⟩) (by simp)).trans (by simp)
  have hlt : w.heap.size < w1.heap.size := by have := hb1.size; simp at this; omega
  have b1 := below_of (below_one _ _) hb1
  clear hb1 HM
  go_wp2_with fail
  refine (HH.out _).mono ?_
  rintro e w2 ⟨rfl, rfl⟩
  go_wp2
  go_ret2
  exact ⟨rfl, below_of b1 (below_one _ _)⟩

set_option maxHeartbeats 6400000 in
set_option maxRecDepth 100000 in
theorem encode_6 (kb kn : ByteArray) (nn : Nat) (pp : Int) (w : World) (hv : Var0 w) (hf : (Key.mk 6 kb kn nn pp).fits) (hm : mayB ⟨6, kb, kn, nn, pp⟩ = true) : Calls Tryd.prog 11 #[(Key.mk 6 kb kn nn pp).val] w fun e w' => e = .returned (.tuple #[.string (bs (encL ⟨6, kb, kn, nn, pp⟩)), .int .i64 0]) ∧ Below w.heap.size w w' := by
  have HM := Lib.hid (fun W => may_calls ⟨6, kb, kn, nn, pp⟩ W hf)
  rw [hm] at HM
  have HH : Hid (∀ W, Calls Tryd.prog 35 #[.int .u8 6] W fun e w' => e = .returned (.tuple #[.bool false, .bool false, .bool true, .bool false]) ∧ w' = W) := has_calls 6
  obtain ⟨hb4, hn4, _, hnt⟩ := hf
  simp only at hb4 hn4 hnt
  clear hm
  unfold Key.val at HM ⊢
  simp only at HM ⊢
  have hcv := fun W => conv_one W 6 6 rfl 5
  have HY := Lib.hid (fun W => bytes_calls nn 8 W (by omega))
  have e1 : bs (encL ⟨6, kb, kn, nn, pp⟩) = bs [6] ++ bs (be 8 nn) := by
    apply ba_ext
    simp [bs, encL, hasB, hasN]
  rw [e1]
  have z0 : (bs [6]).size = 1 := rfl
  have z2 : (bs (be 8 nn)).size = 8 := by rw [bs_size, be_length]
  obtain ⟨y0, hy0⟩ : ∃ y, y = bs [6] := ⟨_, rfl⟩
  obtain ⟨y2, hy2⟩ : ∃ y, y = bs (be 8 nn) := ⟨_, rfl⟩
  rw [← hy0] at z0
  rw [← hy2] at z2
  rw [← hy0, ← hy2]
  simp only [← hy0] at hcv
  simp only [← hy2] at HY
  clear hy0 hy2 e1 hnt hn4 hb4
  have hv1 := hv.below (below_one w (.cells #[.int .u8 6, .string kb, .string kn, .int .u64 (nn : Int), .int .i64 pp] 24))
  go_enter Tryd.func11, Tryd.ntmps11
  go_wp2_with fail
  refine (HM.out _).mono ?_
  rintro e w1 ⟨rfl, hb1⟩
  have hv2 := hv1.below hb1
  have q0 : w1.cell? ⟨w.heap.size, 0, none⟩ = some (.int .u8 6) := (hb1.cell (p := ⟨w.heap.size, 0, none⟩) (by simp)).trans (by simp)
  have q1 : w1.cell? ⟨w.heap.size, 1, none⟩ = some (.string kb) := (hb1.cell (p := ⟨w.heap.size, 1, none⟩) (by simp)).trans (by simp)
  have q2 : w1.cell? ⟨w.heap.size, 2, none⟩ = some (.string kn) := (hb1.cell (p := ⟨w.heap.size, 2, none⟩) (by simp)).trans (by simp)
  have q3 : w1.cell? ⟨w.heap.size, 3, none⟩ = some (.int .u64 (nn : Int)) := (hb1.cell (p := ⟨w.heap.size, 3, none⟩) (by simp)).trans (by simp)
  have q4 : w1.cell? ⟨w.heap.size, 4, none⟩ = some (.int .i64 pp) := (hb1.cell (p := ⟨w.heap.size, 4, none⟩) (by simp)).trans (by simp)
  have hlt : w.heap.size < w1.heap.size := by have := hb1.size; simp at this; omega
  have b1 := below_of (below_one _ _) hb1
  clear hb1 HM
  go_wp2_with fail
  refine (HH.out _).mono ?_
  rintro e w2 ⟨rfl, rfl⟩
  go_wp2_with fail
  refine (HY.out _).mono ?_
  rintro e w3 ⟨rfl, b3⟩
  go_wp2
  go_ret2
  exact ⟨rfl, below_of (below_of b1 (below_one _ _)) b3⟩

theorem encode_calls (k : Key) (w : World) (hv : Var0 w) (hf : k.fits) : Calls Tryd.prog 11 #[k.val] w fun e w' => e = .returned (encR k) ∧ Below w.heap.size w w' := by
  unfold encR
  cases hm : mayB k
  · exact encode_bad k w hf hm
  · have hk := (may_facts hm).1
    obtain ⟨kd, kb, kn, nn, pp⟩ := k
    simp only at hk
    obtain rfl | rfl | rfl | rfl | rfl | rfl : kd = 1 ∨ kd = 2 ∨ kd = 3 ∨ kd = 4 ∨ kd = 5 ∨ kd = 6 := by omega
    · exact encode_1 kb kn nn pp w hv hf hm
    · exact encode_2 kb kn nn pp w hv hf hm
    · exact encode_3 kb kn nn pp w hv hf hm
    · exact encode_4 kb kn nn pp w hv hf hm
    · exact encode_5 kb kn nn pp w hv hf hm
    · exact encode_6 kb kn nn pp w hv hf hm

end Go.Proofs.YtaeiahkomdpcoaaDoor.Name
