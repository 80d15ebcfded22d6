/- The walk of package name's Prefix (printed by genpre.py). -/
import Derived.Test.YtaeiahkomdpcoaaDoorNameK
namespace Go.Proofs.YtaeiahkomdpcoaaDoor.Name
open Go.RowKit Go.Shelf

/-- What keys begin with, so deep. -/
def prefL (k : Key) (d : Int) : Option Bs :=
  if d < 1 ∨ 4 < d ∨ k.kind < 1 ∨ 6 < k.kind then none
  else if d = 1 then some [UInt8.ofNat k.kind]
  else if hasB k.kind = false ∨ bucketL k.bucket.data.toList = false then none
  else if d = 2 then some (UInt8.ofNat k.kind :: (k.bucket.data.toList ++ [0]))
  else if d = 4 ∧ k.kind = 5 then some (UInt8.ofNat k.kind :: (k.bucket.data.toList ++ [0]) ++ be 8 k.n)
  else if k.kind ≠ 3 ∨ 200 < k.name.size ∨ (d = 4 ∧ k.name = ⟨#[]⟩) then none
  else if d = 4 then some (UInt8.ofNat k.kind :: (k.bucket.data.toList ++ [0]) ++ esc k.name.data.toList ++ [0, 1])
  else some (UInt8.ofNat k.kind :: (k.bucket.data.toList ++ [0]) ++ esc k.name.data.toList)
def prefR (k : Key) (d : Int) : Value := match prefL k d with
  | some l => .tuple #[.string (bs l), .int .i64 0]
  | none => .tuple #[.string ⟨#[]⟩, .int .i64 2]
theorem kind_byte (k : Nat) (h : k < 256) : (k : Int) = ((UInt8.ofNat k).toNat : Int) := by
  rw [UInt8.toNat_ofNat', Nat.mod_eq_of_lt h]

set_option maxHeartbeats 3200000 in
set_option maxRecDepth 100000 in
theorem pre_A (kd : Nat) (kb kn : ByteArray) (nn : Nat) (pp : Int) (d : Int) (b0 : Bool) (b1 : Bool) (b2 : Bool) (b3 : Bool) (w : World) (hf : (Key.mk kd kb kn nn pp).fits) (hd : d < 1)
    (HH : Hid (∀ W, Calls Tryd.prog 35 #[.int .u8 (kd : Int)] W fun e w' => e = .returned (.tuple #[.bool b0, .bool b1, .bool b2, .bool b3]) ∧ w' = W)) :
    Calls Tryd.prog 12 #[(Key.mk kd kb kn nn pp).val, .int .i64 (d)] w fun e w' => e = .returned (.tuple #[.string ⟨#[]⟩, .int .i64 2]) ∧ Below w.heap.size w w' := by
  obtain ⟨hb4, hn4, hkl, hnt⟩ := hf
  simp only at hb4 hn4 hkl hnt
  unfold Key.val
  simp only
  have hcv := conv_one (w.alloc (.cells #[.int .u8 (kd : Int), .string kb, .string kn, .int .u64 (nn : Int), .int .i64 pp] 24)) (kd : Int) (UInt8.ofNat kd) (kind_byte kd hkl) 5
  rw [show (w.alloc (.cells #[.int .u8 (kd : Int), .string kb, .string kn, .int .u64 (nn : Int), .int .i64 pp] 24)).heap.size = w.heap.size + 1 by simp] at hcv
  go_enter Tryd.func12, Tryd.ntmps12
  go_wp2_with fail
  refine (HH.out _).mono ?_
  rintro e w1 ⟨rfl, rfl⟩
  go_wp2
  go_ret2
  exact ⟨rfl, (by first | exact below_one _ _ | exact below_alloc (below_one _ _) _)⟩

set_option maxHeartbeats 3200000 in
set_option maxRecDepth 100000 in
theorem pre_B (kd : Nat) (kb kn : ByteArray) (nn : Nat) (pp : Int) (d : Int) (b0 : Bool) (b1 : Bool) (b2 : Bool) (b3 : Bool) (w : World) (hf : (Key.mk kd kb kn nn pp).fits) (hd : 4 < d)
    (HH : Hid (∀ W, Calls Tryd.prog 35 #[.int .u8 (kd : Int)] W fun e w' => e = .returned (.tuple #[.bool b0, .bool b1, .bool b2, .bool b3]) ∧ w' = W)) :
    Calls Tryd.prog 12 #[(Key.mk kd kb kn nn pp).val, .int .i64 (d)] w fun e w' => e = .returned (.tuple #[.string ⟨#[]⟩, .int .i64 2]) ∧ Below w.heap.size w w' := by
  obtain ⟨hb4, hn4, hkl, hnt⟩ := hf
  simp only at hb4 hn4 hkl hnt
  unfold Key.val
  simp only
  have hcv := conv_one (w.alloc (.cells #[.int .u8 (kd : Int), .string kb, .string kn, .int .u64 (nn : Int), .int .i64 pp] 24)) (kd : Int) (UInt8.ofNat kd) (kind_byte kd hkl) 5
  rw [show (w.alloc (.cells #[.int .u8 (kd : Int), .string kb, .string kn, .int .u64 (nn : Int), .int .i64 pp] 24)).heap.size = w.heap.size + 1 by simp] at hcv
  have hd1 : ¬ d < 1 := by omega
  go_enter Tryd.func12, Tryd.ntmps12
  go_wp2_with fail
  refine (HH.out _).mono ?_
  rintro e w1 ⟨rfl, rfl⟩
  go_wp2
  go_ret2
  exact ⟨rfl, (by first | exact below_one _ _ | exact below_alloc (below_one _ _) _)⟩

set_option maxHeartbeats 3200000 in
set_option maxRecDepth 100000 in
theorem pre_C (kb kn : ByteArray) (nn : Nat) (pp : Int) (d : Int) (b0 : Bool) (b1 : Bool) (b2 : Bool) (b3 : Bool) (w : World) (hf : (Key.mk 0 kb kn nn pp).fits) (h1 : 1 ≤ d) (h4 : d ≤ 4)
    (HH : Hid (∀ W, Calls Tryd.prog 35 #[.int .u8 0] W fun e w' => e = .returned (.tuple #[.bool b0, .bool b1, .bool b2, .bool b3]) ∧ w' = W)) :
    Calls Tryd.prog 12 #[(Key.mk 0 kb kn nn pp).val, .int .i64 (d)] w fun e w' => e = .returned (.tuple #[.string ⟨#[]⟩, .int .i64 2]) ∧ Below w.heap.size w w' := by
  obtain ⟨hb4, hn4, hkl, hnt⟩ := hf
  simp only at hb4 hn4 hkl hnt
  unfold Key.val
  simp only
  have hcv := conv_one (w.alloc (.cells #[.int .u8 0, .string kb, .string kn, .int .u64 (nn : Int), .int .i64 pp] 24)) 0 (UInt8.ofNat 0) (kind_byte 0 hkl) 5
  rw [show (w.alloc (.cells #[.int .u8 0, .string kb, .string kn, .int .u64 (nn : Int), .int .i64 pp] 24)).heap.size = w.heap.size + 1 by simp] at hcv
  go_enter Tryd.func12, Tryd.ntmps12
  go_wp2_with fail
  refine (HH.out _).mono ?_
  rintro e w1 ⟨rfl, rfl⟩
  go_wp2
  go_ret2
  exact ⟨rfl, (by first | exact below_one _ _ | exact below_alloc (below_one _ _) _)⟩

set_option maxHeartbeats 3200000 in
set_option maxRecDepth 100000 in
theorem pre_D (kd : Nat) (kb kn : ByteArray) (nn : Nat) (pp : Int) (d : Int) (b0 : Bool) (b1 : Bool) (b2 : Bool) (b3 : Bool) (w : World) (hf : (Key.mk kd kb kn nn pp).fits) (h1 : 1 ≤ d) (h4 : d ≤ 4) (hk : 6 < kd)
    (HH : Hid (∀ W, Calls Tryd.prog 35 #[.int .u8 (kd : Int)] W fun e w' => e = .returned (.tuple #[.bool b0, .bool b1, .bool b2, .bool b3]) ∧ w' = W)) :
    Calls Tryd.prog 12 #[(Key.mk kd kb kn nn pp).val, .int .i64 (d)] w fun e w' => e = .returned (.tuple #[.string ⟨#[]⟩, .int .i64 2]) ∧ Below w.heap.size w w' := by
  obtain ⟨hb4, hn4, hkl, hnt⟩ := hf
  simp only at hb4 hn4 hkl hnt
  unfold Key.val
  simp only
  have hcv := conv_one (w.alloc (.cells #[.int .u8 (kd : Int), .string kb, .string kn, .int .u64 (nn : Int), .int .i64 pp] 24)) (kd : Int) (UInt8.ofNat kd) (kind_byte kd hkl) 5
  rw [show (w.alloc (.cells #[.int .u8 (kd : Int), .string kb, .string kn, .int .u64 (nn : Int), .int .i64 pp] 24)).heap.size = w.heap.size + 1 by simp] at hcv
  go_enter Tryd.func12, Tryd.ntmps12
  go_wp2_with fail
  refine (HH.out _).mono ?_
  rintro e w1 ⟨rfl, rfl⟩
  go_wp2
  go_ret2
  exact ⟨rfl, (by first | exact below_one _ _ | exact below_alloc (below_one _ _) _)⟩

set_option maxHeartbeats 3200000 in
set_option maxRecDepth 100000 in
theorem pre_E (kd : Nat) (kb kn : ByteArray) (nn : Nat) (pp : Int) (b0 : Bool) (b1 : Bool) (b2 : Bool) (b3 : Bool) (w : World) (hf : (Key.mk kd kb kn nn pp).fits) (hk : 1 ≤ kd) (hk6 : kd ≤ 6)
    (HH : Hid (∀ W, Calls Tryd.prog 35 #[.int .u8 (kd : Int)] W fun e w' => e = .returned (.tuple #[.bool b0, .bool b1, .bool b2, .bool b3]) ∧ w' = W)) :
    Calls Tryd.prog 12 #[(Key.mk kd kb kn nn pp).val, .int .i64 (1)] w fun e w' => e = .returned (.tuple #[.string (bs [UInt8.ofNat kd]), .int .i64 0]) ∧ Below w.heap.size w w' := by
  obtain ⟨hb4, hn4, hkl, hnt⟩ := hf
  simp only at hb4 hn4 hkl hnt
  unfold Key.val
  simp only
  have hcv := conv_one (w.alloc (.cells #[.int .u8 (kd : Int), .string kb, .string kn, .int .u64 (nn : Int), .int .i64 pp] 24)) (kd : Int) (UInt8.ofNat kd) (kind_byte kd hkl) 5
  rw [show (w.alloc (.cells #[.int .u8 (kd : Int), .string kb, .string kn, .int .u64 (nn : Int), .int .i64 pp] 24)).heap.size = w.heap.size + 1 by simp] at hcv
  go_enter Tryd.func12, Tryd.ntmps12
  go_wp2_with fail
  refine (HH.out _).mono ?_
  rintro e w1 ⟨rfl, rfl⟩
  go_wp2
  go_ret2
  exact ⟨rfl, (by first | exact below_one _ _ | exact below_alloc (below_one _ _) _)⟩

set_option maxHeartbeats 3200000 in
set_option maxRecDepth 100000 in
theorem pre_F (kd : Nat) (kb kn : ByteArray) (nn : Nat) (pp : Int) (d : Int) (b1 : Bool) (b2 : Bool) (b3 : Bool) (w : World) (hf : (Key.mk kd kb kn nn pp).fits) (hk : 1 ≤ kd) (hk6 : kd ≤ 6) (h1 : 1 ≤ d) (h4 : d ≤ 4) (hn1 : (d == 1) = false)
    (HH : Hid (∀ W, Calls Tryd.prog 35 #[.int .u8 (kd : Int)] W fun e w' => e = .returned (.tuple #[.bool false, .bool b1, .bool b2, .bool b3]) ∧ w' = W)) :
    Calls Tryd.prog 12 #[(Key.mk kd kb kn nn pp).val, .int .i64 (d)] w fun e w' => e = .returned (.tuple #[.string ⟨#[]⟩, .int .i64 2]) ∧ Below w.heap.size w w' := by
  obtain ⟨hb4, hn4, hkl, hnt⟩ := hf
  simp only at hb4 hn4 hkl hnt
  unfold Key.val
  simp only
  have hcv := conv_one (w.alloc (.cells #[.int .u8 (kd : Int), .string kb, .string kn, .int .u64 (nn : Int), .int .i64 pp] 24)) (kd : Int) (UInt8.ofNat kd) (kind_byte kd hkl) 5
  rw [show (w.alloc (.cells #[.int .u8 (kd : Int), .string kb, .string kn, .int .u64 (nn : Int), .int .i64 pp] 24)).heap.size = w.heap.size + 1 by simp] at hcv
  go_enter Tryd.func12, Tryd.ntmps12
  go_wp2_with fail
  refine (HH.out _).mono ?_
  rintro e w1 ⟨rfl, rfl⟩
  go_wp2
  go_ret2
  exact ⟨rfl, (by first | exact below_one _ _ | exact below_alloc (below_one _ _) _)⟩

set_option maxHeartbeats 3200000 in
set_option maxRecDepth 100000 in
theorem pre_G (kd : Nat) (kb kn : ByteArray) (nn : Nat) (pp : Int) (d : Int) (b1 : Bool) (b2 : Bool) (b3 : Bool) (w : World) (hf : (Key.mk kd kb kn nn pp).fits) (hk : 1 ≤ kd) (hk6 : kd ≤ 6) (h1 : 1 ≤ d) (h4 : d ≤ 4) (hn1 : (d == 1) = false) (hbk : bucketL kb.data.toList = false)
    (HH : Hid (∀ W, Calls Tryd.prog 35 #[.int .u8 (kd : Int)] W fun e w' => e = .returned (.tuple #[.bool true, .bool b1, .bool b2, .bool b3]) ∧ w' = W)) :
    Calls Tryd.prog 12 #[(Key.mk kd kb kn nn pp).val, .int .i64 (d)] w fun e w' => e = .returned (.tuple #[.string ⟨#[]⟩, .int .i64 2]) ∧ Below w.heap.size w w' := by
  obtain ⟨hb4, hn4, hkl, hnt⟩ := hf
  simp only at hb4 hn4 hkl hnt
  unfold Key.val
  simp only
  have hcv := conv_one (w.alloc (.cells #[.int .u8 (kd : Int), .string kb, .string kn, .int .u64 (nn : Int), .int .i64 pp] 24)) (kd : Int) (UInt8.ofNat kd) (kind_byte kd hkl) 5
  rw [show (w.alloc (.cells #[.int .u8 (kd : Int), .string kb, .string kn, .int .u64 (nn : Int), .int .i64 pp] 24)).heap.size = w.heap.size + 1 by simp] at hcv
  have HB := Lib.hid (fun W => bucket_calls kb W (by omega))
  simp only [hbk] at HB
  clear hbk
  go_enter Tryd.func12, Tryd.ntmps12
  go_wp2_with fail
  refine (HH.out _).mono ?_
  rintro e w1 ⟨rfl, rfl⟩
  go_wp2_with fail
  refine (HB.out _).mono ?_
  rintro e w2 ⟨rfl, hb2⟩
  have b2 := below_of (below_alloc (below_one w _) _) hb2
  have hlt : w.heap.size < (w.alloc (.cells #[.int .u8 (kd : Int), .string kb, .string kn, .int .u64 (nn : Int), .int .i64 pp] 24)).heap.size := by simp
  have q1 : w2.cell? ⟨w.heap.size, 1, none⟩ = some (.string kb) := (hb2.cell (p := ⟨w.heap.size, 1, none⟩) (by simp; omega)).trans (((below_one _ _).cell (p := ⟨w.heap.size, 1, none⟩) hlt).trans (by simp))
  have q2 : w2.cell? ⟨w.heap.size, 2, none⟩ = some (.string kn) := (hb2.cell (p := ⟨w.heap.size, 2, none⟩) (by simp; omega)).trans (((below_one _ _).cell (p := ⟨w.heap.size, 2, none⟩) hlt).trans (by simp))
  have q3 : w2.cell? ⟨w.heap.size, 3, none⟩ = some (.int .u64 (nn : Int)) := (hb2.cell (p := ⟨w.heap.size, 3, none⟩) (by simp; omega)).trans (((below_one _ _).cell (p := ⟨w.heap.size, 3, none⟩) hlt).trans (by simp))
  clear hlt hb2 HB HH
  go_wp2
  go_ret2
  exact ⟨rfl, b2⟩

set_option maxHeartbeats 3200000 in
set_option maxRecDepth 100000 in
theorem pre_H (kd : Nat) (kb kn : ByteArray) (nn : Nat) (pp : Int) (b1 : Bool) (b2 : Bool) (b3 : Bool) (w : World) (hf : (Key.mk kd kb kn nn pp).fits) (hk : 1 ≤ kd) (hk6 : kd ≤ 6) (hbk : bucketL kb.data.toList = true)
    (HH : Hid (∀ W, Calls Tryd.prog 35 #[.int .u8 (kd : Int)] W fun e w' => e = .returned (.tuple #[.bool true, .bool b1, .bool b2, .bool b3]) ∧ w' = W)) :
    Calls Tryd.prog 12 #[(Key.mk kd kb kn nn pp).val, .int .i64 (2)] w fun e w' => e = .returned (.tuple #[.string (bs [UInt8.ofNat kd] ++ (kb ++ ⟨#[0]⟩)), .int .i64 0]) ∧ Below w.heap.size w w' := by
  obtain ⟨hb4, hn4, hkl, hnt⟩ := hf
  simp only at hb4 hn4 hkl hnt
  unfold Key.val
  simp only
  have hcv := conv_one (w.alloc (.cells #[.int .u8 (kd : Int), .string kb, .string kn, .int .u64 (nn : Int), .int .i64 pp] 24)) (kd : Int) (UInt8.ofNat kd) (kind_byte kd hkl) 5
  rw [show (w.alloc (.cells #[.int .u8 (kd : Int), .string kb, .string kn, .int .u64 (nn : Int), .int .i64 pp] 24)).heap.size = w.heap.size + 1 by simp] at hcv
  have HB := Lib.hid (fun W => bucket_calls kb W (by omega))
  simp only [hbk] at HB
  clear hbk
  have z0 : (bs [UInt8.ofNat kd]).size = 1 := rfl
  obtain ⟨y0, hy0⟩ : ∃ y, y = bs [UInt8.ofNat kd] := ⟨_, rfl⟩
  rw [← hy0] at z0
  rw [← hy0]
  simp only [← hy0] at hcv
  clear hy0
  have s0 : ¬ 9223372036854775807 < kb.size + 1 := by omega
  have s3 : ¬ 9223372036854775807 < 1 + (kb.size + 1) := by omega
  go_enter Tryd.func12, Tryd.ntmps12
  go_wp2_with fail
  refine (HH.out _).mono ?_
  rintro e w1 ⟨rfl, rfl⟩
  go_wp2_with fail
  refine (HB.out _).mono ?_
  rintro e w2 ⟨rfl, hb2⟩
  have b2 := below_of (below_alloc (below_one w _) _) hb2
  have hlt : w.heap.size < (w.alloc (.cells #[.int .u8 (kd : Int), .string kb, .string kn, .int .u64 (nn : Int), .int .i64 pp] 24)).heap.size := by simp
  have q1 : w2.cell? ⟨w.heap.size, 1, none⟩ = some (.string kb) := (hb2.cell (p := ⟨w.heap.size, 1, none⟩) (by simp; omega)).trans (((below_one _ _).cell (p := ⟨w.heap.size, 1, none⟩) hlt).trans (by simp))
  have q2 : w2.cell? ⟨w.heap.size, 2, none⟩ = some (.string kn) := (hb2.cell (p := ⟨w.heap.size, 2, none⟩) (by simp; omega)).trans (((below_one _ _).cell (p := ⟨w.heap.size, 2, none⟩) hlt).trans (by simp))
  have q3 : w2.cell? ⟨w.heap.size, 3, none⟩ = some (.int .u64 (nn : Int)) := (hb2.cell (p := ⟨w.heap.size, 3, none⟩) (by simp; omega)).trans (((below_one _ _).cell (p := ⟨w.heap.size, 3, none⟩) hlt).trans (by simp))
  clear hlt hb2 HB HH
  go_wp2
  go_ret2
  exact ⟨rfl, b2⟩

set_option maxHeartbeats 3200000 in
set_option maxRecDepth 100000 in
theorem pre_I (kb kn : ByteArray) (nn : Nat) (pp : Int) (w : World) (hf : (Key.mk 5 kb kn nn pp).fits) (hbk : bucketL kb.data.toList = true)
    (HH : Hid (∀ W, Calls Tryd.prog 35 #[.int .u8 5] W fun e w' => e = .returned (.tuple #[.bool true, .bool false, .bool true, .bool true]) ∧ w' = W)) :
    Calls Tryd.prog 12 #[(Key.mk 5 kb kn nn pp).val, .int .i64 (4)] w fun e w' => e = .returned (.tuple #[.string (bs [UInt8.ofNat 5] ++ (kb ++ ⟨#[0]⟩) ++ bs (be 8 nn)), .int .i64 0]) ∧ Below w.heap.size w w' := by
  obtain ⟨hb4, hn4, hkl, hnt⟩ := hf
  simp only at hb4 hn4 hkl hnt
  unfold Key.val
  simp only
  have hcv := conv_one (w.alloc (.cells #[.int .u8 5, .string kb, .string kn, .int .u64 (nn : Int), .int .i64 pp] 24)) 5 (UInt8.ofNat 5) (kind_byte 5 hkl) 5
  rw [show (w.alloc (.cells #[.int .u8 5, .string kb, .string kn, .int .u64 (nn : Int), .int .i64 pp] 24)).heap.size = w.heap.size + 1 by simp] at hcv
  have HB := Lib.hid (fun W => bucket_calls kb W (by omega))
  simp only [hbk] at HB
  clear hbk
  have z0 : (bs [UInt8.ofNat 5]).size = 1 := rfl
  obtain ⟨y0, hy0⟩ : ∃ y, y = bs [UInt8.ofNat 5] := ⟨_, rfl⟩
  rw [← hy0] at z0
  rw [← hy0]
  simp only [← hy0] at hcv
  clear hy0
  have s0 : ¬ 9223372036854775807 < kb.size + 1 := by omega
  have s3 : ¬ 9223372036854775807 < 1 + (kb.size + 1) := by omega
  have HY := Lib.hid (fun W => bytes_calls nn 8 W (by omega))
  have z2 : (bs (be 8 nn)).size = 8 := by rw [bs_size, be_length]
  obtain ⟨y2, hy2⟩ : ∃ y, y = bs (be 8 nn) := ⟨_, rfl⟩
  rw [← hy2] at z2
  rw [← hy2]
  simp only [← hy2] at HY
  clear hy2
  have s4 : ¬ 9223372036854775807 < 1 + (kb.size + 1) + 8 := by omega
  go_enter Tryd.func12, Tryd.ntmps12
  go_wp2_with fail
  refine (HH.out _).mono ?_
  rintro e w1 ⟨rfl, rfl⟩
  go_wp2_with fail
  refine (HB.out _).mono ?_
  rintro e w2 ⟨rfl, hb2⟩
  have b2 := below_of (below_alloc (below_one w _) _) hb2
  have hlt : w.heap.size < (w.alloc (.cells #[.int .u8 5, .string kb, .string kn, .int .u64 (nn : Int), .int .i64 pp] 24)).heap.size := by simp
  have q1 : w2.cell? ⟨w.heap.size, 1, none⟩ = some (.string kb) := (hb2.cell (p := ⟨w.heap.size, 1, none⟩) (by simp; omega)).trans (((below_one _ _).cell (p := ⟨w.heap.size, 1, none⟩) hlt).trans (by simp))
  have q2 : w2.cell? ⟨w.heap.size, 2, none⟩ = some (.string kn) := (hb2.cell (p := ⟨w.heap.size, 2, none⟩) (by simp; omega)).trans (((below_one _ _).cell (p := ⟨w.heap.size, 2, none⟩) hlt).trans (by simp))
  have q3 : w2.cell? ⟨w.heap.size, 3, none⟩ = some (.int .u64 (nn : Int)) := (hb2.cell (p := ⟨w.heap.size, 3, none⟩) (by simp; omega)).trans (((below_one _ _).cell (p := ⟨w.heap.size, 3, none⟩) hlt).trans (by simp))
  clear hlt hb2 HB HH
  go_wp2_with fail
  refine (HY.out _).mono ?_
  rintro e w3 ⟨rfl, hb3⟩
  go_wp2
  go_ret2
  exact ⟨rfl, below_of b2 hb3⟩

set_option maxHeartbeats 3200000 in
set_option maxRecDepth 100000 in
theorem pre_J3 (kd : Nat) (kb kn : ByteArray) (nn : Nat) (pp : Int) (b2 : Bool) (b3 : Bool) (w : World) (hf : (Key.mk kd kb kn nn pp).fits) (hk : 1 ≤ kd) (hk6 : kd ≤ 6) (hbk : bucketL kb.data.toList = true)
    (HH : Hid (∀ W, Calls Tryd.prog 35 #[.int .u8 (kd : Int)] W fun e w' => e = .returned (.tuple #[.bool true, .bool false, .bool b2, .bool b3]) ∧ w' = W)) :
    Calls Tryd.prog 12 #[(Key.mk kd kb kn nn pp).val, .int .i64 (3)] w fun e w' => e = .returned (.tuple #[.string ⟨#[]⟩, .int .i64 2]) ∧ Below w.heap.size w w' := by
  obtain ⟨hb4, hn4, hkl, hnt⟩ := hf
  simp only at hb4 hn4 hkl hnt
  unfold Key.val
  simp only
  have hcv := conv_one (w.alloc (.cells #[.int .u8 (kd : Int), .string kb, .string kn, .int .u64 (nn : Int), .int .i64 pp] 24)) (kd : Int) (UInt8.ofNat kd) (kind_byte kd hkl) 5
  rw [show (w.alloc (.cells #[.int .u8 (kd : Int), .string kb, .string kn, .int .u64 (nn : Int), .int .i64 pp] 24)).heap.size = w.heap.size + 1 by simp] at hcv
  have HB := Lib.hid (fun W => bucket_calls kb W (by omega))
  simp only [hbk] at HB
  clear hbk
  have z0 : (bs [UInt8.ofNat kd]).size = 1 := rfl
  obtain ⟨y0, hy0⟩ : ∃ y, y = bs [UInt8.ofNat kd] := ⟨_, rfl⟩
  rw [← hy0] at z0
  simp only [← hy0] at hcv
  clear hy0
  have s0 : ¬ 9223372036854775807 < kb.size + 1 := by omega
  have s3 : ¬ 9223372036854775807 < 1 + (kb.size + 1) := by omega
  go_enter Tryd.func12, Tryd.ntmps12
  go_wp2_with fail
  refine (HH.out _).mono ?_
  rintro e w1 ⟨rfl, rfl⟩
  go_wp2_with fail
  refine (HB.out _).mono ?_
  rintro e w2 ⟨rfl, hb2⟩
  have b2 := below_of (below_alloc (below_one w _) _) hb2
  have hlt : w.heap.size < (w.alloc (.cells #[.int .u8 (kd : Int), .string kb, .string kn, .int .u64 (nn : Int), .int .i64 pp] 24)).heap.size := by simp
  have q1 : w2.cell? ⟨w.heap.size, 1, none⟩ = some (.string kb) := (hb2.cell (p := ⟨w.heap.size, 1, none⟩) (by simp; omega)).trans (((below_one _ _).cell (p := ⟨w.heap.size, 1, none⟩) hlt).trans (by simp))
  have q2 : w2.cell? ⟨w.heap.size, 2, none⟩ = some (.string kn) := (hb2.cell (p := ⟨w.heap.size, 2, none⟩) (by simp; omega)).trans (((below_one _ _).cell (p := ⟨w.heap.size, 2, none⟩) hlt).trans (by simp))
  have q3 : w2.cell? ⟨w.heap.size, 3, none⟩ = some (.int .u64 (nn : Int)) := (hb2.cell (p := ⟨w.heap.size, 3, none⟩) (by simp; omega)).trans (((below_one _ _).cell (p := ⟨w.heap.size, 3, none⟩) hlt).trans (by simp))
  clear hlt hb2 HB HH
  go_wp2
  go_ret2
  exact ⟨rfl, b2⟩

set_option maxHeartbeats 3200000 in
set_option maxRecDepth 100000 in
theorem pre_J4 (kd : Nat) (kb kn : ByteArray) (nn : Nat) (pp : Int) (b2 : Bool) (w : World) (hf : (Key.mk kd kb kn nn pp).fits) (hk : 1 ≤ kd) (hk6 : kd ≤ 6) (hbk : bucketL kb.data.toList = true)
    (HH : Hid (∀ W, Calls Tryd.prog 35 #[.int .u8 (kd : Int)] W fun e w' => e = .returned (.tuple #[.bool true, .bool false, .bool b2, .bool false]) ∧ w' = W)) :
    Calls Tryd.prog 12 #[(Key.mk kd kb kn nn pp).val, .int .i64 (4)] w fun e w' => e = .returned (.tuple #[.string ⟨#[]⟩, .int .i64 2]) ∧ Below w.heap.size w w' := by
  obtain ⟨hb4, hn4, hkl, hnt⟩ := hf
  simp only at hb4 hn4 hkl hnt
  unfold Key.val
  simp only
  have hcv := conv_one (w.alloc (.cells #[.int .u8 (kd : Int), .string kb, .string kn, .int .u64 (nn : Int), .int .i64 pp] 24)) (kd : Int) (UInt8.ofNat kd) (kind_byte kd hkl) 5
  rw [show (w.alloc (.cells #[.int .u8 (kd : Int), .string kb, .string kn, .int .u64 (nn : Int), .int .i64 pp] 24)).heap.size = w.heap.size + 1 by simp] at hcv
  have HB := Lib.hid (fun W => bucket_calls kb W (by omega))
  simp only [hbk] at HB
  clear hbk
  have z0 : (bs [UInt8.ofNat kd]).size = 1 := rfl
  obtain ⟨y0, hy0⟩ : ∃ y, y = bs [UInt8.ofNat kd] := ⟨_, rfl⟩
  rw [← hy0] at z0
  simp only [← hy0] at hcv
  clear hy0
  have s0 : ¬ 9223372036854775807 < kb.size + 1 := by omega
  have s3 : ¬ 9223372036854775807 < 1 + (kb.size + 1) := by omega
  go_enter Tryd.func12, Tryd.ntmps12
  go_wp2_with fail
  refine (HH.out _).mono ?_
  rintro e w1 ⟨rfl, rfl⟩
  go_wp2_with fail
  refine (HB.out _).mono ?_
  rintro e w2 ⟨rfl, hb2⟩
  have b2 := below_of (below_alloc (below_one w _) _) hb2
  have hlt : w.heap.size < (w.alloc (.cells #[.int .u8 (kd : Int), .string kb, .string kn, .int .u64 (nn : Int), .int .i64 pp] 24)).heap.size := by simp
  have q1 : w2.cell? ⟨w.heap.size, 1, none⟩ = some (.string kb) := (hb2.cell (p := ⟨w.heap.size, 1, none⟩) (by simp; omega)).trans (((below_one _ _).cell (p := ⟨w.heap.size, 1, none⟩) hlt).trans (by simp))
  have q2 : w2.cell? ⟨w.heap.size, 2, none⟩ = some (.string kn) := (hb2.cell (p := ⟨w.heap.size, 2, none⟩) (by simp; omega)).trans (((below_one _ _).cell (p := ⟨w.heap.size, 2, none⟩) hlt).trans (by simp))
  have q3 : w2.cell? ⟨w.heap.size, 3, none⟩ = some (.int .u64 (nn : Int)) := (hb2.cell (p := ⟨w.heap.size, 3, none⟩) (by simp; omega)).trans (((below_one _ _).cell (p := ⟨w.heap.size, 3, none⟩) hlt).trans (by simp))
  clear hlt hb2 HB HH
  go_wp2
  go_ret2
  exact ⟨rfl, b2⟩

set_option maxHeartbeats 3200000 in
set_option maxRecDepth 100000 in
theorem pre_K3 (kb kn : ByteArray) (nn : Nat) (pp : Int) (b2 : Bool) (w : World) (hf : (Key.mk 3 kb kn nn pp).fits) (hl : 200 < kn.size) (hbk : bucketL kb.data.toList = true)
    (HH : Hid (∀ W, Calls Tryd.prog 35 #[.int .u8 3] W fun e w' => e = .returned (.tuple #[.bool true, .bool true, .bool b2, .bool false]) ∧ w' = W)) :
    Calls Tryd.prog 12 #[(Key.mk 3 kb kn nn pp).val, .int .i64 (3)] w fun e w' => e = .returned (.tuple #[.string ⟨#[]⟩, .int .i64 2]) ∧ Below w.heap.size w w' := by
  obtain ⟨hb4, hn4, hkl, hnt⟩ := hf
  simp only at hb4 hn4 hkl hnt
  unfold Key.val
  simp only
  have hcv := conv_one (w.alloc (.cells #[.int .u8 3, .string kb, .string kn, .int .u64 (nn : Int), .int .i64 pp] 24)) 3 (UInt8.ofNat 3) (kind_byte 3 hkl) 5
  rw [show (w.alloc (.cells #[.int .u8 3, .string kb, .string kn, .int .u64 (nn : Int), .int .i64 pp] 24)).heap.size = w.heap.size + 1 by simp] at hcv
  have HB := Lib.hid (fun W => bucket_calls kb W (by omega))
  simp only [hbk] at HB
  clear hbk
  have z0 : (bs [UInt8.ofNat 3]).size = 1 := rfl
  obtain ⟨y0, hy0⟩ : ∃ y, y = bs [UInt8.ofNat 3] := ⟨_, rfl⟩
  rw [← hy0] at z0
  simp only [← hy0] at hcv
  clear hy0
  have s0 : ¬ 9223372036854775807 < kb.size + 1 := by omega
  have s3 : ¬ 9223372036854775807 < 1 + (kb.size + 1) := by omega
  go_enter Tryd.func12, Tryd.ntmps12
  go_wp2_with fail
  refine (HH.out _).mono ?_
  rintro e w1 ⟨rfl, rfl⟩
  go_wp2_with fail
  refine (HB.out _).mono ?_
  rintro e w2 ⟨rfl, hb2⟩
  have b2 := below_of (below_alloc (below_one w _) _) hb2
  have hlt : w.heap.size < (w.alloc (.cells #[.int .u8 3, .string kb, .string kn, .int .u64 (nn : Int), .int .i64 pp] 24)).heap.size := by simp
  have q1 : w2.cell? ⟨w.heap.size, 1, none⟩ = some (.string kb) := (hb2.cell (p := ⟨w.heap.size, 1, none⟩) (by simp; omega)).trans (((below_one _ _).cell (p := ⟨w.heap.size, 1, none⟩) hlt).trans (by simp))
  have q2 : w2.cell? ⟨w.heap.size, 2, none⟩ = some (.string kn) := (hb2.cell (p := ⟨w.heap.size, 2, none⟩) (by simp; omega)).trans (((below_one _ _).cell (p := ⟨w.heap.size, 2, none⟩) hlt).trans (by simp))
  have q3 : w2.cell? ⟨w.heap.size, 3, none⟩ = some (.int .u64 (nn : Int)) := (hb2.cell (p := ⟨w.heap.size, 3, none⟩) (by simp; omega)).trans (((below_one _ _).cell (p := ⟨w.heap.size, 3, none⟩) hlt).trans (by simp))
  clear hlt hb2 HB HH
  go_wp2
  go_ret2
  exact ⟨rfl, b2⟩

set_option maxHeartbeats 3200000 in
set_option maxRecDepth 100000 in
theorem pre_K4 (kb kn : ByteArray) (nn : Nat) (pp : Int) (b2 : Bool) (w : World) (hf : (Key.mk 3 kb kn nn pp).fits) (hl : 200 < kn.size) (hbk : bucketL kb.data.toList = true)
    (HH : Hid (∀ W, Calls Tryd.prog 35 #[.int .u8 3] W fun e w' => e = .returned (.tuple #[.bool true, .bool true, .bool b2, .bool false]) ∧ w' = W)) :
    Calls Tryd.prog 12 #[(Key.mk 3 kb kn nn pp).val, .int .i64 (4)] w fun e w' => e = .returned (.tuple #[.string ⟨#[]⟩, .int .i64 2]) ∧ Below w.heap.size w w' := by
  obtain ⟨hb4, hn4, hkl, hnt⟩ := hf
  simp only at hb4 hn4 hkl hnt
  unfold Key.val
  simp only
  have hcv := conv_one (w.alloc (.cells #[.int .u8 3, .string kb, .string kn, .int .u64 (nn : Int), .int .i64 pp] 24)) 3 (UInt8.ofNat 3) (kind_byte 3 hkl) 5
  rw [show (w.alloc (.cells #[.int .u8 3, .string kb, .string kn, .int .u64 (nn : Int), .int .i64 pp] 24)).heap.size = w.heap.size + 1 by simp] at hcv
  have HB := Lib.hid (fun W => bucket_calls kb W (by omega))
  simp only [hbk] at HB
  clear hbk
  have z0 : (bs [UInt8.ofNat 3]).size = 1 := rfl
  obtain ⟨y0, hy0⟩ : ∃ y, y = bs [UInt8.ofNat 3] := ⟨_, rfl⟩
  rw [← hy0] at z0
  simp only [← hy0] at hcv
  clear hy0
  have s0 : ¬ 9223372036854775807 < kb.size + 1 := by omega
  have s3 : ¬ 9223372036854775807 < 1 + (kb.size + 1) := by omega
  go_enter Tryd.func12, Tryd.ntmps12
  go_wp2_with fail
  refine (HH.out _).mono ?_
  rintro e w1 ⟨rfl, rfl⟩
  go_wp2_with fail
  refine (HB.out _).mono ?_
  rintro e w2 ⟨rfl, hb2⟩
  have b2 := below_of (below_alloc (below_one w _) _) hb2
  have hlt : w.heap.size < (w.alloc (.cells #[.int .u8 3, .string kb, .string kn, .int .u64 (nn : Int), .int .i64 pp] 24)).heap.size := by simp
  have q1 : w2.cell? ⟨w.heap.size, 1, none⟩ = some (.string kb) := (hb2.cell (p := ⟨w.heap.size, 1, none⟩) (by simp; omega)).trans (((below_one _ _).cell (p := ⟨w.heap.size, 1, none⟩) hlt).trans (by simp))
  have q2 : w2.cell? ⟨w.heap.size, 2, none⟩ = some (.string kn) := (hb2.cell (p := ⟨w.heap.size, 2, none⟩) (by simp; omega)).trans (((below_one _ _).cell (p := ⟨w.heap.size, 2, none⟩) hlt).trans (by simp))
  have q3 : w2.cell? ⟨w.heap.size, 3, none⟩ = some (.int .u64 (nn : Int)) := (hb2.cell (p := ⟨w.heap.size, 3, none⟩) (by simp; omega)).trans (((below_one _ _).cell (p := ⟨w.heap.size, 3, none⟩) hlt).trans (by simp))
  clear hlt hb2 HB HH
  go_wp2
  go_ret2
  exact ⟨rfl, b2⟩

set_option maxHeartbeats 3200000 in
set_option maxRecDepth 100000 in
theorem pre_L (kb : ByteArray) (nn : Nat) (pp : Int) (b2 : Bool) (w : World) (hf : (Key.mk 3 kb ⟨#[]⟩ nn pp).fits) (hbk : bucketL kb.data.toList = true)
    (HH : Hid (∀ W, Calls Tryd.prog 35 #[.int .u8 3] W fun e w' => e = .returned (.tuple #[.bool true, .bool true, .bool b2, .bool false]) ∧ w' = W)) :
    Calls Tryd.prog 12 #[(Key.mk 3 kb ⟨#[]⟩ nn pp).val, .int .i64 (4)] w fun e w' => e = .returned (.tuple #[.string ⟨#[]⟩, .int .i64 2]) ∧ Below w.heap.size w w' := by
  obtain ⟨hb4, hn4, hkl, hnt⟩ := hf
  simp only at hb4 hn4 hkl hnt
  unfold Key.val
  simp only
  have hcv := conv_one (w.alloc (.cells #[.int .u8 3, .string kb, .string ⟨#[]⟩, .int .u64 (nn : Int), .int .i64 pp] 24)) 3 (UInt8.ofNat 3) (kind_byte 3 hkl) 5
  rw [show (w.alloc (.cells #[.int .u8 3, .string kb, .string ⟨#[]⟩, .int .u64 (nn : Int), .int .i64 pp] 24)).heap.size = w.heap.size + 1 by simp] at hcv
  have HB := Lib.hid (fun W => bucket_calls kb W (by omega))
  simp only [hbk] at HB
  clear hbk
  have z0 : (bs [UInt8.ofNat 3]).size = 1 := rfl
  obtain ⟨y0, hy0⟩ : ∃ y, y = bs [UInt8.ofNat 3] := ⟨_, rfl⟩
  rw [← hy0] at z0
  simp only [← hy0] at hcv
  clear hy0
  have s0 : ¬ 9223372036854775807 < kb.size + 1 := by omega
  have s3 : ¬ 9223372036854775807 < 1 + (kb.size + 1) := by omega
  go_enter Tryd.func12, Tryd.ntmps12
  go_wp2_with fail
  refine (HH.out _).mono ?_
  rintro e w1 ⟨rfl, rfl⟩
  go_wp2_with fail
  refine (HB.out _).mono ?_
  rintro e w2 ⟨rfl, hb2⟩
  have b2 := below_of (below_alloc (below_one w _) _) hb2
  have hlt : w.heap.size < (w.alloc (.cells #[.int .u8 3, .string kb, .string ⟨#[]⟩, .int .u64 (nn : Int), .int .i64 pp] 24)).heap.size := by simp
  have q1 : w2.cell? ⟨w.heap.size, 1, none⟩ = some (.string kb) := (hb2.cell (p := ⟨w.heap.size, 1, none⟩) (by simp; omega)).trans (((below_one _ _).cell (p := ⟨w.heap.size, 1, none⟩) hlt).trans (by simp))
  have q2 : w2.cell? ⟨w.heap.size, 2, none⟩ = some (.string ⟨#[]⟩) := (hb2.cell (p := ⟨w.heap.size, 2, none⟩) (by simp; omega)).trans (((below_one _ _).cell (p := ⟨w.heap.size, 2, none⟩) hlt).trans (by simp))
  have q3 : w2.cell? ⟨w.heap.size, 3, none⟩ = some (.int .u64 (nn : Int)) := (hb2.cell (p := ⟨w.heap.size, 3, none⟩) (by simp; omega)).trans (((below_one _ _).cell (p := ⟨w.heap.size, 3, none⟩) hlt).trans (by simp))
  clear hlt hb2 HB HH
  go_wp2
  go_ret2
  exact ⟨rfl, b2⟩

set_option maxHeartbeats 3200000 in
set_option maxRecDepth 100000 in
theorem pre_M (kb kn : ByteArray) (nn : Nat) (pp : Int) (b2 : Bool) (w : World) (hv : Var0 w) (hf : (Key.mk 3 kb kn nn pp).fits) (hl : ¬ 200 < kn.size) (hbk : bucketL kb.data.toList = true)
    (HH : Hid (∀ W, Calls Tryd.prog 35 #[.int .u8 3] W fun e w' => e = .returned (.tuple #[.bool true, .bool true, .bool b2, .bool false]) ∧ w' = W)) :
    Calls Tryd.prog 12 #[(Key.mk 3 kb kn nn pp).val, .int .i64 (3)] w fun e w' => e = .returned (.tuple #[.string (bs [UInt8.ofNat 3] ++ (kb ++ ⟨#[0]⟩) ++ bs (esc kn.data.toList)), .int .i64 0]) ∧ Below w.heap.size w w' := by
  obtain ⟨hb4, hn4, hkl, hnt⟩ := hf
  simp only at hb4 hn4 hkl hnt
  unfold Key.val
  simp only
  have hcv := conv_one (w.alloc (.cells #[.int .u8 3, .string kb, .string kn, .int .u64 (nn : Int), .int .i64 pp] 24)) 3 (UInt8.ofNat 3) (kind_byte 3 hkl) 5
  rw [show (w.alloc (.cells #[.int .u8 3, .string kb, .string kn, .int .u64 (nn : Int), .int .i64 pp] 24)).heap.size = w.heap.size + 1 by simp] at hcv
  have HB := Lib.hid (fun W => bucket_calls kb W (by omega))
  simp only [hbk] at HB
  clear hbk
  have z0 : (bs [UInt8.ofNat 3]).size = 1 := rfl
  obtain ⟨y0, hy0⟩ : ∃ y, y = bs [UInt8.ofNat 3] := ⟨_, rfl⟩
  rw [← hy0] at z0
  rw [← hy0]
  simp only [← hy0] at hcv
  clear hy0
  have s0 : ¬ 9223372036854775807 < kb.size + 1 := by omega
  have s3 : ¬ 9223372036854775807 < 1 + (kb.size + 1) := by omega
  have HE := Lib.hid (fun W (h : Var0 W) => escape_calls kn W h hn4)
  have hel : (esc kn.data.toList).length ≤ 8192 := by have := esc_length kn.data.toList; rw [size_list] at this; omega
  have z1 : (bs (esc kn.data.toList)).size ≤ 8192 := by rw [bs_size]; exact hel
  obtain ⟨y1, hy1⟩ : ∃ y, y = bs (esc kn.data.toList) := ⟨_, rfl⟩
  rw [← hy1] at z1
  rw [← hy1]
  simp only [← hy1] at HE
  clear hy1 hel
  have s4 : ¬ 9223372036854775807 < 1 + (kb.size + 1) + y1.size := by omega
  have s5 : ¬ 9223372036854775807 < 1 + (kb.size + 1) + y1.size + 2 := by omega
  go_enter Tryd.func12, Tryd.ntmps12
  go_wp2_with fail
  refine (HH.out _).mono ?_
  rintro e w1 ⟨rfl, rfl⟩
  go_wp2_with fail
  refine (HB.out _).mono ?_
  rintro e w2 ⟨rfl, hb2⟩
  have b2 := below_of (below_alloc (below_one w _) _) hb2
  have hlt : w.heap.size < (w.alloc (.cells #[.int .u8 3, .string kb, .string kn, .int .u64 (nn : Int), .int .i64 pp] 24)).heap.size := by simp
  have q1 : w2.cell? ⟨w.heap.size, 1, none⟩ = some (.string kb) := (hb2.cell (p := ⟨w.heap.size, 1, none⟩) (by simp; omega)).trans (((below_one _ _).cell (p := ⟨w.heap.size, 1, none⟩) hlt).trans (by simp))
  have q2 : w2.cell? ⟨w.heap.size, 2, none⟩ = some (.string kn) := (hb2.cell (p := ⟨w.heap.size, 2, none⟩) (by simp; omega)).trans (((below_one _ _).cell (p := ⟨w.heap.size, 2, none⟩) hlt).trans (by simp))
  have q3 : w2.cell? ⟨w.heap.size, 3, none⟩ = some (.int .u64 (nn : Int)) := (hb2.cell (p := ⟨w.heap.size, 3, none⟩) (by simp; omega)).trans (((below_one _ _).cell (p := ⟨w.heap.size, 3, none⟩) hlt).trans (by simp))
  clear hlt hb2 HB HH
  have hv2 := hv.below b2
  go_wp2_with fail
  refine (HE.out _ hv2).mono ?_
  rintro e w3 ⟨rfl, hb3⟩
  go_wp2
  go_ret2
  exact ⟨rfl, below_of b2 hb3⟩

set_option maxHeartbeats 3200000 in
set_option maxRecDepth 100000 in
theorem pre_N (kb kn : ByteArray) (nn : Nat) (pp : Int) (b2 : Bool) (w : World) (hv : Var0 w) (hf : (Key.mk 3 kb kn nn pp).fits) (hl : ¬ 200 < kn.size) (hne : kn.toList.isEmpty = false) (hbk : bucketL kb.data.toList = true)
    (HH : Hid (∀ W, Calls Tryd.prog 35 #[.int .u8 3] W fun e w' => e = .returned (.tuple #[.bool true, .bool true, .bool b2, .bool false]) ∧ w' = W)) :
    Calls Tryd.prog 12 #[(Key.mk 3 kb kn nn pp).val, .int .i64 (4)] w fun e w' => e = .returned (.tuple #[.string (bs [UInt8.ofNat 3] ++ (kb ++ ⟨#[0]⟩) ++ bs (esc kn.data.toList) ++ ⟨#[0, 1]⟩), .int .i64 0]) ∧ Below w.heap.size w w' := by
  obtain ⟨hb4, hn4, hkl, hnt⟩ := hf
  simp only at hb4 hn4 hkl hnt
  unfold Key.val
  simp only
  have hcv := conv_one (w.alloc (.cells #[.int .u8 3, .string kb, .string kn, .int .u64 (nn : Int), .int .i64 pp] 24)) 3 (UInt8.ofNat 3) (kind_byte 3 hkl) 5
  rw [show (w.alloc (.cells #[.int .u8 3, .string kb, .string kn, .int .u64 (nn : Int), .int .i64 pp] 24)).heap.size = w.heap.size + 1 by simp] at hcv
  have HB := Lib.hid (fun W => bucket_calls kb W (by omega))
  simp only [hbk] at HB
  clear hbk
  have z0 : (bs [UInt8.ofNat 3]).size = 1 := rfl
  obtain ⟨y0, hy0⟩ : ∃ y, y = bs [UInt8.ofNat 3] := ⟨_, rfl⟩
  rw [← hy0] at z0
  rw [← hy0]
  simp only [← hy0] at hcv
  clear hy0
  have s0 : ¬ 9223372036854775807 < kb.size + 1 := by omega
  have s3 : ¬ 9223372036854775807 < 1 + (kb.size + 1) := by omega
  have HE := Lib.hid (fun W (h : Var0 W) => escape_calls kn W h hn4)
  have hel : (esc kn.data.toList).length ≤ 8192 := by have := esc_length kn.data.toList; rw [size_list] at this; omega
  have z1 : (bs (esc kn.data.toList)).size ≤ 8192 := by rw [bs_size]; exact hel
  obtain ⟨y1, hy1⟩ : ∃ y, y = bs (esc kn.data.toList) := ⟨_, rfl⟩
  rw [← hy1] at z1
  rw [← hy1]
  simp only [← hy1] at HE
  clear hy1 hel
  have s4 : ¬ 9223372036854775807 < 1 + (kb.size + 1) + y1.size := by omega
  have s5 : ¬ 9223372036854775807 < 1 + (kb.size + 1) + y1.size + 2 := by omega
  go_enter Tryd.func12, Tryd.ntmps12
  go_wp2_with fail
  refine (HH.out _).mono ?_
  rintro e w1 ⟨rfl, rfl⟩
  go_wp2_with fail
  refine (HB.out _).mono ?_
  rintro e w2 ⟨rfl, hb2⟩
  have b2 := below_of (below_alloc (below_one w _) _) hb2
  have hlt : w.heap.size < (w.alloc (.cells #[.int .u8 3, .string kb, .string kn, .int .u64 (nn : Int), .int .i64 pp] 24)).heap.size := by simp
  have q1 : w2.cell? ⟨w.heap.size, 1, none⟩ = some (.string kb) := (hb2.cell (p := ⟨w.heap.size, 1, none⟩) (by simp; omega)).trans (((below_one _ _).cell (p := ⟨w.heap.size, 1, none⟩) hlt).trans (by simp))
  have q2 : w2.cell? ⟨w.heap.size, 2, none⟩ = some (.string kn) := (hb2.cell (p := ⟨w.heap.size, 2, none⟩) (by simp; omega)).trans (((below_one _ _).cell (p := ⟨w.heap.size, 2, none⟩) hlt).trans (by simp))
  have q3 : w2.cell? ⟨w.heap.size, 3, none⟩ = some (.int .u64 (nn : Int)) := (hb2.cell (p := ⟨w.heap.size, 3, none⟩) (by simp; omega)).trans (((below_one _ _).cell (p := ⟨w.heap.size, 3, none⟩) hlt).trans (by simp))
  clear hlt hb2 HB HH
  have hv2 := hv.below b2
  go_wp2_with fail
  refine (HE.out _ hv2).mono ?_
  rintro e w3 ⟨rfl, hb3⟩
  go_wp2
  go_ret2
  exact ⟨rfl, below_of b2 hb3⟩

theorem pref_calls (k : Key) (d : Int) (w : World) (hv : Var0 w) (hf : k.fits) : Calls Tryd.prog 12 #[k.val, .int .i64 d] w fun e w' => e = .returned (prefR k d) ∧ Below w.heap.size w w' := by
  have HH := has_calls k.kind
  obtain ⟨kd, kb, kn, nn, pp⟩ := k
  simp only at HH
  unfold hasV at HH
  unfold prefR prefL
  simp only
  by_cases h1 : d < 1
  · rw [if_pos (.inl h1)]; exact pre_A kd kb kn nn pp d _ _ _ _ w hf h1 HH
  by_cases h4 : 4 < d
  · rw [if_pos (.inr (.inl h4))]; exact pre_B kd kb kn nn pp d _ _ _ _ w hf h4 HH
  by_cases hk : kd < 1
  · obtain rfl : kd = 0 := by omega
    rw [if_pos (.inr (.inr (.inl hk)))]; exact pre_C kb kn nn pp d _ _ _ _ w hf (by omega) (by omega) HH
  by_cases hk6 : 6 < kd
  · rw [if_pos (.inr (.inr (.inr hk6)))]; exact pre_D kd kb kn nn pp d _ _ _ _ w hf (by omega) (by omega) hk6 HH
  rw [if_neg (by omega)]
  by_cases hd1 : d = 1
  · subst hd1; rw [if_pos rfl]; exact pre_E kd kb kn nn pp _ _ _ _ w hf (by omega) (by omega) HH
  rw [if_neg hd1]
  have hn1 : (d == 1) = false := beq_eq_false_iff_ne.2 hd1
  cases hB : hasB kd
  · rw [if_pos (.inl rfl)]
    rw [hB] at HH
    exact pre_F kd kb kn nn pp d _ _ _ w hf (by omega) (by omega) (by omega) (by omega) hn1 HH
  rw [hB] at HH
  cases hbk : bucketL kb.data.toList
  · rw [if_pos (.inr rfl)]
    exact pre_G kd kb kn nn pp d _ _ _ w hf (by omega) (by omega) (by omega) (by omega) hn1 hbk HH
  rw [if_neg (by simp)]
  have e2 : bs (UInt8.ofNat kd :: (kb.data.toList ++ [0])) = bs [UInt8.ofNat kd] ++ (kb ++ ⟨#[0]⟩) := by apply ba_ext; simp [bs]
  by_cases hd2 : d = 2
  · subst hd2
    rw [if_pos rfl]
    simp only
    rw [e2]
    exact pre_H kd kb kn nn pp _ _ _ w hf (by omega) (by omega) hbk HH
  rw [if_neg hd2]
  by_cases h5 : d = 4 ∧ kd = 5
  · obtain ⟨rfl, rfl⟩ := h5
    rw [if_pos ⟨rfl, rfl⟩]
    simp only
    rw [show bs (UInt8.ofNat 5 :: (kb.data.toList ++ [0]) ++ be 8 nn) = bs [UInt8.ofNat 5] ++ (kb ++ ⟨#[0]⟩) ++ bs (be 8 nn) by apply ba_ext; simp [bs]]
    exact pre_I kb kn nn pp w hf hbk HH
  rw [if_neg h5]
  have hd34 : d = 3 ∨ d = 4 := by omega
  by_cases h3 : kd = 3
  · subst h3
    by_cases hl : 200 < kn.size
    · rw [if_pos (.inr (.inl hl))]
      rcases hd34 with rfl | rfl
      · exact pre_K3 kb kn nn pp _ w hf hl hbk HH
      · exact pre_K4 kb kn nn pp _ w hf hl hbk HH
    · rcases hd34 with rfl | rfl
      · rw [if_neg (fun h => h.elim (fun h => h rfl) (fun h => h.elim hl (fun h => absurd h.1 (by decide)))), if_neg (by decide)]
        simp only
        rw [show bs (UInt8.ofNat 3 :: (kb.data.toList ++ [0]) ++ esc kn.data.toList) = bs [UInt8.ofNat 3] ++ (kb ++ ⟨#[0]⟩) ++ bs (esc kn.data.toList) by apply ba_ext; simp [bs]]
        exact pre_M kb kn nn pp _ w hv hf hl hbk HH
      · by_cases he : kn = ⟨#[]⟩
        · subst he
          rw [if_pos (.inr (.inr ⟨rfl, rfl⟩))]
          exact pre_L kb nn pp _ w hf hbk HH
        · rw [if_neg (fun h => h.elim (fun h => h rfl) (fun h => h.elim hl (fun h => he h.2))), if_pos rfl]
          simp only
          rw [show bs (UInt8.ofNat 3 :: (kb.data.toList ++ [0]) ++ esc kn.data.toList ++ [0, 1]) = bs [UInt8.ofNat 3] ++ (kb ++ ⟨#[0]⟩) ++ bs (esc kn.data.toList) ++ ⟨#[0, 1]⟩ by apply ba_ext; simp [bs]]
          exact pre_N kb kn nn pp _ w hv hf hl (by rw [empty_iff, decide_eq_false he]) hbk HH
  · rw [if_pos (.inl h3)]
    rw [decide_eq_false h3] at HH
    rcases hd34 with rfl | rfl
    · exact pre_J3 kd kb kn nn pp _ _ w hf (by omega) (by omega) hbk HH
    · rw [decide_eq_false (fun e => h5 ⟨rfl, e⟩)] at HH
      exact pre_J4 kd kb kn nn pp _ w hf (by omega) (by omega) hbk HH

end Go.Proofs.YtaeiahkomdpcoaaDoor.Name
