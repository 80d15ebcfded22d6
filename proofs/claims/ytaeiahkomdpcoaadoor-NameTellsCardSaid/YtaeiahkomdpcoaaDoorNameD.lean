/- The walk of package name's bytes. -/
import Derived.Test.YtaeiahkomdpcoaaDoorNameC
import Derived.Lib.SlBytesRow
import Derived.Lib.ConvBytes
import Derived.Lib.SmallJoins
namespace Go.Proofs.YtaeiahkomdpcoaaDoor.Name
open Go.RowKit Go.Shelf

theorem run_make_rowN {P : Program} (t e : TypeId) (i : TypeInfo) (z : Value) (ht : P.underlying t = some (.slice e)) (hi : P.info? e = some i) (hz : i.zero = some z)
    (kl kc : IntKind) (n c : Nat) (hnc : n ≤ c) (hbytes : i.bytes * c ≤ 281474976710656) (h63 : c ≤ 9223372036854775807) (w : World) :
    (Instr.makeSlice t (.int kl (n : Int)) (.int kc (c : Int))).run P w = .ok (.slice (some ⟨w.heap.size, 0, none⟩) n c) (w.alloc (.cells (madeCells z.cells (c * i.size)) e)) := by
  have hb : (i.bytes : Int) * (c : Int) ≤ 281474976710656 := by
    have h : ((i.bytes * c : Nat) : Int) ≤ 281474976710656 := by omega
    rwa [Int.natCast_mul] at h
  have hr := run_make (P := P) w t e i z ht hi hz kl kc n c (by omega) (by omega) hb (by omega)
  simp only [Int.toNat_natCast] at hr
  exact hr
theorem infoByte : (Tryd.prog.info? 5).map (fun i => (i.zero, i.size, i.bytes)) = some (some (.int .u8 0), 1, 1) := by kernel_rfl

/-- A row of bytes at the head of block B, none frozen. -/
def RowAt (w : World) (B : Nat) (l : List UInt8) : Prop := ∀ i c, l[i]? = some c → w.cell? ⟨B, i, none⟩ = some (.int .u8 (c.toNat : Int)) ∧ w.frozen? ⟨B, i, none⟩ = false
theorem RowAt.set {w : World} {B : Nat} {l : List UInt8} (h : RowAt w B l) (i : Nat) (hi : i < l.length) (c : UInt8) : RowAt (w.setCell ⟨B, i, none⟩ (.int .u8 (c.toNat : Int))) B (l.set i c) := by
  intro j d hd
  by_cases hij : i = j
  · subst hij
    have hd' : d = c := by rw [List.getElem?_set_self hi] at hd; exact (Option.some.inj hd).symm
    subst hd'
    obtain ⟨h1, h2⟩ := h i _ (List.getElem?_eq_getElem hi)
    exact ⟨World.cell?_setCell_same _ _ _ h1, by rw [World.frozen?_setCell]; exact h2⟩
  · rw [List.getElem?_set_ne hij] at hd
    obtain ⟨h1, h2⟩ := h j d hd
    refine ⟨?_, by rw [World.frozen?_setCell]; exact h2⟩
    rw [World.cell?_setCell_other]
    · exact h1
    · intro e; injection e with _ e2 _; exact hij e2
theorem RowAt.bytes {w : World} {B : Nat} {l : List UInt8} (h : RowAt w B l) : Lib.Bytes w B 0 (bs l) := by
  intro i hi
  have hl : i < l.length := by rw [bs_size] at hi; exact hi
  have := (h i _ (List.getElem?_eq_getElem hl)).1
  rw [Nat.zero_add]
  exact this
theorem rowAt_made (w : World) (N : Nat) (t : TypeId) : RowAt (w.alloc (.cells (madeCells #[.int .u8 0] N) t)) w.heap.size (List.replicate N 0) := by
  intro i c hc
  rw [List.getElem?_replicate] at hc
  split at hc
  · rename_i hi
    cases hc
    have hblk : (w.alloc (.cells (madeCells #[.int .u8 0] N) t)).heap[w.heap.size]? = some (.cells (madeCells #[.int .u8 0] N) t (0, 0)) := (MapKept.heap_alloc w _).1
    exact ⟨by rw [Joins.cell_of_block hblk, ← Array.getElem?_toList, toList_madeCells_one, List.getElem?_replicate, if_pos (by omega)]; rfl, by rw [World.frozen?, hblk]; rfl⟩
  · cases hc
theorem conv_row (w : World) (B : Nat) (l : List UInt8) (n cap : Nat) (hn : n = l.length) (h : RowAt w B l) :
    (convert 71 9 (.slice (some ⟨B, 0, none⟩) n cap)).run Tryd.prog w = .ok (.string (bs l)) w := by
  have h2 := Lib.run_convert_whole (P := Tryd.prog) w 71 5 9 Tryd.underlying71 Tryd.underlying5 Tryd.underlying9 B 0 (bs l) h.bytes cap
  rw [bs_size, ← hn] at h2
  exact h2

theorem be_cons (k n : Nat) : be (k + 1) n = UInt8.ofNat (n / 256 ^ k % 256) :: be k n := by
  induction k generalizing n with
  | zero => simp [be]
  | succ k ih =>
    rw [be, ih (n / 256), be, List.cons_append]
    congr 3
    rw [Nat.div_div_eq_div_mul, Nat.pow_succ, Nat.mul_comm]
def part8 (N n i : Nat) : Bs := List.replicate (N - i) 0 ++ be i n
theorem part8_length (N n i : Nat) (h : i ≤ N) : (part8 N n i).length = N := by simp [part8, be_length]; omega
theorem part8_next (N n i : Nat) (h : i < N) : (part8 N n i).set (N - 1 - i) (UInt8.ofNat (n / 256 ^ i % 256)) = part8 N n (i + 1) := by
  unfold part8
  obtain ⟨m, hm⟩ : ∃ m, N - i = m + 1 := ⟨N - i - 1, by omega⟩
  have h1 : N - 1 - i = m := by omega
  have h2 : N - (i + 1) = m := by omega
  rw [h1, h2, hm, be_cons, List.replicate_succ', List.append_assoc, List.set_append_right _ _ (by simp)]
  simp

set_option maxHeartbeats 1600000 in
set_option maxRecDepth 100000 in
theorem bytes_calls (n N : Nat) (w : World) (hN : N ≤ 8) : Calls Tryd.prog 37 #[.int .u64 (n : Int), .int .i64 (N : Int)] w fun e w' => e = .returned (.string (bs (be N n))) ∧ Below w.heap.size w w' := by
  obtain ⟨i0, hi, hz0, hz1, hz2⟩ := info_parts infoByte
  have hmk : ∀ W : World, (Instr.makeSlice 71 (.int .i64 (N : Int)) (.int .i64 (N : Int))).run Tryd.prog W = .ok (.slice (some ⟨W.heap.size, 0, none⟩) N N) (W.alloc (.cells (madeCells #[.int .u8 0] N) 5)) := fun W => by
    have := run_make_rowN (P := Tryd.prog) 71 5 i0 (.int .u8 0) Tryd.underlying71 hi hz0 .i64 .i64 N N (Nat.le_refl _) (by rw [hz2]; omega) (by omega) W
    rw [hz1, Nat.mul_one] at this
    exact this
  clear hi hz0 hz1 hz2
  have hR0 := rowAt_made w N 5
  have hb0 := below_one w (.cells (madeCells #[.int .u8 0] N) 5)
  go_enter Tryd.func37, Tryd.ntmps37
  go_wp2
  go_loopw [11] (fun iv wr => ∃ k : Nat, k ≤ N ∧ iv = .int .i64 k ∧ RowAt wr w.heap.size (part8 N n k) ∧ Below w.heap.size w wr) (fun iv _ => N - (intOf iv).toNat)
  case atStart => exact ⟨0, by omega, rfl, by simpa [part8, be] using hR0, hb0⟩
  case round =>
    obtain ⟨k, hk, rfl, hR, hb⟩ := hrel
    by_cases hlt : k < N
    · have hlen := part8_length N n k hk
      obtain ⟨c, hc⟩ : ∃ c, c = (part8 N n k)[N - 1 - k]'(by omega) := ⟨_, rfl⟩
      obtain ⟨hcell, hfz⟩ := hR (N - 1 - k) c (by rw [hc]; exact List.getElem?_eq_getElem (by omega))
      have q1 : IntKind.i64.wrap ((N : Int) - 1) = (N : Int) - 1 := IntWalk.i64_in _ (by omega)
      have q2 : IntKind.i64.wrap ((N : Int) - 1 - (k : Int)) = (N : Int) - 1 - (k : Int) := IntWalk.i64_in _ (by omega)
      have q3 : IntKind.i64.wrap (8 * (k : Int)) = 8 * (k : Int) := IntWalk.i64_in _ (by omega)
      have q4 : ((N : Int) - 1 - (k : Int)).toNat = N - 1 - k := by omega
      have q5 : (0 : Int) ≤ (N : Int) - 1 - (k : Int) := by omega
      have q6 : (N : Int) - 1 - (k : Int) < (N : Int) := by omega
      clear hc hlen
      go_wp2
      go_roundw
      case rel =>
        have e1 : (2 : Int) ^ (8 * k) = ((256 ^ k : Nat) : Int) := by
          have e2 : ((2 ^ (8 * k) : Nat) : Int) = (2 : Int) ^ (8 * k) := by simp
          rw [← e2, Nat.pow_mul]
        have e3 : (n : Int) / 2 ^ (8 * k) % 256 = ((UInt8.ofNat (n / 256 ^ k % 256)).toNat : Int) := by
          rw [e1]; simp [UInt8.toNat_ofNat']
        refine ⟨k + 1, by omega, by go_num, ?_, below_set hb (by simp) _⟩
        rw [e3, ← part8_next N n k hlt]
        exact hR.set _ (by rw [part8_length N n k hk]; omega) _
      case measure => simp [intOf]; omega
    · obtain rfl : k = N := by omega
      have hcv := fun cap => conv_row wr w.heap.size (part8 k n k) k cap (part8_length k n k (Nat.le_refl _)).symm hR
      have e1 : part8 k n k = be k n := by simp [part8]
      rw [e1] at hcv
      go_wp2
      go_ret
      exact ⟨rfl, hb⟩

end Go.Proofs.YtaeiahkomdpcoaaDoor.Name
