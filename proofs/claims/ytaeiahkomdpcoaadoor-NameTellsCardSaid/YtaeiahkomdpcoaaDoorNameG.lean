/- The walks of package name's number and unname. -/
import Derived.Test.YtaeiahkomdpcoaaDoorNameF
import Derived.Deep.AppendLies
namespace Go.Proofs.YtaeiahkomdpcoaaDoor.Name
open Go.RowKit Go.Shelf

def val (l : Bs) : Nat := l.foldl (fun a c => a * 256 + c.toNat) 0
theorem val_snoc (l : List UInt8) (c : UInt8) : val (l ++ [c]) = val l * 256 + c.toNat := by simp [val]
theorem val_lt (l : List UInt8) : val l < 256 ^ l.length := by
  rw [← List.reverse_reverse l]
  generalize l.reverse = m
  induction m with
  | nil => simp [val]
  | cons c m ih =>
    rw [List.reverse_cons, val_snoc, List.length_append, List.length_singleton, Nat.pow_succ]
    have := c.toNat_lt
    omega
theorem val_be (k : Nat) : ∀ n, n < 256 ^ k → val (be k n) = n := by
  induction k with
  | zero => intro n h; simp at h; subst h; rfl
  | succ k ih =>
    intro n h
    rw [be, val_snoc, ih (n / 256) (by rw [Nat.pow_succ] at h; omega)]
    simp [UInt8.toNat_ofNat']
    omega
theorem be_val : ∀ (l : Bs), be l.length (val l) = l := by
  intro l
  rw [← List.reverse_reverse l]
  generalize l.reverse = m
  induction m with
  | nil => rfl
  | cons c m ih =>
    rw [List.reverse_cons, val_snoc, List.length_append, List.length_singleton, be]
    have := c.toNat_lt
    rw [show (val m.reverse * 256 + c.toNat) / 256 = val m.reverse by omega, ih, show (val m.reverse * 256 + c.toNat) % 256 = c.toNat by omega]
    simp

theorem or_byte (v : Nat) (e : UInt8) (hv : v < 72057594037927936) : bits BinOp.or IntKind.u64 ((v : Int) * 256) (e.toNat : Int) = ((v * 256 + e.toNat : Nat) : Int) := by
  have he := e.toNat_lt
  have h := u64_or_nat (v * 256) e.toNat (by omega) (by omega)
  rw [show ((v : Int) * 256) = ((v * 256 : Nat) : Int) from by omega, h]
  congr 1
  have := Nat.two_pow_add_eq_or_of_lt (i := 8) (b := e.toNat) he v
  rw [show (2 : Nat) ^ 8 * v = v * 256 from by rw [Nat.mul_comm]] at this
  exact this.symm

set_option maxHeartbeats 800000 in
set_option maxRecDepth 100000 in
theorem number_calls (t : ByteArray) (w : World) (ht : t.size ≤ 8) : Calls Tryd.prog 40 #[.string t] w fun e w' => e = .returned (.int .u64 (val t.data.toList : Int)) ∧ w' = w := by
  go_enter Tryd.func40, Tryd.ntmps40
  go_wp2
  go_loop [2, 6] (fun xv iv => ∃ k : Nat, k ≤ t.size ∧ xv = .int .u64 (val (t.data.toList.take k) : Int) ∧ iv = .int .i64 k) (fun _ iv => t.size - (intOf iv).toNat)
  case atStart => exact ⟨0, by omega, rfl, rfl⟩
  case round =>
    obtain ⟨k, hk, rfl, rfl⟩ := hrel
    by_cases hlt : k < t.size
    · have hkl : k < t.data.toList.length := by rw [size_list]; exact hlt
      obtain ⟨e, he⟩ : ∃ e, e = t[k] := ⟨_, rfl⟩
      obtain ⟨v, hv⟩ : ∃ v, v = val (t.data.toList.take k) := ⟨_, rfl⟩
      rw [← hv]
      have hvb : v < 72057594037927936 := by
        have h := val_lt (t.data.toList.take k)
        rw [← hv, List.length_take, Nat.min_eq_left (by omega)] at h
        have hp : 256 ^ k ≤ 256 ^ 7 := Nat.pow_le_pow_right (by omega) (by omega)
        have : (256 : Nat) ^ 7 = 72057594037927936 := by decide
        omega
      have he8 := e.toNat_lt
      have hel : Hid (t.data.toList[k] = e) := by
        show _ = _
        rw [he]; rfl
      have hwr := Lib.hid (show IntKind.u64.wrap (t[k].toNat : Int) = (t[k].toNat : Int) from IntWalk.u64_in _ (by have := t[k].toNat_lt; omega))
      have HV := Lib.hid hv
      clear hv
      go_wp2
      go_round
      case rel => exact ⟨k + 1, by omega, by rw [List.take_succ_eq_append_getElem hkl, val_snoc, ← HV.out, hel.out, ← or_byte v e hvb, hwr.out, he], by go_num⟩
      case measure => simp [intOf]; omega
    · obtain rfl : k = t.size := by omega
      go_wp2
      go_ret
      rw [List.take_of_length_le (by rw [size_list]; exact Nat.le_refl _)]
      exact ⟨rfl, rfl⟩

/-- A name at the front of bytes, and what stands behind its end. -/
def un : Bs → Option (Bs × Bs)
  | c :: d :: r => if c ≠ 0 then (un (d :: r)).map fun p => (c :: p.1, p.2) else if d = 255 then (un r).map fun p => (0 :: p.1, p.2) else if d = 1 then some ([], r) else none
  | _ => none
theorem un_esc : ∀ (x r : Bs), un (esc x ++ 0 :: 1 :: r) = some (x, r)
  | [], r => by simp [esc, un]
  | c :: x, r => by
    have ih := un_esc x r
    unfold esc
    split
    · rename_i hc; subst hc; simp [un, ih]
    · rename_i hc
      cases hx : esc x ++ 0 :: 1 :: r with
      | nil => simp at hx
      | cons d m => rw [List.cons_append, hx, un, if_pos hc, ← hx, ih]; rfl

end Go.Proofs.YtaeiahkomdpcoaaDoor.Name
