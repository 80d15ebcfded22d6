/- The walks of wire.Nums, wire.Texts, wire.Bool and of the document's bricks. -/
import Derived.Test.YtaeiahkomdpcoaaWireBuild
import Derived.Test.YtaeiahkomdpcoaaWireMem
import Derived.Test.YtaeiahkomdpcoaaWireRead
import Derived.Test.YtaeiahkomdpcoaaWirePlain
namespace Go.Proofs.Ytaeiahkomdpcoaa.Wire
open Go.RowKit Go.Proofs.Ytaeiahkomdpcoaa.Num

theorem below_at {B : Nat} {w wx w' : World} (h : Below B w wx) (h' : Below B wx w') : Below B w w' := h.trans h'

/-- A builder that holds these bytes. -/
def Bld (B b : Nat) (l : Bs) (w : World) : Prop := Lib.IsBuilderF 61 5 B b (Lib.byteCells l) w
theorem bld_fresh (w : World) : Bld w.heap.size w.heap.size [] (w.alloc (.cells #[.pointer none, .slice none 0 0] 61)) := Lib.IsBuilderF.of (Lib.fresh_isBuilder _ _ w)
theorem bld_below {B b : Nat} {l : Bs} {w w' : World} (h : Bld B b l w) (hb : Below w.heap.size w w') : Bld B b l w' := by
  have hg : w.grownBy w' none := ⟨hb.os, hb.tape, hb.output, hb.size, fun i hi _ => hb.block i hi⟩
  rcases h with ⟨hB, v, hbk, hown, hne⟩ | ⟨hB, v, hbk, hown, hne⟩
  · exact .inl ⟨hB, v, (hb.block b (Array.getElem?_eq_some_iff.1 hbk).1).trans hbk, hown.kept hg (by cases hv : v.ownBlock <;> simp), hne⟩
  · exact .inr ⟨hB, v, (hb.block b (Array.getElem?_eq_some_iff.1 hbk).1).trans hbk, hown.kept hg (by cases hv : v.ownBlock <;> simp), hne⟩
theorem write_bs (B b : Nat) (l s : Bs) (w : World) (h : Bld B b l w) (hlen : l.length + s.length ≤ 140737488355328) (hBw : B ≤ w.heap.size) :
    Calls Try.prog 29 #[.pointer (some ⟨b, 0, none⟩), .string (bs s)] w fun e w' => e = .returned (.tuple #[.int .i64 (s.length : Int), .nilIface]) ∧ Bld B b (l ++ s) w' ∧ Below B w w' := by
  refine (write_calls B b (Lib.byteCells l) (bs s) w h (by rw [Lib.byteCells_length, bs_size]; exact hlen) hBw).mono ?_
  rintro e w' ⟨rfl, h1, h2⟩
  refine ⟨by rw [bs_size], ?_, h2⟩
  unfold Bld
  rw [Lib.byteCells_append]
  exact h1
theorem string_bs (B b : Nat) (l : Bs) (w : World) (h : Bld B b l w) (hBw : B ≤ w.heap.size) :
    Calls Try.prog 31 #[.pointer (some ⟨b, 0, none⟩)] w fun e w' => e = .returned (.string (bs l)) ∧ Below B w w' :=
  (Try.Builder_String_any_f B b l w h hBw).mono fun _ _ ⟨h1, _, h2⟩ => ⟨h1, h2⟩

set_option maxHeartbeats 1600000 in
set_option maxRecDepth 100000 in
theorem nums_calls (A : Option Addr) (c : Nat) (u : List Nat) (w : World) (h : ListAt w A (numsV u)) (hu : ∀ x ∈ u, x < 18446744073709551616) (hn : u.length ≤ 1000) :
    Calls Try.prog 11 #[.slice A u.length c] w fun e w' => e = .returned (.string (bs (numsW u))) ∧ Below w.heap.size w w' := by
  have hl9 := numsW_len u
  have h0 := bld_fresh w
  have b0 := below_one w (.cells #[.pointer none, .slice none 0 0] 61)
  go_enter Try.func11, Try.ntmps11
  go_wp2
  go_loopw [8] (fun iv wr => ∃ k : Nat, k ≤ u.length ∧ iv = .int .i64 k ∧ Bld w.heap.size w.heap.size (numsW (u.take k)) wr ∧ Below w.heap.size w wr) (fun iv _ => u.length - (intOf iv).toNat)
  case atStart => exact ⟨0, by omega, rfl, h0, b0⟩
  case round =>
    obtain ⟨k, hk, rfl, hB, hb⟩ := hrel
    have hbs := hb.size
    by_cases hlt : k < u.length
    · obtain ⟨ad, rfl, _, hcx⟩ := (h.below hb).num hlt
      have hx : Hid (u[k] < 18446744073709551616) := hu _ (List.getElem_mem hlt)
      have HK := Lib.hid (numsW_take u k hlt)
      have hl2 : (numsW (u.take k)).length ≤ 9000 := by
        have := numsW_len (u.take k); rw [List.length_take] at this; omega
      obtain ⟨x, hxe⟩ : ∃ x, x = u[k] := ⟨_, rfl⟩
      rw [← hxe] at hcx hx HK
      clear hxe
      have hx9 := up_length_le x
      go_wp2_with fail
      refine (up_calls x _ hx).mono ?_
      rintro e w1 ⟨rfl, hb1⟩
      have hB1 := bld_below hB hb1
      go_wp2_with fail
      refine (write_bs w.heap.size w.heap.size _ (up x) w1 hB1 (by omega) (by have := hb1.size; omega)).mono ?_
      rintro e w2 ⟨rfl, hB2, hb2⟩
      go_wp2
      go_roundw
      case rel =>
        refine ⟨k + 1, by omega, by go_num, ?_, (hb.trans (hb1.mono hbs)).trans hb2⟩
        rw [HK.out]; exact hB2
      case measure => simp [intOf]; omega
    · obtain rfl : k = u.length := by omega
      rw [List.take_length] at hB
      go_wp2_with fail
      refine (string_bs w.heap.size w.heap.size _ _ hB hbs).mono ?_
      rintro e w1 ⟨rfl, hb1⟩
      go_wp2
      go_ret
      exact ⟨rfl, hb.trans hb1⟩

abbrev dt (t : List ByteArray) : List Bs := t.map fun s => s.data.toList
theorem app_bs (l : Bs) (s : ByteArray) : bs l ++ s = bs (l ++ s.data.toList) := by
  rw [← bs_append]; rfl
theorem dt_len (t : List ByteArray) (m : Nat) (h : ∀ s ∈ t, s.size ≤ m) : ∀ s ∈ dt t, s.length ≤ m := fun s hs => by
  obtain ⟨x, hx, rfl⟩ := List.mem_map.1 hs
  have := h x hx
  rwa [size_list]

set_option maxHeartbeats 1600000 in
set_option maxRecDepth 100000 in
theorem texts_calls (A : Option Addr) (c : Nat) (t : List ByteArray) (w : World) (h : ListAt w A (textsV t)) (hu : ∀ s ∈ t, s.size ≤ 4096) (hn : t.length ≤ 1000) :
    Calls Try.prog 12 #[.slice A t.length c] w fun e w' => e = .returned (.string (bs (textsW (dt t)))) ∧ Below w.heap.size w w' := by
  have h0 := bld_fresh w
  have b0 := below_one w (.cells #[.pointer none, .slice none 0 0] 61)
  go_enter Try.func12, Try.ntmps12
  go_wp2
  go_loopw [8] (fun iv wr => ∃ k : Nat, k ≤ t.length ∧ iv = .int .i64 k ∧ Bld w.heap.size w.heap.size (textsW (dt (t.take k))) wr ∧ Below w.heap.size w wr) (fun iv _ => t.length - (intOf iv).toNat)
  case atStart => exact ⟨0, by omega, rfl, h0, b0⟩
  case round =>
    obtain ⟨k, hk, rfl, hB, hb⟩ := hrel
    have hbs := hb.size
    by_cases hlt : k < t.length
    · obtain ⟨ad, rfl, _, hcx⟩ := (h.below hb).text hlt
      have hx4 := hu _ (List.getElem_mem hlt)
      have hkl : k < (dt t).length := by rw [List.length_map]; exact hlt
      have HK := Lib.hid (textsW_take (dt t) k hkl)
      rw [List.getElem_map, ← List.map_take, ← List.map_take] at HK
      have hl2 : (textsW (dt (t.take k))).length ≤ 4105000 := by
        have h1 := textsW_len (dt (t.take k)) 4096 (dt_len _ _ (fun s hs => hu s (List.mem_of_mem_take hs)))
        rw [List.length_map, List.length_take] at h1; omega
      obtain ⟨x, hxe⟩ : ∃ x, x = t[k] := ⟨_, rfl⟩
      rw [← hxe] at hcx hx4 HK
      clear hxe hkl
      have hx9 := up_length_le x.size
      have hxl : (textW x.data.toList).length ≤ 9 + x.size := by have := textW_len x.data.toList; rwa [size_list] at this
      have hu64 : IntKind.u64.wrap (x.size : Int) = (x.size : Int) := IntWalk.u64_in _ (by omega)
      have hsz : ¬ 9223372036854775807 < (bs (up x.size)).size + x.size := by rw [bs_size]; omega
      go_wp2_with fail
      refine (up_calls x.size _ (Lib.hid (by omega))).mono ?_
      rintro e w1 ⟨rfl, hb1⟩
      have hB1 := bld_below hB hb1
      go_wp2_with fail
      rw [app_bs]
      refine (write_bs w.heap.size w.heap.size _ (up x.size ++ x.data.toList) w1 hB1 (by rw [List.length_append, size_list]; omega) (by have := hb1.size; omega)).mono ?_
      rintro e w2 ⟨rfl, hB2, hb2⟩
      go_wp2
      go_roundw
      case rel =>
        refine ⟨k + 1, by omega, by go_num, ?_, (hb.trans (hb1.mono hbs)).trans hb2⟩
        rw [HK.out]
        unfold textW
        rw [size_list]
        exact hB2
      case measure => simp [intOf]; omega
    · obtain rfl : k = t.length := by omega
      rw [List.take_length] at hB
      go_wp2_with fail
      refine (string_bs w.heap.size w.heap.size _ _ hB hbs).mono ?_
      rintro e w1 ⟨rfl, hb1⟩
      go_wp2
      go_ret
      exact ⟨rfl, hb.trans hb1⟩

theorem bool_calls (b : Bool) (w : World) : Calls Try.prog 13 #[.bool b] w fun e w' => e = .returned (.string (bs (boolW b))) ∧ Below w.heap.size w w' := by
  cases b
  · go_enter Try.func13, Try.ntmps13
    go_wp2
    go_ret
    exact ⟨rfl, Below.refl _ _⟩
  · go_enter Try.func13, Try.ntmps13
    go_wp2
    go_ret
    exact ⟨rfl, Below.refl _ _⟩

end Go.Proofs.Ytaeiahkomdpcoaa.Wire
