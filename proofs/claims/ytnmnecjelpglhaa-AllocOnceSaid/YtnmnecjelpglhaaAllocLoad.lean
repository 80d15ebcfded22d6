/- The walks of package alloc's Load and New. -/
import Derived.Test.YtnmnecjelpglhaaAllocTake
import Derived.Laws.MakeOwn
import Derived.Laws.OwnMore
namespace Go.Proofs.Ytnmnecjelpglhaa.Alloc
open Go.RowKit

theorem run_make_rowN {P : Program} (t e : TypeId) (i : TypeInfo) (z : Value) (ht : P.underlying t = some (.slice e)) (hi : P.info? e = some i) (hz : i.zero = some z)
    (kl kc : IntKind) (n c : Nat) (hnc : n ≤ c) (hbytes : i.bytes * c ≤ 281474976710656) (h63 : c ≤ 9223372036854775807) (w : World) :
    (Instr.makeSlice t (.int kl (n : Int)) (.int kc (c : Int))).run P w = .ok (.slice (some ⟨w.heap.size, 0, none⟩) n c) (w.alloc (.cells (madeCells z.cells (c * i.size)) e)) := by
  have hb : (i.bytes : Int) * (c : Int) ≤ 281474976710656 := by
    have h : ((i.bytes * c : Nat) : Int) ≤ 281474976710656 := by omega
    rwa [Int.natCast_mul] at h
  have hr := run_make (P := P) w t e i z ht hi hz kl kc n c (by omega) (by omega) hb (by omega)
  simp only [Int.toNat_natCast] at hr
  exact hr

theorem infoByte : (Try.prog.info? 5).map (fun i => (i.zero, i.size, i.bytes)) = some (some (.int .u8 0), 1, 1) := by kernel_rfl

/-- What Load answers. -/
def loadR (n : Int) (U D : List Int) : Option (List Int) :=
  if n < 0 ∨ 4096 < n then none else if areB n.toNat U && areB n.toNat D then some (setAll (setAll (List.replicate n.toNat 1) D 3) U 2) else none
def Loaded (w : World) : Option (List Int) → Ending → World → Prop
  | none, e, w' => e = .returned (.tuple #[.pointer none, .int .i64 2]) ∧ Below w.heap.size w w'
  | some L, e, w' => ∃ m r, e = .returned (.tuple #[.pointer (some ⟨m, 0, none⟩), .int .i64 0]) ∧ w.heap.size ≤ m ∧ w.heap.size ≤ r ∧ MapAt w' m r L ∧ Below w.heap.size w w'

theorem mapAt_made (w : World) (N : Nat) (t t' : TypeId) : MapAt ((w.alloc (.cells (madeCells #[.int .u8 0] N) t)).alloc (.cells #[.slice (some ⟨w.heap.size, 0, none⟩) N N, .bool true] t')) (w.heap.size + 1) w.heap.size (List.replicate N 0) := by
  have hs : (w.alloc (.cells (madeCells #[.int .u8 0] N) t)).heap.size = w.heap.size + 1 := by simp
  obtain ⟨w1, hw1⟩ : ∃ w1, w1 = w.alloc (.cells (madeCells #[.int .u8 0] N) t) := ⟨_, rfl⟩
  rw [← hw1] at hs ⊢
  have hblk : w1.heap[w.heap.size]? = some (.cells (madeCells #[.int .u8 0] N) t (0, 0)) := by rw [hw1]; exact (MapKept.heap_alloc w _).1
  have hblk2 : (w1.alloc (.cells #[.slice (some ⟨w.heap.size, 0, none⟩) N N, .bool true] t')).heap[w.heap.size]? = some (.cells (madeCells #[.int .u8 0] N) t (0, 0)) := by
    rw [(below_one w1 _).block _ (by omega)]; exact hblk
  have hblk3 : (w1.alloc (.cells #[.slice (some ⟨w.heap.size, 0, none⟩) N N, .bool true] t')).heap[w.heap.size + 1]? = some (.cells #[.slice (some ⟨w.heap.size, 0, none⟩) N N, .bool true] t' (0, 0)) := by
    rw [← hs]; exact (MapKept.heap_alloc w1 _).1
  refine ⟨?_, ?_, ?_, by simp [hs], by simp [hs]; omega, by omega⟩
  · rw [List.length_replicate, Joins.cell_of_block hblk3]; rfl
  · rw [Joins.cell_of_block hblk3]; rfl
  · intro i x hx
    have hi : i < N := by
      rcases Nat.lt_or_ge i N with h | h
      · exact h
      · rw [List.getElem?_eq_none (by simpa using h)] at hx; cases hx
    rw [List.getElem?_replicate, if_pos hi] at hx
    obtain rfl := Option.some.inj hx
    constructor
    · rw [Joins.cell_of_block hblk2, ← Array.getElem?_toList, toList_madeCells_one, List.getElem?_replicate, if_pos (by omega)]
    · rw [World.frozen?, hblk2]; rfl

theorem loadR_in (N : Nat) (U D : List Int) (hN : N ≤ 4096) : loadR (N : Int) U D = if areB N U && areB N D then some (setAll (setAll (List.replicate N 1) D 3) U 2) else none := by
  unfold loadR
  rw [if_neg (by omega), Int.toNat_natCast]

set_option maxHeartbeats 3200000 in
set_option maxRecDepth 100000 in
theorem load_calls (n : Int) (A : Option Addr) (c : Nat) (U : List Int) (B : Option Addr) (d : Nat) (D : List Int) (w : World) (hU : IntsAt w A U) (hD : IntsAt w B D) (hu : U.length ≤ 9223372036854775807) (hd : D.length ≤ 9223372036854775807) :
    Calls Try.prog 9 #[.int .i64 n, .slice A U.length c, .slice B D.length d] w (Loaded w (loadR n U D)) := by
  obtain ⟨i0, hi, hz0, hz1, hz2⟩ := info_parts infoByte
  by_cases h1 : n < 0
  · go_enter Try.func9, Try.ntmps9
    go_wp2
    go_ret2
    unfold loadR
    rw [if_pos (.inl h1)]
    exact ⟨rfl, Below.refl _ _⟩
  · by_cases h2 : 4096 < n
    · go_enter Try.func9, Try.ntmps9
      go_wp2
      go_ret2
      unfold loadR
      rw [if_pos (.inr h2)]
      exact ⟨rfl, Below.refl _ _⟩
    · obtain ⟨N, rfl⟩ := Int.eq_ofNat_of_zero_le (show 0 ≤ n by omega)
      have hN : N ≤ 4096 := by omega
      have hmk : ∀ W : World, (Instr.makeSlice 43 (.int .i64 (N : Int)) (.int .i64 (N : Int))).run Try.prog W = .ok (.slice (some ⟨W.heap.size, 0, none⟩) N N) (W.alloc (.cells (madeCells #[.int .u8 0] N) 5)) := fun W => by
        have := run_make_rowN (P := Try.prog) 43 5 i0 (.int .u8 0) Try.underlying43 hi hz0 .i64 .i64 N N (Nat.le_refl _) (by rw [hz2]; omega) (by omega) W
        rw [hz1, Nat.mul_one] at this
        exact this
      clear hi hz0 hz1 hz2
      have hM0 := mapAt_made w N 5 56
      have hb0 : Below w.heap.size w ((w.alloc (.cells (madeCells #[.int .u8 0] N) 5)).alloc (.cells #[.slice (some ⟨w.heap.size, 0, none⟩) N N, .bool true] 56)) := below_alloc (below_one _ _) _
      go_enter Try.func9, Try.ntmps9
      go_wp2
      go_loopw [29] (fun iv wr => ∃ k : Nat, k ≤ N ∧ iv = .int .i64 k ∧ ∃ L : List Int, L.length = N ∧ Hid (∀ j, j < k → L[j]? = some 1) ∧ MapAt wr (w.heap.size + 1) w.heap.size L ∧ Below w.heap.size w wr) (fun iv _ => N - (intOf iv).toNat)
      case atStart => exact ⟨0, by omega, rfl, _, List.length_replicate, (fun j hj => by omega), hM0, hb0⟩
      case round =>
        obtain ⟨k, hk, rfl, L, hL, h1s, hM, hb⟩ := hrel
        have d0 := hM.c0
        rw [hL] at d0
        by_cases hlt : k < N
        · obtain ⟨y, hy⟩ : ∃ y, L[k]? = some y := ⟨_, List.getElem?_eq_getElem (by omega)⟩
          obtain ⟨hcy, hfy⟩ := hM.row k y hy
          have HL := Lib.hid hL
          clear hy hL
          go_wp2
          go_roundw
          case rel =>
            refine ⟨k + 1, by omega, by go_num, L.set k 1, by rw [List.length_set]; exact HL.out, ?_, hM.set k (by rw [HL.out]; exact hlt) 1, ?_⟩
            · intro j hj
              by_cases hjk : k = j
              · subst hjk; rw [List.getElem?_set_self (by rw [HL.out]; exact hlt)]
              · rw [List.getElem?_set_ne hjk]; exact h1s.out j (by omega)
            · exact below_of_grown hb (grown_set _ _ _ _) (fun r e => by cases e; exact Nat.le_refl _)
          case measure => simp [intOf]; omega
        · obtain rfl : k = N := by omega
          have hLe : L = List.replicate k 1 := by
            apply List.ext_getElem?
            intro j
            rcases Nat.lt_or_ge j k with h | h
            · rw [h1s.out j h, List.getElem?_replicate, if_pos h]
            · rw [List.getElem?_eq_none (by omega), List.getElem?_eq_none (by simpa using h)]
          subst hLe
          clear hL h1s hM0 hb0
          have hUr := hU.below hb
          have hDr := hD.below hb
          have R1 := Lib.hid (are_calls _ _ _ A c U _ hM hUr hu)
          have R2 := Lib.hid (are_calls _ _ _ B d D _ hM hDr hd)
          rw [List.length_replicate] at R1 R2
          cases hab : areB k U
          · go_wp2_with (go_at_call 24; refine (R1.out).mono ?_; rintro e w1 ⟨rfl, rfl⟩)
            go_ret2
            rw [loadR_in k U D hN]
            rw [if_neg (by simp [hab])]
            exact ⟨rfl, hb⟩
          · cases had : areB k D
            · go_wp2_with (go_at_call 24; first | ((with_reducible refine (R1.out).mono ?_); rintro e w1 ⟨rfl, rfl⟩) | ((with_reducible refine (R2.out).mono ?_); rintro e w1 ⟨rfl, rfl⟩))
              go_ret2
              rw [loadR_in k U D hN]
              rw [if_neg (by simp [had])]
              exact ⟨rfl, hb⟩
            · have hallU : ∀ j (hj : j < U.length), 0 ≤ U[j] ∧ U[j] < (k : Int) := fun j hj => by
                unfold areB at hab
                rw [List.all_eq_true] at hab
                simpa [okRow] using hab _ (List.getElem_mem hj)
              have hallD : ∀ j (hj : j < D.length), 0 ≤ D[j] ∧ D[j] < (k : Int) := fun j hj => by
                unfold areB at had
                rw [List.all_eq_true] at had
                simpa [okRow] using had _ (List.getElem_mem hj)
              have HU := Lib.hid hallU
              have HD := Lib.hid hallD
              have hres : Hid (loadR (k : Int) U D = some (setAll (setAll (List.replicate k 1) D 3) U 2)) := by
                show _ = _
                rw [loadR_in k U D hN, if_pos (by simp [hab, had])]
              clear hallU hallD
              go_wp2_with (go_at_call 24; first | ((with_reducible refine (R1.out).mono ?_); rintro e w1 ⟨rfl, rfl⟩) | ((with_reducible refine (R2.out).mono ?_); rintro e w1 ⟨rfl, rfl⟩))
              clear R1 R2 hUr hDr d0
              go_loopw [51] (fun iv wr => ∃ q : Nat, q ≤ D.length ∧ iv = .int .i64 q ∧ MapAt wr (w.heap.size + 1) w.heap.size (setAll (List.replicate k 1) (D.take q) 3) ∧ Below w.heap.size w wr) (fun iv _ => D.length - (intOf iv).toNat)
              case atStart => exact ⟨0, by omega, rfl, hM, hb⟩
              case round =>
                obtain ⟨q, hq, rfl, hMq, hbq⟩ := hrel
                have hsz : (setAll (List.replicate k 1) (D.take q) 3).length = k := by rw [setAll_length, List.length_replicate]
                have d0 := hMq.c0
                rw [hsz] at d0
                have hDr := hD.below hbq
                by_cases hql : q < D.length
                · obtain ⟨ad, rfl, _, hcx⟩ := hDr.at_ hql
                  obtain ⟨x, hx⟩ : ∃ x, x = D[q] := ⟨_, rfl⟩
                  have hxb := HD.out q hql
                  rw [← hx] at hcx hxb
                  obtain ⟨i, rfl⟩ := Int.eq_ofNat_of_zero_le hxb.1
                  have hi1 : i < k := by omega
                  obtain ⟨y, hy⟩ : ∃ y, (setAll (List.replicate k 1) (D.take q) 3)[i]? = some y := ⟨_, List.getElem?_eq_getElem (by rw [hsz]; exact hi1)⟩
                  obtain ⟨hcy, hfy⟩ := hMq.row i y hy
                  have HX := Lib.hid hx
                  clear hx hy hxb hsz
                  go_wp2
                  go_roundw
                  case rel =>
                    refine ⟨q + 1, by omega, by go_num, ?_, below_of_grown hbq (grown_set _ _ _ _) (fun r e => by cases e; exact Nat.le_refl _)⟩
                    rw [List.take_succ_eq_append_getElem hql, setAll_snoc, ← HX.out]
                    exact hMq.set i (by rw [setAll_length, List.length_replicate]; exact hi1) 3
                  case measure => simp [intOf]; omega
                · obtain rfl : q = D.length := by omega
                  rw [List.take_length] at hMq
                  clear hsz d0 hM hb
                  go_wp2
                  go_loopw [64] (fun iv wr => ∃ q : Nat, q ≤ U.length ∧ iv = .int .i64 q ∧ MapAt wr (w.heap.size + 1) w.heap.size (setAll (setAll (List.replicate k 1) D 3) (U.take q) 2) ∧ Below w.heap.size w wr) (fun iv _ => U.length - (intOf iv).toNat)
                  case atStart => exact ⟨0, by omega, rfl, hMq, hbq⟩
                  case round =>
                    obtain ⟨q, hq, rfl, hMq, hbq⟩ := hrel
                    have hsz : (setAll (setAll (List.replicate k 1) D 3) (U.take q) 2).length = k := by rw [setAll_length, setAll_length, List.length_replicate]
                    have d0 := hMq.c0
                    rw [hsz] at d0
                    have hUr := hU.below hbq
                    by_cases hql : q < U.length
                    · obtain ⟨ad, rfl, _, hcx⟩ := hUr.at_ hql
                      obtain ⟨x, hx⟩ : ∃ x, x = U[q] := ⟨_, rfl⟩
                      have hxb := HU.out q hql
                      rw [← hx] at hcx hxb
                      obtain ⟨i, rfl⟩ := Int.eq_ofNat_of_zero_le hxb.1
                      have hi1 : i < k := by omega
                      obtain ⟨y, hy⟩ : ∃ y, (setAll (setAll (List.replicate k 1) D 3) (U.take q) 2)[i]? = some y := ⟨_, List.getElem?_eq_getElem (by rw [hsz]; exact hi1)⟩
                      obtain ⟨hcy, hfy⟩ := hMq.row i y hy
                      have HX := Lib.hid hx
                      clear hx hy hxb hsz
                      go_wp2
                      go_roundw
                      case rel =>
                        refine ⟨q + 1, by omega, by go_num, ?_, below_of_grown hbq (grown_set _ _ _ _) (fun r e => by cases e; exact Nat.le_refl _)⟩
                        rw [List.take_succ_eq_append_getElem hql, setAll_snoc, ← HX.out]
                        exact hMq.set i (by rw [setAll_length, setAll_length, List.length_replicate]; exact hi1) 2
                      case measure => simp [intOf]; omega
                    · obtain rfl : q = U.length := by omega
                      rw [List.take_length] at hMq
                      clear hsz d0
                      go_wp2
                      go_ret2
                      rw [hres.out]
                      exact ⟨_, _, rfl, by omega, Nat.le_refl _, hMq, hbq⟩

set_option maxHeartbeats 400000 in
theorem new_calls (n : Int) (w : World) :
    Calls Try.prog 11 #[.int .i64 n] w (Loaded w (loadR n [] [])) := by
  have H := Lib.hid (load_calls n none 0 [] none 0 [] w (fun h => absurd h (Nat.lt_irrefl _)) (fun h => absurd h (Nat.lt_irrefl _)) (by simp) (by simp))
  go_enter Try.func11, Try.ntmps11
  cases hr : loadR n [] [] with
  | none =>
    rw [hr] at H
    go_wp2_with fail
    refine H.out.mono ?_
    rintro e w1 ⟨rfl, hb⟩
    go_wp2
    go_ret2
    exact ⟨rfl, hb⟩
  | some L =>
    rw [hr] at H
    go_wp2_with fail
    refine H.out.mono ?_
    rintro e w1 ⟨m, r, rfl, h1, h2, hM, hb⟩
    go_wp2
    go_ret2
    exact ⟨m, r, rfl, h1, h2, hM, hb⟩

end Go.Proofs.Ytnmnecjelpglhaa.Alloc
