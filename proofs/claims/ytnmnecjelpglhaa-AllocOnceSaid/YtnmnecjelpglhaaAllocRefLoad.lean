/- The walk of hoardref10.Load. -/
import Derived.Test.YtnmnecjelpglhaaAllocRef
namespace Go.Proofs.Ytnmnecjelpglhaa.Alloc
open Go.RowKit

def RefLoaded (w : World) : Option (List Int) → Ending → World → Prop
  | none, e, w' => e = .returned (.pointer none) ∧ Below w.heap.size w w'
  | some L, e, w' => ∃ d o cap, e = .returned (.pointer (some ⟨d, 0, none⟩)) ∧ w.heap.size ≤ d ∧ (∀ g, o = some g → w.heap.size ≤ g) ∧ RefAt w' d o cap L ∧ Below w.heap.size w w'

theorem refAt_of_own {w : World} {d n : Nat} {T : TypeId} {v : Value} {L : List Int} (hL : L.length = n) (hc : w.cell? ⟨d, 0, none⟩ = some v) (h : w.ownsRow (d + 1) T 1 v n (L.map (.int .u8))) (hd : d < w.heap.size) : ∃ o cap, RefAt w d o cap L ∧ ∀ g, o = some g → d + 1 ≤ g := by
  subst hL
  have h2 := h.2
  rcases h2 with ⟨rfl, h0⟩ | ⟨g, cap, cur, rfl, hg, hh, hle, _, _, hcur⟩
  · have : L = [] := List.eq_nil_of_length_eq_zero h0
    subst this
    exact ⟨none, 0, ⟨hc, (fun g hg => by cases hg), fun _ => rfl, hd, Nat.le_refl _⟩, (fun g hg => by cases hg)⟩
  · refine ⟨some g, cap, ⟨hc, fun g' hg' => ?_, (fun e => by cases e), hd, hle⟩, fun g' hg' => by cases hg'; exact hg⟩
    obtain rfl := Option.some.inj hg'
    refine ⟨fun i x hx => ?_, lt_of_block hh, by omega⟩
    have hi : i < L.length := by
      rcases Nat.lt_or_ge i L.length with h | h
      · exact h
      · rw [List.getElem?_eq_none h] at hx; cases hx
    refine ⟨?_, h.frozenAt i⟩
    rw [h.cellAt i (by omega), List.getElem?_map, hx]; rfl

theorem areB_false {N : Nat} {l : List Int} {q : Nat} (hq : q < l.length) (h : okRow N l[q] = false) : areB N l = false := by
  unfold areB
  rw [List.all_eq_false]
  exact ⟨l[q], List.getElem_mem hq, by rw [h]; simp⟩

set_option maxHeartbeats 3200000 in
set_option maxRecDepth 100000 in
theorem refLoad_calls (n : Int) (A : Option Addr) (c : Nat) (U : List Int) (B : Option Addr) (e : Nat) (D : List Int) (w : World) (hU : IntsAt w A U) (hD : IntsAt w B D) (hu : U.length ≤ 4096) (hd : D.length ≤ 4096) :
    Calls Try.prog 10 #[.int .i64 n, .slice A U.length c, .slice B D.length e] w (RefLoaded w (loadR n U D)) := by
  obtain ⟨i0, hi, hz0, hz1, hz2⟩ := info_parts infoByte
  by_cases h1 : n < 0
  · go_enter Try.func10, Try.ntmps10
    go_wp2
    go_ret
    unfold loadR
    rw [if_pos (.inl h1)]
    exact ⟨rfl, Below.refl _ _⟩
  · by_cases h2 : 4096 < n
    · go_enter Try.func10, Try.ntmps10
      go_wp2
      go_ret
      unfold loadR
      rw [if_pos (.inr h2)]
      exact ⟨rfl, Below.refl _ _⟩
    · obtain ⟨N, rfl⟩ := Int.eq_ofNat_of_zero_le (show 0 ≤ n by omega)
      have hN : N ≤ 4096 := by omega
      go_enter Try.func10, Try.ntmps10
      go_wp2
      go_loopw [8] (fun iv wr => ∃ k : Nat, k ≤ N ∧ iv = .int .i64 k ∧ ∃ v, wr.cell? ⟨w.heap.size, 0, none⟩ = some v ∧ wr.frozen? ⟨w.heap.size, 0, none⟩ = false ∧ wr.ownsRow (w.heap.size + 1) 5 1 v k ((List.replicate k (1 : Int)).map (.int .u8)) ∧ Below w.heap.size w wr ∧ w.heap.size < wr.heap.size) (fun iv _ => N - (intOf iv).toNat)
      case atStart =>
        refine ⟨0, by omega, rfl, .slice none 0 0, ?_, ?_, World.ownsRow_nil _ _ _ _, below_one _ _, by simp⟩
        · rw [Joins.cell_of_block (MapKept.heap_alloc w _).1]; rfl
        · rw [World.frozen?, (MapKept.heap_alloc w _).1]; rfl
      case round =>
        obtain ⟨k, hk, rfl, v, hcv, hfv, hown, hb, hlt'⟩ := hrel
        by_cases hlt : k < N
        · go_wp2_with (at_builtin; refine wpList_append_own _ rfl _ _ 43 rfl (w.heap.size + 1) 5 i0 (.int .u8 0) 1 1 Try.underlying43 hi hz0 hz1 hz2 rfl (by decide) _ _ _ rfl (hown.alloc _) ⟨wr.heap.size, 0, none⟩ 1 1 [.int .u8 1] rfl rfl (World.news_of_block (MapKept.heap_alloc wr _).1) ?c2 ?c3 ?c4 ?c5 ?_)
          case c2 => intro u hu; simp at hu; subst hu; rfl
          case c3 => unfold maxLen; omega
          case c4 => omega
          case c5 => simp; omega
          intro v' w1 hown' hgrow _
          obtain ⟨g', cap', rfl, hgb, hgs⟩ := hown'.form (by omega)
          have hne : some w.heap.size ≠ v.ownBlock := fun e => by
            have := (hown.lt _ e.symm).1
            omega
          have hblk : w1.heap[w.heap.size]? = wr.heap[w.heap.size]? := by
            rw [hgrow.block _ (by simp; omega) hne]
            exact (below_one wr _).block _ hlt'
          have hcv1 : w1.cell? ⟨w.heap.size, 0, none⟩ = some v := (World.cell?_of_block (a := ⟨w.heap.size, 0, none⟩) hblk).trans hcv
          have hfv1 : w1.frozen? ⟨w.heap.size, 0, none⟩ = false := (World.frozen?_of_block (a := ⟨w.heap.size, 0, none⟩) hblk).trans hfv
          have hs1 : w.heap.size < w1.heap.size := by have := hgrow.size; simp at this; omega
          have hb1 : Below w.heap.size w w1 := below_of_grown (below_alloc hb _) hgrow (fun g hg => by have := (hown.lt _ hg).1; omega)
          clear hcv hfv hblk
          go_wp2
          go_roundw
          case rel =>
            refine ⟨k + 1, by omega, by go_num, _, World.cell?_setCell_same _ _ _ hcv1, by rw [World.frozen?_setCell]; exact hfv1, ?_, below_set hb1 (Nat.le_refl _) _, by simpa [World.setCell] using hs1⟩
            rw [List.replicate_succ', List.map_append, List.map_replicate]
            exact ownsRow_setCell_below hown' (show (⟨w.heap.size, 0, none⟩ : Addr).block < w.heap.size + 1 from Nat.lt_succ_self _) _
          case measure => simp [intOf]; omega
        · obtain rfl : k = N := by omega
          obtain ⟨o, cap, hM, hog⟩ := refAt_of_own (by rw [List.length_replicate]) hcv hown hlt'
          clear hcv hfv hown hlt'
          have hog' : ∀ g, o = some g → w.heap.size ≤ g := fun g hg => by have := hog g hg; omega
          clear hog
          obtain ⟨wd, hwd⟩ : ∃ wd, wd = w.heap.size := ⟨_, rfl⟩
          have hbg : ∀ a b : World, Below w.heap.size w a → a.grownBy b o → Below w.heap.size w b := fun _ _ h k => below_of_grown h k hog'
          have HOG := Lib.hid hog'
          have HBG := Lib.hid hbg
          have hdr : ∀ x : World, x.grownBy x.drew o := fun x => grown_of_below (below_drew (Below.refl _ _)) _
          have HDR := Lib.hid hdr
          clear hog' hbg hdr hwd wd
          go_wp2
          go_loopw [9] (fun iv wr => ∃ q : Nat, q ≤ D.length ∧ iv = .int .i64 q ∧ Hid (∀ j (hj : j < D.length), j < q → okRow k D[j] = true) ∧ RefAt wr w.heap.size o cap (setAll (List.replicate k 1) (D.take q) 3) ∧ Below w.heap.size w wr) (fun iv _ => D.length - (intOf iv).toNat)
          case atStart => exact ⟨0, by omega, rfl, (fun j hj h => by omega), hM, hb⟩
          case round =>
            obtain ⟨q, hq, rfl, hok, hMq, hbq⟩ := hrel
            have hsz : (setAll (List.replicate k 1) (D.take q) 3).length = k := by rw [setAll_length, List.length_replicate]
            have hDr := hD.below hbq
            have HI := Lib.hid (is_calls _ cap o _ (D.getD q 0) wr hMq)
            rw [hsz] at HI
            by_cases hql : q < D.length
            · obtain ⟨ad, rfl, _, hcx⟩ := hDr.at_ hql
              obtain ⟨x, hx⟩ : ∃ x, x = D[q] := ⟨_, rfl⟩
              have hxd : D.getD q 0 = x := by rw [hx]; simp [List.getD, hql]
              rw [hxd] at HI
              rw [← hx] at hcx
              have HX := Lib.hid hx
              cases hr : okRow k x
              · rw [hr] at HI
                have hF : Hid (loadR (k : Int) U D = none) := by
                  show _ = _
                  rw [loadR_in k U D hN, areB_false hql (by rw [← hx]; exact hr)]; simp
                clear hx hxd hsz
                go_wp2_with (go_at_call 20; refine (HI.out).mono ?_; rintro e w1 ⟨rfl, rfl⟩)
                go_ret
                rw [hF.out]
                exact ⟨rfl, hbq⟩
              · rw [hr] at HI
                have hxb : 0 ≤ x ∧ x < (k : Int) := by simpa [okRow] using hr
                clear hr
                obtain ⟨i, rfl⟩ := Int.eq_ofNat_of_zero_le hxb.1
                have hi1 : i < k := by omega
                obtain ⟨g, rfl⟩ := hMq.some_ (by omega)
                have d1 : wr.cell? ⟨w.heap.size, 0, none⟩ = some (.slice (some ⟨g, 0, none⟩) k cap) := by have := hMq.c0; rw [hsz] at this; exact this
                obtain ⟨y, hy⟩ : ∃ y, (setAll (List.replicate k 1) (D.take q) 3)[i]? = some y := ⟨_, List.getElem?_eq_getElem (by rw [hsz]; exact hi1)⟩
                obtain ⟨hcy, hfy⟩ := (hMq.row g rfl).1 i y hy
                have hk0 : (0 : Int) ≤ (q : Int) := by omega
                have hk1 : (q : Int) < (D.length : Int) := by omega
                have hi0 : (0 : Int) ≤ (i : Int) := by omega
                have hi2 : (i : Int) < (k : Int) := by omega
                clear hx hxd hy hxb hsz
                go_wp2_with (go_at_call 20; refine (HI.out).mono ?_; rintro e w1 ⟨rfl, rfl⟩)
                go_region
                go_wp2
                go_roundw
                case rel =>
                  refine ⟨q + 1, by omega, by go_num, ?_, ?_, HBG.out _ _ hbq (grown_trans (grown_set _ _ _ _) (HDR.out _))⟩
                  · intro j hj hjq
                    by_cases hjq' : j = q
                    · subst hjq'; rw [← HX.out]; simp [okRow]; omega
                    · exact hok.out j hj (by omega)
                  · rw [List.take_succ_eq_append_getElem hql, setAll_snoc, ← HX.out]
                    exact (hMq.set i (by rw [setAll_length, List.length_replicate]; exact hi1) 3).below (below_drew (Below.refl _ _))
                case measure => simp [intOf]; omega
            · obtain rfl : q = D.length := by omega
              have had : areB k D = true := by
                unfold areB
                rw [List.all_eq_true]
                intro x hx
                obtain ⟨j, hj, rfl⟩ := List.getElem_of_mem hx
                exact hok.out j hj hj
              have HAD := Lib.hid had
              rw [List.take_length] at hMq
              clear had hok HI hsz hM hb
              go_wp2
              go_loopw [10] (fun iv wr => ∃ q : Nat, q ≤ U.length ∧ iv = .int .i64 q ∧ Hid (∀ j (hj : j < U.length), j < q → okRow k U[j] = true) ∧ RefAt wr w.heap.size o cap (setAll (setAll (List.replicate k 1) D 3) (U.take q) 2) ∧ Below w.heap.size w wr) (fun iv _ => U.length - (intOf iv).toNat)
              case atStart => exact ⟨0, by omega, rfl, (fun j hj h => by omega), hMq, hbq⟩
              case round =>
                obtain ⟨q, hq, rfl, hok, hMq, hbq⟩ := hrel
                have hsz : (setAll (setAll (List.replicate k 1) D 3) (U.take q) 2).length = k := by rw [setAll_length, setAll_length, List.length_replicate]
                have hUr := hU.below hbq
                have HI := Lib.hid (is_calls _ cap o _ (U.getD q 0) wr hMq)
                rw [hsz] at HI
                by_cases hql : q < U.length
                · obtain ⟨ad, rfl, _, hcx⟩ := hUr.at_ hql
                  obtain ⟨x, hx⟩ : ∃ x, x = U[q] := ⟨_, rfl⟩
                  have hxd : U.getD q 0 = x := by rw [hx]; simp [List.getD, hql]
                  rw [hxd] at HI
                  rw [← hx] at hcx
                  have HX := Lib.hid hx
                  cases hr : okRow k x
                  · rw [hr] at HI
                    have hF : Hid (loadR (k : Int) U D = none) := by
                      show _ = _
                      rw [loadR_in k U D hN, areB_false hql (by rw [← hx]; exact hr)]; simp
                    clear hx hxd hsz
                    go_wp2_with (go_at_call 20; refine (HI.out).mono ?_; rintro e w1 ⟨rfl, rfl⟩)
                    go_ret
                    rw [hF.out]
                    exact ⟨rfl, hbq⟩
                  · rw [hr] at HI
                    have hxb : 0 ≤ x ∧ x < (k : Int) := by simpa [okRow] using hr
                    clear hr
                    obtain ⟨i, rfl⟩ := Int.eq_ofNat_of_zero_le hxb.1
                    have hi1 : i < k := by omega
                    obtain ⟨g, rfl⟩ := hMq.some_ (by omega)
                    have d1 : wr.cell? ⟨w.heap.size, 0, none⟩ = some (.slice (some ⟨g, 0, none⟩) k cap) := by have := hMq.c0; rw [hsz] at this; exact this
                    obtain ⟨y, hy⟩ : ∃ y, (setAll (setAll (List.replicate k 1) D 3) (U.take q) 2)[i]? = some y := ⟨_, List.getElem?_eq_getElem (by rw [hsz]; exact hi1)⟩
                    obtain ⟨hcy, hfy⟩ := (hMq.row g rfl).1 i y hy
                    have hk0 : (0 : Int) ≤ (q : Int) := by omega
                    have hk1 : (q : Int) < (U.length : Int) := by omega
                    have hi0 : (0 : Int) ≤ (i : Int) := by omega
                    have hi2 : (i : Int) < (k : Int) := by omega
                    clear hx hxd hy hxb hsz
                    go_wp2_with (go_at_call 20; refine (HI.out).mono ?_; rintro e w1 ⟨rfl, rfl⟩)
                    go_region
                    go_wp2
                    go_roundw
                    case rel =>
                      refine ⟨q + 1, by omega, by go_num, ?_, ?_, HBG.out _ _ hbq (grown_trans (grown_set _ _ _ _) (HDR.out _))⟩
                      · intro j hj hjq
                        by_cases hjq' : j = q
                        · subst hjq'; rw [← HX.out]; simp [okRow]; omega
                        · exact hok.out j hj (by omega)
                      · rw [List.take_succ_eq_append_getElem hql, setAll_snoc, ← HX.out]
                        exact (hMq.set i (by rw [setAll_length, setAll_length, List.length_replicate]; exact hi1) 2).below (below_drew (Below.refl _ _))
                    case measure => simp [intOf]; omega
                · obtain rfl : q = U.length := by omega
                  have hau : areB k U = true := by
                    unfold areB
                    rw [List.all_eq_true]
                    intro x hx
                    obtain ⟨j, hj, rfl⟩ := List.getElem_of_mem hx
                    exact hok.out j hj hj
                  have HAU := Lib.hid hau
                  rw [List.take_length] at hMq
                  clear hau hok HI hsz
                  go_wp2
                  go_ret
                  rw [loadR_in k U D hN, if_pos (by rw [HAU.out, HAD.out]; rfl)]
                  exact ⟨_, o, cap, rfl, Nat.le_refl _, HOG.out, hMq, hbq⟩

end Go.Proofs.Ytnmnecjelpglhaa.Alloc
