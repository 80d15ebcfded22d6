/- The walk of hoardlaw10.AllocPlays. -/
import Derived.Test.YtnmnecjelpglhaaAllocBackW
import Derived.Test.YtnmnecjelpglhaaAllocRefLoad
import Derived.Test.YtnmnecjelpglhaaAllocRefTurn
import Derived.Deep.RegionHeld3
namespace Go.Proofs.Ytnmnecjelpglhaa.Alloc
open Go.RowKit

theorem loadR_ok {n : Int} {U D L : List Int} (h : loadR n U D = some L) : OkL L ∧ L.length ≤ 4096 := by
  unfold loadR at h
  split at h
  · cases h
  · split at h
    · obtain rfl := Option.some.inj h
      exact ⟨((okL_ones _).setAll _ (by decide)).setAll _ (by decide), by rw [setAll_length, setAll_length, List.length_replicate]; omega⟩
    · cases h

theorem takeL_len1 (L : List Int) (n : Int) : (takeL L n).1.length ≤ L.length := by
  unfold takeL
  split
  · exact Nat.zero_le _
  · split
    · exact Nat.zero_le _
    · rw [List.length_take]
      have := rowsK_length_le L 1 L.length
      unfold rowsL
      omega
theorem rows_none {L : List Int} (h : OkL L) {what : Int} (hw : ¬ (what = 1 ∨ what = 2 ∨ what = 3)) : rowsL L what = [] := by
  rw [List.eq_nil_iff_forall_not_mem]
  intro x hx
  have := (rowsK_mem L what L.length (Nat.le_refl _) x hx).2.2
  exact hw (h _ (List.mem_of_getElem? this))
theorem below_of_drew {w w' : World} (h : Below w.drew.heap.size w.drew w') : Below w.heap.size w w' := below_of (below_drew (Below.refl _ _)) h
/-- A step's own copy, in a block. -/
def StepBlk (w : World) (b : Nat) (x : Int) (s : Step) : Prop := w.heap[b]? = some (.cells #[.int .i64 x, .int .i64 s.n, .slice s.A s.l.length s.c] 34 (0, 0))
theorem StepBlk.c1 {w : World} {b : Nat} {x : Int} {s : Step} (h : StepBlk w b x s) : w.cell? ⟨b, 1, none⟩ = some (.int .i64 s.n) := by rw [Joins.cell_of_block h]; rfl
theorem StepBlk.c2 {w : World} {b : Nat} {x : Int} {s : Step} (h : StepBlk w b x s) : w.cell? ⟨b, 2, none⟩ = some (.slice s.A s.l.length s.c) := by rw [Joins.cell_of_block h]; rfl
theorem StepBlk.below {w w' : World} {b : Nat} {x : Int} {s : Step} (h : StepBlk w b x s) (hb : Below w.heap.size w w') : StepBlk w' b x s := (hb.block _ (lt_of_block h)).trans h
theorem StepBlk.grown {w w' : World} {b : Nat} {x : Int} {s : Step} {o : Option Nat} (h : StepBlk w b x s) (hg : w.grownBy w' o) (hne : some b ≠ o) : StepBlk w' b x s := (hg.block _ (lt_of_block h) hne).trans h

set_option maxHeartbeats 6400000 in
set_option maxRecDepth 100000 in
theorem plays_calls (n : Int) (A B C : Option Addr) (c d e : Nat) (U D : List Int) (ss : List Step) (w : World) (hU : IntsAt w A U) (hD : IntsAt w B D) (hs : StepsAt w C ss) :
    Calls Try.prog 3 #[.int .i64 n, .slice A U.length c, .slice B D.length d, .slice C ss.length e] w fun e w' => e = .returned (.bool true) ∧ Below w.heap.size w w' := by
  have H1 := Lib.hid (heavy_calls C A B e c d ss U.length D.length w hs)
  have HW := Lib.hid works_calls
  go_enter Try.func3, Try.ntmps3
  go_wp2_with fail
  refine H1.out.mono ?_
  rintro e w1 ⟨⟨b1, rfl, hb1⟩, rfl⟩
  cases b1
  · obtain ⟨ha1, ha2, hu, hd⟩ := hb1 rfl
    clear hb1 H1
    go_wp2_with (at_builtin; refine wpList_copy rfl _ rfl rfl rfl hU (by omega) ?_)
    intro A1 c1 w1 hc1 hI1 hn1 hb1
    have hD1 := hD.below hb1
    go_wp2_with (at_builtin; refine wpList_copy rfl _ rfl rfl rfl hD1 (by omega) ?_)
    intro A2 c2 w2 hc2 hI2 hn2 hb2
    have HLD := Lib.hid (load_calls n A1 c1 U A2 c2 D w2 (hI1.below hb2) hI2 (by omega) (by omega))
    have hb2' := below_of hb1 hb2
    cases hld : loadR n U D with
    | none =>
      rw [hld] at HLD
      go_wp2_with fail
      refine HLD.out.mono ?_
      rintro e w3 ⟨rfl, hb3⟩
      have hb3' := below_of hb2' hb3
      have HRL := Lib.hid (refLoad_calls n A c U B d D w3 (hU.below hb3') (hD.below hb3') (by omega) (by omega))
      rw [hld] at HRL
      go_wp2_with fail
      refine HRL.out.mono ?_
      rintro e w4 ⟨rfl, hb4⟩
      have hb4' := below_of hb3' hb4
      by_cases hz : U.length + D.length = 0
      · have hu0 : U = [] := List.eq_nil_of_length_eq_zero (by omega)
        have hd0 : D = [] := List.eq_nil_of_length_eq_zero (by omega)
        subst hu0 hd0
        have HN := Lib.hid (new_calls n w4)
        rw [hld] at HN
        go_wp2_with fail
        refine HN.out.mono ?_
        rintro e w5 ⟨rfl, hb5⟩
        have hb5' := below_of hb4' hb5
        go_wp2_with fail
        refine (HW.out _).mono ?_
        rintro e w6 ⟨rfl, hb6⟩
        go_wp2
        go_ret
        exact ⟨rfl, below_of hb5' hb6⟩
      · go_wp2_with fail
        refine (HW.out _).mono ?_
        rintro e w6 ⟨rfl, hb6⟩
        go_wp2
        go_ret
        exact ⟨rfl, below_of hb4' hb6⟩
    | some L =>
      rw [hld] at HLD
      go_wp2_with fail
      refine HLD.out.mono ?_
      rintro e w3 ⟨m, r, rfl, hm, hr, hM, hb3⟩
      have hb3' := below_of hb2' hb3
      have HRL := Lib.hid (refLoad_calls n A c U B d D w3 (hU.below hb3') (hD.below hb3') (by omega) (by omega))
      rw [hld] at HRL
      go_wp2_with fail
      refine HRL.out.mono ?_
      rintro e w4 ⟨p, o, cap, rfl, hp, ho, hR, hb4⟩
      have hb4' := below_of hb3' hb4
      have hmw := hM.hm
      have hrw := hM.hr
      have hM4 := hM.below hb4
      have hok0 := loadR_ok hld
      by_cases hz : U.length + D.length = 0
      · have hu0 : U = [] := List.eq_nil_of_length_eq_zero (by omega)
        have hd0 : D = [] := List.eq_nil_of_length_eq_zero (by omega)
        subst hu0 hd0
        have HN := Lib.hid (new_calls n w4)
        rw [hld] at HN
        have hpw := hR.hd
        have how : ∀ g, o = some g → g < w4.heap.size := fun g hg => (hR.row g hg).2.1
        clear hM hM4 hr hm hmw hrw HLD HRL hI1 hI2 hn1 hn2 hc1 hc2 hD1
        go_wp2_with fail
        refine HN.out.mono ?_
        rintro e wz ⟨m, r, rfl, hm5, hr5, hM5, hb5⟩
        have hbz := below_of hb4' hb5
        have hRz := hR.below hb5
        have hrb : w.heap.size ≤ r := by have := hb4'.size; omega
        have hpr : p ≠ r := by omega
        have hor : o ≠ some r := fun e => by have := how r e; omega
        have hom : o ≠ some m := fun e => by have := how m e; omega
        have hob : ∀ g, o = some g → w.heap.size ≤ g := fun g hg => by have := ho g hg; have := hb3'.size; omega
        clear hR hb1 hb2 hb3 hb4 hb5 hb2' hb3' hb4' how hpw ho hp hm5 hr5 hld HN
        have HO1 := Lib.hid hok0
        have HOR := Lib.hid hor
        have HOM := Lib.hid hom
        have HOB := Lib.hid hob
        have HPR := Lib.hid hpr
        have hL4 := hok0.2
        clear hok0 hor hom hob hpr
        go_wp2
        go_loopw [14] (fun iv wr => ∃ k : Nat, k ≤ ss.length ∧ iv = .int .i64 k ∧ MapAt wr m r (playK L ss k).2 ∧ RefAt wr p o cap (playK L ss k).2 ∧ Below w.heap.size w wr) (fun iv _ => ss.length - (intOf iv).toNat)
        case atStart => exact ⟨0, by omega, rfl, hM5, hRz, hbz⟩
        case round =>
          obtain ⟨k, hk, rfl, hM, hR, hb⟩ := hrel
          have hlen := (playK_len L ss k hk).2
          have hsr := hs.below hb
          by_cases hlt : k < ss.length
          · obtain ⟨ad, rfl, hadb, hc0, hc1, hc2, hI, hlc, h63⟩ := hsr.at_ hlt
            obtain ⟨s, hse⟩ : ∃ s, s = ss[k] := ⟨_, rfl⟩
            have hsl := ha2 ss[k] (List.getElem_mem hlt)
            have hIO : IntsAt w ss[k].A ss[k].l := by
              obtain ⟨_, _, _, _, _, _, h, _⟩ := hs.at_ hlt
              exact h
            rw [← hse] at hc0 hc1 hc2 hI hlc h63 hsl hIO
            have hAo : Hid (0 < s.l.length → ∀ ad, s.A = some ad → some ad.block ≠ o) := fun hl ad h e => by
              obtain ⟨ad', e1, e2, _⟩ := hIO hl
              obtain rfl : ad = ad' := Option.some.inj (h.symm.trans e1)
              have := HOB.out _ e.symm
              omega
            have HP := Lib.hid (playK_succ L ss k hlt)
            rw [← hse] at HP
            clear hse
            have hsr' : wr.heap.size ≠ r := by have := hM.hr; omega
            have hso : o ≠ some wr.heap.size := fun e => by have := (hR.row _ e).2.1; omega
            have HSR := Lib.hid hsr'
            have HSO := Lib.hid hso
            clear hsr' hso
            by_cases hd0 : s.doo = 0
            · have hSA : StepBlk (wr.alloc (.cells #[.int .i64 0, .int .i64 s.n, .slice s.A s.l.length s.c] 34)) wr.heap.size 0 s := (MapKept.heap_alloc wr _).1
              have hMA := hM.below (below_one wr (.cells #[.int .i64 0, .int .i64 s.n, .slice s.A s.l.length s.c] 34))
              have hRA := hR.below (below_one wr (.cells #[.int .i64 0, .int .i64 s.n, .slice s.A s.l.length s.c] 34))
              have hIA := hI.below (below_one wr (.cells #[.int .i64 0, .int .i64 s.n, .slice s.A s.l.length s.c] 34))
              have hbA := below_alloc hb (.cells #[.int .i64 0, .int .i64 s.n, .slice s.A s.l.length s.c] 34)
              clear hM hR hI
              have hLn : (takeL (playK L ss k).2 s.n).2.2.length = L.length := by rw [takeL_length, hlen]
              go_wp2_with fail
              refine (take_calls m r _ s.n _ hMA (by rw [hlen]; exact hL4)).mono ?_
              rintro e w2 ⟨Aa, ca, rfl, hca, hIa, hna, hM2, hg2⟩
              have hS2 := hSA.grown hg2 (fun e => HSR.out (Option.some.inj e))
              have hc21 := hS2.c1
              have hR2 := hRA.grown hg2 HPR.out HOR.out
              have hb2 := below_of_grown hbA hg2 (fun r' e => by cases e; exact hrb)
              go_wp2_with fail
              refine (refTake_calls p cap o _ s.n _ hR2 (by rw [hlen]; exact hL4)).mono ?_
              rintro e w3 ⟨Ab, cb, rfl, hcb, hIb, hnb, hR3, hg3⟩
              have hM3 := hM2.grown hg3 (fun e => HOM.out e.symm) (fun e => HOR.out e.symm)
              have hIa3 := hIa.grown hg3 (fun ad h e => by have := hna ad h; have := (hRA.row _ e.symm).2.1; omega)
              have hb3 := below_of_grown hb2 hg3 (fun g hg => HOB.out g hg)
              go_wp2_with fail
              refine (same_calls Aa Ab ca cb _ _ w3 hIa3 hIb (by have := takeL_len1 (playK L ss k).2 s.n; omega)).mono ?_
              rintro e w4 ⟨rfl, hb4⟩
              have hM4 := hM3.below hb4
              have hR4 := hR3.below hb4
              have hb4' := below_of hb3 hb4
              clear hIa hIb hIa3 hM2 hM3 hR2 hR3 hg2 hg3 hb2 hb3 hS2 hc21 hMA hRA

              go_wp2_with fail
              refine (count_calls m r _ w4 hM4 (by rw [hLn]; exact hL4)).mono ?_
              rintro e wc ⟨rfl, hbc⟩
              have hMc := hM4.below hbc
              have hRc := hR4.below hbc
              have hbc' := below_of hb4' hbc
              go_wp2_with fail
              refine (refRows_calls p cap o _ 1 wc hRc (by rw [hLn]; exact hL4)).mono ?_
              rintro e wd ⟨_, _, rfl, _, _, _, hbd⟩
              have hMd := hMc.below hbd
              have hRd := hRc.below hbd
              have hbd' := below_of hbc' hbd
              go_wp2_with fail
              refine (refRows_calls p cap o _ 2 wd hRd (by rw [hLn]; exact hL4)).mono ?_
              rintro e we ⟨_, _, rfl, _, _, _, hbe⟩
              have hMe := hMd.below hbe
              have hRe := hRd.below hbe
              have hbe' := below_of hbd' hbe
              go_wp2_with fail
              refine (refRows_calls p cap o _ 3 we hRe (by rw [hLn]; exact hL4)).mono ?_
              rintro e wf ⟨_, _, rfl, _, _, _, hbf⟩
              have hMf := hMe.below hbf
              have hRf := hRe.below hbf
              have hbf' := below_of hbe' hbf
              go_wp2
              go_roundw
              case rel =>
                refine ⟨k + 1, by omega, by go_num, ?_, ?_, hbf'⟩
                · rw [HP.out]; unfold stepL; rw [if_pos hd0]; exact hMf
                · rw [HP.out]; unfold stepL; rw [if_pos hd0]; exact hRf
              case measure => simp [intOf]; omega
            · by_cases hd1 : s.doo = 1
              · have hSA : StepBlk (wr.alloc (.cells #[.int .i64 1, .int .i64 s.n, .slice s.A s.l.length s.c] 34)) wr.heap.size 1 s := (MapKept.heap_alloc wr _).1
                have hMA := hM.below (below_one wr (.cells #[.int .i64 1, .int .i64 s.n, .slice s.A s.l.length s.c] 34))
                have hRA := hR.below (below_one wr (.cells #[.int .i64 1, .int .i64 s.n, .slice s.A s.l.length s.c] 34))
                have hIA := hI.below (below_one wr (.cells #[.int .i64 1, .int .i64 s.n, .slice s.A s.l.length s.c] 34))
                have hbA := below_alloc hb (.cells #[.int .i64 1, .int .i64 s.n, .slice s.A s.l.length s.c] 34)
                clear hM hR hI
                have hLn : (turnL (playK L ss k).2 s.l 2 3 (areB (playK L ss k).2.length s.l)).2.length = L.length := by rw [turnL_length, hlen]
                have hcA := hSA.c2
                go_wp2
                go_region_held3 (fun w' => w'.cell? ⟨wr.heap.size, 2, none⟩ = some (.slice s.A s.l.length s.c)) (first | exact hcA | exact hcb1 | exact hcb2 | exact hcb3)
                  (first | (refine step_copy rfl _ rfl rfl rfl hIA (by omega) ?_; intro Ac cc wb1 hcc hIc hAc' hbb1'; have hbb1 := below_of_drew hbb1'; have hAc : ∀ ad, Ac = some ad → wr.heap.size + 1 ≤ ad.block := (fun ad h => by have := hAc' ad h; simpa using this); have hSb1 := hSA.below hbb1; have hcb1 := hSb1.c2) | (go_at_call 15; refine (drop_calls m r _ Ac cc s.l wb1 (hMA.below hbb1) hIc h63 hcc (fun ad h e => by have := hAc ad h; have := hMA.hr; simp at this; omega)).mono ?_; rintro e wb2 ⟨rfl, hMb2, hgb2⟩; have hSb2 := hSb1.grown hgb2 (fun e => HSR.out (Option.some.inj e)); have hcb2 := hSb2.c2; have hbT := below_of_grown (below_of hbA hbb1) hgb2 (fun r' e => by cases e; exact hrb)) | (go_at_call 16; refine (refTurn_calls p cap o _ s.A s.c s.l 2 3 wb2 ((hRA.below hbb1).grown hgb2 HPR.out HOR.out) (hIO.below hbT) (by omega) hAo.out (by decide)).mono ?_; rintro e wb3 ⟨rfl, hRb3, hgb3⟩; have hSb3 := hSb2.grown hgb3 (fun e => HSO.out e.symm); have hcb3 := hSb3.c2))
                have hMb3 := hMb2.grown hgb3 (fun e => HOM.out e.symm) (fun e => HOR.out e.symm)
                have hbb3 := below_of_grown hbT hgb3 (fun g hg => HOB.out g hg)
                go_wp2_with fail
                refine (count_calls m r _ _ hMb3 (by rw [hLn]; exact hL4)).mono ?_
                rintro e wc ⟨rfl, hbc⟩
                have hMc := hMb3.below hbc
                have hRc := hRb3.below hbc
                have hbc' := below_of hbb3 hbc
                go_wp2_with fail
                refine (refRows_calls p cap o _ 1 wc hRc (by rw [hLn]; exact hL4)).mono ?_
                rintro e wd ⟨_, _, rfl, _, _, _, hbd⟩
                have hMd := hMc.below hbd
                have hRd := hRc.below hbd
                have hbd' := below_of hbc' hbd
                go_wp2_with fail
                refine (refRows_calls p cap o _ 2 wd hRd (by rw [hLn]; exact hL4)).mono ?_
                rintro e we ⟨_, _, rfl, _, _, _, hbe⟩
                have hMe := hMd.below hbe
                have hRe := hRd.below hbe
                have hbe' := below_of hbd' hbe
                go_wp2_with fail
                refine (refRows_calls p cap o _ 3 we hRe (by rw [hLn]; exact hL4)).mono ?_
                rintro e wf ⟨_, _, rfl, _, _, _, hbf⟩
                have hMf := hMe.below hbf
                have hRf := hRe.below hbf
                have hbf' := below_of hbe' hbf
                go_wp2
                go_roundw
                case rel =>
                  refine ⟨k + 1, by omega, by go_num, ?_, ?_, hbf'⟩
                  · rw [HP.out]; unfold stepL; rw [if_neg hd0, if_pos hd1]; exact hMf
                  · rw [HP.out]; unfold stepL; rw [if_neg hd0, if_pos hd1]; exact hRf
                case measure => simp [intOf]; omega
              · by_cases hd2 : s.doo = 2
                · have hSA : StepBlk (wr.alloc (.cells #[.int .i64 2, .int .i64 s.n, .slice s.A s.l.length s.c] 34)) wr.heap.size 2 s := (MapKept.heap_alloc wr _).1
                  have hMA := hM.below (below_one wr (.cells #[.int .i64 2, .int .i64 s.n, .slice s.A s.l.length s.c] 34))
                  have hRA := hR.below (below_one wr (.cells #[.int .i64 2, .int .i64 s.n, .slice s.A s.l.length s.c] 34))
                  have hIA := hI.below (below_one wr (.cells #[.int .i64 2, .int .i64 s.n, .slice s.A s.l.length s.c] 34))
                  have hbA := below_alloc hb (.cells #[.int .i64 2, .int .i64 s.n, .slice s.A s.l.length s.c] 34)
                  clear hM hR hI
                  have hLn : (turnL (playK L ss k).2 s.l 3 1 (areB (playK L ss k).2.length s.l)).2.length = L.length := by rw [turnL_length, hlen]
                  have hcA := hSA.c2
                  go_wp2
                  go_region_held3 (fun w' => w'.cell? ⟨wr.heap.size, 2, none⟩ = some (.slice s.A s.l.length s.c)) (first | exact hcA | exact hcb1 | exact hcb2 | exact hcb3)
                    (first | (refine step_copy rfl _ rfl rfl rfl hIA (by omega) ?_; intro Ac cc wb1 hcc hIc hAc' hbb1'; have hbb1 := below_of_drew hbb1'; have hAc : ∀ ad, Ac = some ad → wr.heap.size + 1 ≤ ad.block := (fun ad h => by have := hAc' ad h; simpa using this); have hSb1 := hSA.below hbb1; have hcb1 := hSb1.c2) | (go_at_call 17; refine (clear_calls m r _ Ac cc s.l wb1 (hMA.below hbb1) hIc h63 hcc (fun ad h e => by have := hAc ad h; have := hMA.hr; simp at this; omega)).mono ?_; rintro e wb2 ⟨rfl, hMb2, hgb2⟩; have hSb2 := hSb1.grown hgb2 (fun e => HSR.out (Option.some.inj e)); have hcb2 := hSb2.c2; have hbT := below_of_grown (below_of hbA hbb1) hgb2 (fun r' e => by cases e; exact hrb)) | (go_at_call 16; refine (refTurn_calls p cap o _ s.A s.c s.l 3 1 wb2 ((hRA.below hbb1).grown hgb2 HPR.out HOR.out) (hIO.below hbT) (by omega) hAo.out (by decide)).mono ?_; rintro e wb3 ⟨rfl, hRb3, hgb3⟩; have hSb3 := hSb2.grown hgb3 (fun e => HSO.out e.symm); have hcb3 := hSb3.c2))
                  have hMb3 := hMb2.grown hgb3 (fun e => HOM.out e.symm) (fun e => HOR.out e.symm)
                  have hbb3 := below_of_grown hbT hgb3 (fun g hg => HOB.out g hg)
                  go_wp2_with fail
                  refine (count_calls m r _ _ hMb3 (by rw [hLn]; exact hL4)).mono ?_
                  rintro e wc ⟨rfl, hbc⟩
                  have hMc := hMb3.below hbc
                  have hRc := hRb3.below hbc
                  have hbc' := below_of hbb3 hbc
                  go_wp2_with fail
                  refine (refRows_calls p cap o _ 1 wc hRc (by rw [hLn]; exact hL4)).mono ?_
                  rintro e wd ⟨_, _, rfl, _, _, _, hbd⟩
                  have hMd := hMc.below hbd
                  have hRd := hRc.below hbd
                  have hbd' := below_of hbc' hbd
                  go_wp2_with fail
                  refine (refRows_calls p cap o _ 2 wd hRd (by rw [hLn]; exact hL4)).mono ?_
                  rintro e we ⟨_, _, rfl, _, _, _, hbe⟩
                  have hMe := hMd.below hbe
                  have hRe := hRd.below hbe
                  have hbe' := below_of hbd' hbe
                  go_wp2_with fail
                  refine (refRows_calls p cap o _ 3 we hRe (by rw [hLn]; exact hL4)).mono ?_
                  rintro e wf ⟨_, _, rfl, _, _, _, hbf⟩
                  have hMf := hMe.below hbf
                  have hRf := hRe.below hbf
                  have hbf' := below_of hbe' hbf
                  go_wp2
                  go_roundw
                  case rel =>
                    refine ⟨k + 1, by omega, by go_num, ?_, ?_, hbf'⟩
                    · rw [HP.out]; unfold stepL; rw [if_neg hd0, if_neg hd1, if_pos hd2]; exact hMf
                    · rw [HP.out]; unfold stepL; rw [if_neg hd0, if_neg hd1, if_pos hd2]; exact hRf
                  case measure => simp [intOf]; omega
                · have hSA : StepBlk (wr.alloc (.cells #[.int .i64 s.doo, .int .i64 s.n, .slice s.A s.l.length s.c] 34)) wr.heap.size s.doo s := (MapKept.heap_alloc wr _).1
                  have hMA := hM.below (below_one wr (.cells #[.int .i64 s.doo, .int .i64 s.n, .slice s.A s.l.length s.c] 34))
                  have hRA := hR.below (below_one wr (.cells #[.int .i64 s.doo, .int .i64 s.n, .slice s.A s.l.length s.c] 34))
                  have hIA := hI.below (below_one wr (.cells #[.int .i64 s.doo, .int .i64 s.n, .slice s.A s.l.length s.c] 34))
                  have hbA := below_alloc hb (.cells #[.int .i64 s.doo, .int .i64 s.n, .slice s.A s.l.length s.c] 34)
                  clear hM hR hI
                  have hLn : (playK L ss k).2.length = L.length := hlen

                  go_wp2_with fail
                  refine (count_calls m r _ _ hMA (by rw [hLn]; exact hL4)).mono ?_
                  rintro e wc ⟨rfl, hbc⟩
                  have hMc := hMA.below hbc
                  have hRc := hRA.below hbc
                  have hbc' := below_of hbA hbc
                  go_wp2_with fail
                  refine (refRows_calls p cap o _ 1 wc hRc (by rw [hLn]; exact hL4)).mono ?_
                  rintro e wd ⟨_, _, rfl, _, _, _, hbd⟩
                  have hMd := hMc.below hbd
                  have hRd := hRc.below hbd
                  have hbd' := below_of hbc' hbd
                  go_wp2_with fail
                  refine (refRows_calls p cap o _ 2 wd hRd (by rw [hLn]; exact hL4)).mono ?_
                  rintro e we ⟨_, _, rfl, _, _, _, hbe⟩
                  have hMe := hMd.below hbe
                  have hRe := hRd.below hbe
                  have hbe' := below_of hbd' hbe
                  go_wp2_with fail
                  refine (refRows_calls p cap o _ 3 we hRe (by rw [hLn]; exact hL4)).mono ?_
                  rintro e wf ⟨_, _, rfl, _, _, _, hbf⟩
                  have hMf := hMe.below hbf
                  have hRf := hRe.below hbf
                  have hbf' := below_of hbe' hbf
                  go_wp2
                  go_roundw
                  case rel =>
                    refine ⟨k + 1, by omega, by go_num, ?_, ?_, hbf'⟩
                    · rw [HP.out]; unfold stepL; rw [if_neg hd0, if_neg hd1, if_neg hd2]; exact hMf
                    · rw [HP.out]; unfold stepL; rw [if_neg hd0, if_neg hd1, if_neg hd2]; exact hRf
                  case measure => simp [intOf]; omega
          · obtain rfl : k = ss.length := by omega
            have hok := HO1.out.1.playK ss ss.length (Nat.le_refl _)
            obtain ⟨L', hL'⟩ : ∃ L', L' = (playK L ss ss.length).2 := ⟨_, rfl⟩
            rw [← hL'] at hM hR hlen hok
            have hl4 : L'.length ≤ 4096 := by omega
            have hr0 : rowsL L' 0 = [] := rows_none hok (by decide)
            have hr4 : rowsL L' 4 = [] := rows_none hok (by decide)
            have HR0 := Lib.hid hr0
            have HR4 := Lib.hid hr4
            clear hL' hlen hsr hok hr0 hr4 hL4 hM5 hRz hbz
            go_wp2
            go_loopw [24] (fun iv wr => ∃ z : Int, -1 ≤ z ∧ z ≤ (L'.length : Int) + 1 ∧ iv = .int .i64 z ∧ MapAt wr m r L' ∧ RefAt wr p o cap L' ∧ Below w.heap.size w wr) (fun iv _ => ((L'.length : Int) + 1 - intOf iv).toNat)
            case atStart => exact ⟨-1, by omega, by omega, rfl, hM, hR, hb⟩
            case round =>
              obtain ⟨z, hz1, hz2, rfl, hM, hR, hb⟩ := hrel
              have d0 := hR.c0
              by_cases hzl : z ≤ (L'.length : Int)
              · cases hok : okRow L'.length z
                · have HI := Lib.hid (is_calls p cap o L' z wr hR)
                  rw [hok] at HI
                  have hof : ofL L' z = 0 := by unfold ofL; rw [hok]; rfl
                  have HO := Lib.hid (of_calls m r L' z wr hM)
                  rw [hof] at HO
                  clear hof
                  go_wp2_with (go_at_call 20; refine (HI.out).mono ?_; rintro e w1 ⟨rfl, rfl⟩)
                  refine HO.out.mono ?_
                  rintro e wy ⟨rfl, hby⟩
                  go_wp2
                  go_roundw
                  case rel => exact ⟨z + 1, by omega, by omega, by go_num, hM.below hby, hR.below hby, below_of hb hby⟩
                  case measure => simp [intOf]; omega
                · have hzb : 0 ≤ z ∧ z < (L'.length : Int) := by simpa [okRow] using hok
                  obtain ⟨q, rfl⟩ := Int.eq_ofNat_of_zero_le hzb.1
                  have hql : q < L'.length := by omega
                  have HI := Lib.hid (is_calls p cap o L' (q : Int) wr hR)
                  rw [hok] at HI
                  obtain ⟨g, rfl⟩ := hR.some_ (by omega)
                  have d1 : wr.cell? ⟨p, 0, none⟩ = some (.slice (some ⟨g, 0, none⟩) L'.length cap) := d0
                  clear d0
                  obtain ⟨y, hy⟩ : ∃ y, L'[q]? = some y := ⟨_, List.getElem?_eq_getElem hql⟩
                  obtain ⟨hcy, _⟩ := (hR.row g rfl).1 q y hy
                  have hof : ofL L' (q : Int) = y := by unfold ofL; rw [hok, if_pos rfl, Int.toNat_natCast, List.getD, hy]; rfl
                  have HO := Lib.hid (of_calls m r L' (q : Int) wr hM)
                  rw [hof] at HO
                  clear hof hy hzb hok
                  go_wp2_with (go_at_call 20; refine (HI.out).mono ?_; rintro e w1 ⟨rfl, rfl⟩)
                  refine HO.out.mono ?_
                  rintro e wy ⟨rfl, hby⟩
                  go_wp2
                  go_roundw
                  case rel => exact ⟨(q : Int) + 1, by omega, by omega, by go_num, hM.below hby, hR.below hby, below_of hb hby⟩
                  case measure => simp [intOf]; omega
              · go_wp2
                go_loopw [26] (fun iv wr => ∃ v : Nat, 1 ≤ v ∧ v ≤ 4 ∧ iv = .int .u8 (v : Int) ∧ MapAt wr m r L' ∧ RefAt wr p o cap L' ∧ Below w.heap.size w wr) (fun iv _ => 4 - (intOf iv).toNat)
                case atStart => exact ⟨1, by omega, by omega, rfl, hM, hR, hb⟩
                case round =>
                  obtain ⟨v, hv1, hv2, rfl, hM, hR, hb⟩ := hrel
                  by_cases hv : v < 4
                  · have hvl := rowsK_length_le L' (v : Int) L'.length
                    go_wp2_with fail
                    refine (rows_calls m r L' (v : Int) wr hM hl4).mono ?_
                    rintro e wx ⟨Ax, cx, rfl, hcx, hIx, _, hbx⟩
                    go_wp2_with fail
                    refine (refRows_calls p cap o L' (v : Int) wx (hR.below hbx) hl4).mono ?_
                    rintro e wy ⟨Ay, cy, rfl, hcy, hIy, _, hby⟩
                    go_wp2_with fail
                    refine (same_calls Ax Ay cx cy _ _ wy (hIx.below hby) hIy (by unfold rowsL; omega)).mono ?_
                    rintro e wz ⟨rfl, hbz⟩
                    go_wp2
                    go_roundw
                    case rel => exact ⟨v + 1, by omega, by omega, by go_num, ((hM.below hbx).below hby).below hbz, ((hR.below hbx).below hby).below hbz, below_of (below_of (below_of hb hbx) hby) hbz⟩
                    case measure => simp [intOf]; omega
                  · obtain rfl : v = 4 := by omega
                    have K0 := Lib.hid (rows_calls m r L' 0 wr hM hl4)
                    rw [HR0.out] at K0
                    go_wp2_with fail
                    refine K0.out.mono ?_
                    rintro e wx ⟨Ax, cx, rfl, _, _, _, hbx⟩
                    have K4 := Lib.hid (rows_calls m r L' 4 wx (hM.below hbx) hl4)
                    rw [HR4.out] at K4
                    go_wp2_with fail
                    refine K4.out.mono ?_
                    rintro e wy ⟨Ay, cy, rfl, _, _, _, hby⟩
                    go_wp2_with fail
                    refine (HW.out _).mono ?_
                    rintro e wz ⟨rfl, hbz⟩
                    go_wp2
                    go_ret
                    exact ⟨rfl, below_of (below_of (below_of hb hbx) hby) hbz⟩
      · have hzb : ((U.length : Int) + (D.length : Int) == 0) = false := by rw [beq_eq_false_iff_ne]; omega
        have hpr : p ≠ r := by omega
        have hor : o ≠ some r := fun e => by have := ho r e; omega
        have hom : o ≠ some m := fun e => by have := ho m e; omega
        have hob : ∀ g, o = some g → w.heap.size ≤ g := fun g hg => by have := ho g hg; have := hb3'.size; omega
        have hrb : w.heap.size ≤ r := by have := hb2'.size; omega
        have hM5 := hM4
        have hRz := hR
        have hbz := hb4'
        clear hR hM hM4 hb1 hb2 hb3 hb4 hb2' hb3' hb4' ho hp hm hr hmw hrw HLD HRL hI1 hI2 hn1 hn2 hc1 hc2 hD1 hld
        have HO1 := Lib.hid hok0
        have HOR := Lib.hid hor
        have HOM := Lib.hid hom
        have HOB := Lib.hid hob
        have HPR := Lib.hid hpr
        have hL4 := hok0.2
        clear hok0 hor hom hob hpr
        go_wp2
        go_loopw [14] (fun iv wr => ∃ k : Nat, k ≤ ss.length ∧ iv = .int .i64 k ∧ MapAt wr m r (playK L ss k).2 ∧ RefAt wr p o cap (playK L ss k).2 ∧ Below w.heap.size w wr) (fun iv _ => ss.length - (intOf iv).toNat)
        case atStart => exact ⟨0, by omega, rfl, hM5, hRz, hbz⟩
        case round =>
          obtain ⟨k, hk, rfl, hM, hR, hb⟩ := hrel
          have hlen := (playK_len L ss k hk).2
          have hsr := hs.below hb
          by_cases hlt : k < ss.length
          · obtain ⟨ad, rfl, hadb, hc0, hc1, hc2, hI, hlc, h63⟩ := hsr.at_ hlt
            obtain ⟨s, hse⟩ : ∃ s, s = ss[k] := ⟨_, rfl⟩
            have hsl := ha2 ss[k] (List.getElem_mem hlt)
            have hIO : IntsAt w ss[k].A ss[k].l := by
              obtain ⟨_, _, _, _, _, _, h, _⟩ := hs.at_ hlt
              exact h
            rw [← hse] at hc0 hc1 hc2 hI hlc h63 hsl hIO
            have hAo : Hid (0 < s.l.length → ∀ ad, s.A = some ad → some ad.block ≠ o) := fun hl ad h e => by
              obtain ⟨ad', e1, e2, _⟩ := hIO hl
              obtain rfl : ad = ad' := Option.some.inj (h.symm.trans e1)
              have := HOB.out _ e.symm
              omega
            have HP := Lib.hid (playK_succ L ss k hlt)
            rw [← hse] at HP
            clear hse
            have hsr' : wr.heap.size ≠ r := by have := hM.hr; omega
            have hso : o ≠ some wr.heap.size := fun e => by have := (hR.row _ e).2.1; omega
            have HSR := Lib.hid hsr'
            have HSO := Lib.hid hso
            clear hsr' hso
            by_cases hd0 : s.doo = 0
            · have hSA : StepBlk (wr.alloc (.cells #[.int .i64 0, .int .i64 s.n, .slice s.A s.l.length s.c] 34)) wr.heap.size 0 s := (MapKept.heap_alloc wr _).1
              have hMA := hM.below (below_one wr (.cells #[.int .i64 0, .int .i64 s.n, .slice s.A s.l.length s.c] 34))
              have hRA := hR.below (below_one wr (.cells #[.int .i64 0, .int .i64 s.n, .slice s.A s.l.length s.c] 34))
              have hIA := hI.below (below_one wr (.cells #[.int .i64 0, .int .i64 s.n, .slice s.A s.l.length s.c] 34))
              have hbA := below_alloc hb (.cells #[.int .i64 0, .int .i64 s.n, .slice s.A s.l.length s.c] 34)
              clear hM hR hI
              have hLn : (takeL (playK L ss k).2 s.n).2.2.length = L.length := by rw [takeL_length, hlen]
              go_wp2_with fail
              refine (take_calls m r _ s.n _ hMA (by rw [hlen]; exact hL4)).mono ?_
              rintro e w2 ⟨Aa, ca, rfl, hca, hIa, hna, hM2, hg2⟩
              have hS2 := hSA.grown hg2 (fun e => HSR.out (Option.some.inj e))
              have hc21 := hS2.c1
              have hR2 := hRA.grown hg2 HPR.out HOR.out
              have hb2 := below_of_grown hbA hg2 (fun r' e => by cases e; exact hrb)
              go_wp2_with fail
              refine (refTake_calls p cap o _ s.n _ hR2 (by rw [hlen]; exact hL4)).mono ?_
              rintro e w3 ⟨Ab, cb, rfl, hcb, hIb, hnb, hR3, hg3⟩
              have hM3 := hM2.grown hg3 (fun e => HOM.out e.symm) (fun e => HOR.out e.symm)
              have hIa3 := hIa.grown hg3 (fun ad h e => by have := hna ad h; have := (hRA.row _ e.symm).2.1; omega)
              have hb3 := below_of_grown hb2 hg3 (fun g hg => HOB.out g hg)
              go_wp2_with fail
              refine (same_calls Aa Ab ca cb _ _ w3 hIa3 hIb (by have := takeL_len1 (playK L ss k).2 s.n; omega)).mono ?_
              rintro e w4 ⟨rfl, hb4⟩
              have hM4 := hM3.below hb4
              have hR4 := hR3.below hb4
              have hb4' := below_of hb3 hb4
              clear hIa hIb hIa3 hM2 hM3 hR2 hR3 hg2 hg3 hb2 hb3 hS2 hc21 hMA hRA

              go_wp2_with fail
              refine (count_calls m r _ w4 hM4 (by rw [hLn]; exact hL4)).mono ?_
              rintro e wc ⟨rfl, hbc⟩
              have hMc := hM4.below hbc
              have hRc := hR4.below hbc
              have hbc' := below_of hb4' hbc
              go_wp2_with fail
              refine (refRows_calls p cap o _ 1 wc hRc (by rw [hLn]; exact hL4)).mono ?_
              rintro e wd ⟨_, _, rfl, _, _, _, hbd⟩
              have hMd := hMc.below hbd
              have hRd := hRc.below hbd
              have hbd' := below_of hbc' hbd
              go_wp2_with fail
              refine (refRows_calls p cap o _ 2 wd hRd (by rw [hLn]; exact hL4)).mono ?_
              rintro e we ⟨_, _, rfl, _, _, _, hbe⟩
              have hMe := hMd.below hbe
              have hRe := hRd.below hbe
              have hbe' := below_of hbd' hbe
              go_wp2_with fail
              refine (refRows_calls p cap o _ 3 we hRe (by rw [hLn]; exact hL4)).mono ?_
              rintro e wf ⟨_, _, rfl, _, _, _, hbf⟩
              have hMf := hMe.below hbf
              have hRf := hRe.below hbf
              have hbf' := below_of hbe' hbf
              go_wp2
              go_roundw
              case rel =>
                refine ⟨k + 1, by omega, by go_num, ?_, ?_, hbf'⟩
                · rw [HP.out]; unfold stepL; rw [if_pos hd0]; exact hMf
                · rw [HP.out]; unfold stepL; rw [if_pos hd0]; exact hRf
              case measure => simp [intOf]; omega
            · by_cases hd1 : s.doo = 1
              · have hSA : StepBlk (wr.alloc (.cells #[.int .i64 1, .int .i64 s.n, .slice s.A s.l.length s.c] 34)) wr.heap.size 1 s := (MapKept.heap_alloc wr _).1
                have hMA := hM.below (below_one wr (.cells #[.int .i64 1, .int .i64 s.n, .slice s.A s.l.length s.c] 34))
                have hRA := hR.below (below_one wr (.cells #[.int .i64 1, .int .i64 s.n, .slice s.A s.l.length s.c] 34))
                have hIA := hI.below (below_one wr (.cells #[.int .i64 1, .int .i64 s.n, .slice s.A s.l.length s.c] 34))
                have hbA := below_alloc hb (.cells #[.int .i64 1, .int .i64 s.n, .slice s.A s.l.length s.c] 34)
                clear hM hR hI
                have hLn : (turnL (playK L ss k).2 s.l 2 3 (areB (playK L ss k).2.length s.l)).2.length = L.length := by rw [turnL_length, hlen]
                have hcA := hSA.c2
                go_wp2
                go_region_held3 (fun w' => w'.cell? ⟨wr.heap.size, 2, none⟩ = some (.slice s.A s.l.length s.c)) (first | exact hcA | exact hcb1 | exact hcb2 | exact hcb3)
                  (first | (refine step_copy rfl _ rfl rfl rfl hIA (by omega) ?_; intro Ac cc wb1 hcc hIc hAc' hbb1'; have hbb1 := below_of_drew hbb1'; have hAc : ∀ ad, Ac = some ad → wr.heap.size + 1 ≤ ad.block := (fun ad h => by have := hAc' ad h; simpa using this); have hSb1 := hSA.below hbb1; have hcb1 := hSb1.c2) | (go_at_call 15; refine (drop_calls m r _ Ac cc s.l wb1 (hMA.below hbb1) hIc h63 hcc (fun ad h e => by have := hAc ad h; have := hMA.hr; simp at this; omega)).mono ?_; rintro e wb2 ⟨rfl, hMb2, hgb2⟩; have hSb2 := hSb1.grown hgb2 (fun e => HSR.out (Option.some.inj e)); have hcb2 := hSb2.c2; have hbT := below_of_grown (below_of hbA hbb1) hgb2 (fun r' e => by cases e; exact hrb)) | (go_at_call 16; refine (refTurn_calls p cap o _ s.A s.c s.l 2 3 wb2 ((hRA.below hbb1).grown hgb2 HPR.out HOR.out) (hIO.below hbT) (by omega) hAo.out (by decide)).mono ?_; rintro e wb3 ⟨rfl, hRb3, hgb3⟩; have hSb3 := hSb2.grown hgb3 (fun e => HSO.out e.symm); have hcb3 := hSb3.c2))
                have hMb3 := hMb2.grown hgb3 (fun e => HOM.out e.symm) (fun e => HOR.out e.symm)
                have hbb3 := below_of_grown hbT hgb3 (fun g hg => HOB.out g hg)
                go_wp2_with fail
                refine (count_calls m r _ _ hMb3 (by rw [hLn]; exact hL4)).mono ?_
                rintro e wc ⟨rfl, hbc⟩
                have hMc := hMb3.below hbc
                have hRc := hRb3.below hbc
                have hbc' := below_of hbb3 hbc
                go_wp2_with fail
                refine (refRows_calls p cap o _ 1 wc hRc (by rw [hLn]; exact hL4)).mono ?_
                rintro e wd ⟨_, _, rfl, _, _, _, hbd⟩
                have hMd := hMc.below hbd
                have hRd := hRc.below hbd
                have hbd' := below_of hbc' hbd
                go_wp2_with fail
                refine (refRows_calls p cap o _ 2 wd hRd (by rw [hLn]; exact hL4)).mono ?_
                rintro e we ⟨_, _, rfl, _, _, _, hbe⟩
                have hMe := hMd.below hbe
                have hRe := hRd.below hbe
                have hbe' := below_of hbd' hbe
                go_wp2_with fail
                refine (refRows_calls p cap o _ 3 we hRe (by rw [hLn]; exact hL4)).mono ?_
                rintro e wf ⟨_, _, rfl, _, _, _, hbf⟩
                have hMf := hMe.below hbf
                have hRf := hRe.below hbf
                have hbf' := below_of hbe' hbf
                go_wp2
                go_roundw
                case rel =>
                  refine ⟨k + 1, by omega, by go_num, ?_, ?_, hbf'⟩
                  · rw [HP.out]; unfold stepL; rw [if_neg hd0, if_pos hd1]; exact hMf
                  · rw [HP.out]; unfold stepL; rw [if_neg hd0, if_pos hd1]; exact hRf
                case measure => simp [intOf]; omega
              · by_cases hd2 : s.doo = 2
                · have hSA : StepBlk (wr.alloc (.cells #[.int .i64 2, .int .i64 s.n, .slice s.A s.l.length s.c] 34)) wr.heap.size 2 s := (MapKept.heap_alloc wr _).1
                  have hMA := hM.below (below_one wr (.cells #[.int .i64 2, .int .i64 s.n, .slice s.A s.l.length s.c] 34))
                  have hRA := hR.below (below_one wr (.cells #[.int .i64 2, .int .i64 s.n, .slice s.A s.l.length s.c] 34))
                  have hIA := hI.below (below_one wr (.cells #[.int .i64 2, .int .i64 s.n, .slice s.A s.l.length s.c] 34))
                  have hbA := below_alloc hb (.cells #[.int .i64 2, .int .i64 s.n, .slice s.A s.l.length s.c] 34)
                  clear hM hR hI
                  have hLn : (turnL (playK L ss k).2 s.l 3 1 (areB (playK L ss k).2.length s.l)).2.length = L.length := by rw [turnL_length, hlen]
                  have hcA := hSA.c2
                  go_wp2
                  go_region_held3 (fun w' => w'.cell? ⟨wr.heap.size, 2, none⟩ = some (.slice s.A s.l.length s.c)) (first | exact hcA | exact hcb1 | exact hcb2 | exact hcb3)
                    (first | (refine step_copy rfl _ rfl rfl rfl hIA (by omega) ?_; intro Ac cc wb1 hcc hIc hAc' hbb1'; have hbb1 := below_of_drew hbb1'; have hAc : ∀ ad, Ac = some ad → wr.heap.size + 1 ≤ ad.block := (fun ad h => by have := hAc' ad h; simpa using this); have hSb1 := hSA.below hbb1; have hcb1 := hSb1.c2) | (go_at_call 17; refine (clear_calls m r _ Ac cc s.l wb1 (hMA.below hbb1) hIc h63 hcc (fun ad h e => by have := hAc ad h; have := hMA.hr; simp at this; omega)).mono ?_; rintro e wb2 ⟨rfl, hMb2, hgb2⟩; have hSb2 := hSb1.grown hgb2 (fun e => HSR.out (Option.some.inj e)); have hcb2 := hSb2.c2; have hbT := below_of_grown (below_of hbA hbb1) hgb2 (fun r' e => by cases e; exact hrb)) | (go_at_call 16; refine (refTurn_calls p cap o _ s.A s.c s.l 3 1 wb2 ((hRA.below hbb1).grown hgb2 HPR.out HOR.out) (hIO.below hbT) (by omega) hAo.out (by decide)).mono ?_; rintro e wb3 ⟨rfl, hRb3, hgb3⟩; have hSb3 := hSb2.grown hgb3 (fun e => HSO.out e.symm); have hcb3 := hSb3.c2))
                  have hMb3 := hMb2.grown hgb3 (fun e => HOM.out e.symm) (fun e => HOR.out e.symm)
                  have hbb3 := below_of_grown hbT hgb3 (fun g hg => HOB.out g hg)
                  go_wp2_with fail
                  refine (count_calls m r _ _ hMb3 (by rw [hLn]; exact hL4)).mono ?_
                  rintro e wc ⟨rfl, hbc⟩
                  have hMc := hMb3.below hbc
                  have hRc := hRb3.below hbc
                  have hbc' := below_of hbb3 hbc
                  go_wp2_with fail
                  refine (refRows_calls p cap o _ 1 wc hRc (by rw [hLn]; exact hL4)).mono ?_
                  rintro e wd ⟨_, _, rfl, _, _, _, hbd⟩
                  have hMd := hMc.below hbd
                  have hRd := hRc.below hbd
                  have hbd' := below_of hbc' hbd
                  go_wp2_with fail
                  refine (refRows_calls p cap o _ 2 wd hRd (by rw [hLn]; exact hL4)).mono ?_
                  rintro e we ⟨_, _, rfl, _, _, _, hbe⟩
                  have hMe := hMd.below hbe
                  have hRe := hRd.below hbe
                  have hbe' := below_of hbd' hbe
                  go_wp2_with fail
                  refine (refRows_calls p cap o _ 3 we hRe (by rw [hLn]; exact hL4)).mono ?_
                  rintro e wf ⟨_, _, rfl, _, _, _, hbf⟩
                  have hMf := hMe.below hbf
                  have hRf := hRe.below hbf
                  have hbf' := below_of hbe' hbf
                  go_wp2
                  go_roundw
                  case rel =>
                    refine ⟨k + 1, by omega, by go_num, ?_, ?_, hbf'⟩
                    · rw [HP.out]; unfold stepL; rw [if_neg hd0, if_neg hd1, if_pos hd2]; exact hMf
                    · rw [HP.out]; unfold stepL; rw [if_neg hd0, if_neg hd1, if_pos hd2]; exact hRf
                  case measure => simp [intOf]; omega
                · have hSA : StepBlk (wr.alloc (.cells #[.int .i64 s.doo, .int .i64 s.n, .slice s.A s.l.length s.c] 34)) wr.heap.size s.doo s := (MapKept.heap_alloc wr _).1
                  have hMA := hM.below (below_one wr (.cells #[.int .i64 s.doo, .int .i64 s.n, .slice s.A s.l.length s.c] 34))
                  have hRA := hR.below (below_one wr (.cells #[.int .i64 s.doo, .int .i64 s.n, .slice s.A s.l.length s.c] 34))
                  have hIA := hI.below (below_one wr (.cells #[.int .i64 s.doo, .int .i64 s.n, .slice s.A s.l.length s.c] 34))
                  have hbA := below_alloc hb (.cells #[.int .i64 s.doo, .int .i64 s.n, .slice s.A s.l.length s.c] 34)
                  clear hM hR hI
                  have hLn : (playK L ss k).2.length = L.length := hlen

                  go_wp2_with fail
                  refine (count_calls m r _ _ hMA (by rw [hLn]; exact hL4)).mono ?_
                  rintro e wc ⟨rfl, hbc⟩
                  have hMc := hMA.below hbc
                  have hRc := hRA.below hbc
                  have hbc' := below_of hbA hbc
                  go_wp2_with fail
                  refine (refRows_calls p cap o _ 1 wc hRc (by rw [hLn]; exact hL4)).mono ?_
                  rintro e wd ⟨_, _, rfl, _, _, _, hbd⟩
                  have hMd := hMc.below hbd
                  have hRd := hRc.below hbd
                  have hbd' := below_of hbc' hbd
                  go_wp2_with fail
                  refine (refRows_calls p cap o _ 2 wd hRd (by rw [hLn]; exact hL4)).mono ?_
                  rintro e we ⟨_, _, rfl, _, _, _, hbe⟩
                  have hMe := hMd.below hbe
                  have hRe := hRd.below hbe
                  have hbe' := below_of hbd' hbe
                  go_wp2_with fail
                  refine (refRows_calls p cap o _ 3 we hRe (by rw [hLn]; exact hL4)).mono ?_
                  rintro e wf ⟨_, _, rfl, _, _, _, hbf⟩
                  have hMf := hMe.below hbf
                  have hRf := hRe.below hbf
                  have hbf' := below_of hbe' hbf
                  go_wp2
                  go_roundw
                  case rel =>
                    refine ⟨k + 1, by omega, by go_num, ?_, ?_, hbf'⟩
                    · rw [HP.out]; unfold stepL; rw [if_neg hd0, if_neg hd1, if_neg hd2]; exact hMf
                    · rw [HP.out]; unfold stepL; rw [if_neg hd0, if_neg hd1, if_neg hd2]; exact hRf
                  case measure => simp [intOf]; omega
          · obtain rfl : k = ss.length := by omega
            have hok := HO1.out.1.playK ss ss.length (Nat.le_refl _)
            obtain ⟨L', hL'⟩ : ∃ L', L' = (playK L ss ss.length).2 := ⟨_, rfl⟩
            rw [← hL'] at hM hR hlen hok
            have hl4 : L'.length ≤ 4096 := by omega
            have hr0 : rowsL L' 0 = [] := rows_none hok (by decide)
            have hr4 : rowsL L' 4 = [] := rows_none hok (by decide)
            have HR0 := Lib.hid hr0
            have HR4 := Lib.hid hr4
            clear hL' hlen hsr hok hr0 hr4 hL4 hM5 hRz hbz
            go_wp2
            go_loopw [24] (fun iv wr => ∃ z : Int, -1 ≤ z ∧ z ≤ (L'.length : Int) + 1 ∧ iv = .int .i64 z ∧ MapAt wr m r L' ∧ RefAt wr p o cap L' ∧ Below w.heap.size w wr) (fun iv _ => ((L'.length : Int) + 1 - intOf iv).toNat)
            case atStart => exact ⟨-1, by omega, by omega, rfl, hM, hR, hb⟩
            case round =>
              obtain ⟨z, hz1, hz2, rfl, hM, hR, hb⟩ := hrel
              have d0 := hR.c0
              by_cases hzl : z ≤ (L'.length : Int)
              · cases hok : okRow L'.length z
                · have HI := Lib.hid (is_calls p cap o L' z wr hR)
                  rw [hok] at HI
                  have hof : ofL L' z = 0 := by unfold ofL; rw [hok]; rfl
                  have HO := Lib.hid (of_calls m r L' z wr hM)
                  rw [hof] at HO
                  clear hof
                  go_wp2_with (go_at_call 20; refine (HI.out).mono ?_; rintro e w1 ⟨rfl, rfl⟩)
                  refine HO.out.mono ?_
                  rintro e wy ⟨rfl, hby⟩
                  go_wp2
                  go_roundw
                  case rel => exact ⟨z + 1, by omega, by omega, by go_num, hM.below hby, hR.below hby, below_of hb hby⟩
                  case measure => simp [intOf]; omega
                · have hzb : 0 ≤ z ∧ z < (L'.length : Int) := by simpa [okRow] using hok
                  obtain ⟨q, rfl⟩ := Int.eq_ofNat_of_zero_le hzb.1
                  have hql : q < L'.length := by omega
                  have HI := Lib.hid (is_calls p cap o L' (q : Int) wr hR)
                  rw [hok] at HI
                  obtain ⟨g, rfl⟩ := hR.some_ (by omega)
                  have d1 : wr.cell? ⟨p, 0, none⟩ = some (.slice (some ⟨g, 0, none⟩) L'.length cap) := d0
                  clear d0
                  obtain ⟨y, hy⟩ : ∃ y, L'[q]? = some y := ⟨_, List.getElem?_eq_getElem hql⟩
                  obtain ⟨hcy, _⟩ := (hR.row g rfl).1 q y hy
                  have hof : ofL L' (q : Int) = y := by unfold ofL; rw [hok, if_pos rfl, Int.toNat_natCast, List.getD, hy]; rfl
                  have HO := Lib.hid (of_calls m r L' (q : Int) wr hM)
                  rw [hof] at HO
                  clear hof hy hzb hok
                  go_wp2_with (go_at_call 20; refine (HI.out).mono ?_; rintro e w1 ⟨rfl, rfl⟩)
                  refine HO.out.mono ?_
                  rintro e wy ⟨rfl, hby⟩
                  go_wp2
                  go_roundw
                  case rel => exact ⟨(q : Int) + 1, by omega, by omega, by go_num, hM.below hby, hR.below hby, below_of hb hby⟩
                  case measure => simp [intOf]; omega
              · go_wp2
                go_loopw [26] (fun iv wr => ∃ v : Nat, 1 ≤ v ∧ v ≤ 4 ∧ iv = .int .u8 (v : Int) ∧ MapAt wr m r L' ∧ RefAt wr p o cap L' ∧ Below w.heap.size w wr) (fun iv _ => 4 - (intOf iv).toNat)
                case atStart => exact ⟨1, by omega, by omega, rfl, hM, hR, hb⟩
                case round =>
                  obtain ⟨v, hv1, hv2, rfl, hM, hR, hb⟩ := hrel
                  by_cases hv : v < 4
                  · have hvl := rowsK_length_le L' (v : Int) L'.length
                    go_wp2_with fail
                    refine (rows_calls m r L' (v : Int) wr hM hl4).mono ?_
                    rintro e wx ⟨Ax, cx, rfl, hcx, hIx, _, hbx⟩
                    go_wp2_with fail
                    refine (refRows_calls p cap o L' (v : Int) wx (hR.below hbx) hl4).mono ?_
                    rintro e wy ⟨Ay, cy, rfl, hcy, hIy, _, hby⟩
                    go_wp2_with fail
                    refine (same_calls Ax Ay cx cy _ _ wy (hIx.below hby) hIy (by unfold rowsL; omega)).mono ?_
                    rintro e wz ⟨rfl, hbz⟩
                    go_wp2
                    go_roundw
                    case rel => exact ⟨v + 1, by omega, by omega, by go_num, ((hM.below hbx).below hby).below hbz, ((hR.below hbx).below hby).below hbz, below_of (below_of (below_of hb hbx) hby) hbz⟩
                    case measure => simp [intOf]; omega
                  · obtain rfl : v = 4 := by omega
                    have K0 := Lib.hid (rows_calls m r L' 0 wr hM hl4)
                    rw [HR0.out] at K0
                    go_wp2_with fail
                    refine K0.out.mono ?_
                    rintro e wx ⟨Ax, cx, rfl, _, _, _, hbx⟩
                    have K4 := Lib.hid (rows_calls m r L' 4 wx (hM.below hbx) hl4)
                    rw [HR4.out] at K4
                    go_wp2_with fail
                    refine K4.out.mono ?_
                    rintro e wy ⟨Ay, cy, rfl, _, _, _, hby⟩
                    go_wp2_with fail
                    refine (HW.out _).mono ?_
                    rintro e wz ⟨rfl, hbz⟩
                    go_wp2
                    go_ret
                    exact ⟨rfl, below_of (below_of (below_of hb hbx) hby) hbz⟩
  · go_wp2_with fail
    refine (HW.out _).mono ?_
    rintro e w1 ⟨rfl, hbw⟩
    go_wp2
    go_ret
    exact ⟨rfl, hbw⟩

end Go.Proofs.Ytnmnecjelpglhaa.Alloc
