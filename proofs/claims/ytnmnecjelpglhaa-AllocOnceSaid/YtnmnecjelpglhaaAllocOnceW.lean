/- The walk of hoardlaw10.AllocOnce. -/
import Derived.Test.YtnmnecjelpglhaaAllocIs
import Derived.Test.YtnmnecjelpglhaaAllocPlaysW
namespace Go.Proofs.Ytnmnecjelpglhaa.Alloc
open Go.RowKit Go.Maps

theorem wf_nat (k : Nat) (hk : k ≤ 9223372036854775807) : (Lit.int .i64 (k : Int)).wf = true := WalkArith.wf_i64 (by omega)

theorem below_alloc_form {w w' : World} {o : Obj} (h : Below (w.heap.size + 1) (w.alloc o) w') : Below (w.alloc o).heap.size (w.alloc o) w' := by
  have hs : (w.alloc o).heap.size = w.heap.size + 1 := by simp
  rw [hs]; exact h

set_option maxHeartbeats 6400000 in
set_option maxRecDepth 100000 in
theorem once_calls (x : Nat) (A : Option Addr) (c : Nat) (ss : List Step) (w : World) (hs : StepsAt w A ss) (hx : Hid (x < 65536)) :
    Calls Try.prog 4 #[.int .u16 (x : Int), .slice A ss.length c] w fun e w' => e = .returned (.bool true) ∧ Below w.heap.size w w' := by
  have H1 := Lib.hid (heavy_calls A none none c 0 0 ss 0 0 w hs)
  have HW := Lib.hid works_calls
  have hmm := @run_makeMap Try.prog
  go_enter Try.func4, Try.ntmps4
  go_wp2_with fail
  refine H1.out.mono ?_
  rintro e w1 ⟨⟨b1, rfl, hb1⟩, rfl⟩
  cases b1
  · obtain ⟨ha1, ha2, _, _⟩ := hb1 rfl
    clear hb1 H1
    obtain ⟨n, hn⟩ : ∃ n, n = x % 200 := ⟨_, rfl⟩
    have hwr : wrap64 (x : Int) = (x : Int) := by have := hx.out; unfold wrap64; omega
    have hmod : (x : Int).tmod 200 = (n : Int) := by rw [Int.tmod_eq_emod_of_nonneg (by omega)]; omega
    have hn3 : n < 200 := by omega
    obtain ⟨L0, hL0⟩ : ∃ L0, L0 = List.replicate n (1 : Int) := ⟨_, rfl⟩
    have HNW := Lib.hid (new_calls (n : Int) w)
    rw [load_new n (by omega), ← hL0] at HNW
    have HL0 := Lib.hid hL0
    clear hL0 hn
    go_wp2_with fail
    refine HNW.out.mono ?_
    rintro e w2 ⟨m, r, rfl, hm, hr, hM, hb2⟩
    have hro : ∀ r', some r = some r' → w.heap.size ≤ r' := fun r' e => by cases e; exact hr
    have hM0 := hM.below (below_one w2 (.map #[] 0))
    have hb0 := below_alloc hb2 (.map #[] 0)
    have hI0 := isAt_made w2
    have hbm : w2.heap.size ≠ m := by have := hM.hm; omega
    have hbr : w2.heap.size ≠ r := by have := hM.hr; omega
    have hwB : w.heap.size ≤ w2.heap.size := hb2.size
    have HRO := Lib.hid hro
    clear hM hb2 HNW hro
    go_wp2
    go_loopw [9] (fun iv wr => ∃ k : Nat, k ≤ n ∧ iv = .int .i64 k ∧ IsAt wr w2.heap.size k (List.replicate k 1) ∧ MapAt wr m r L0 ∧ Below w.heap.size w wr) (fun iv _ => n - (intOf iv).toNat)
    case atStart => exact ⟨0, by omega, rfl, hI0, hM0, hb0⟩
    case round =>
      obtain ⟨k, hk, rfl, hI, hM, hb⟩ := hrel
      by_cases hlt : k < n
      · go_wp2_with (at_mapUpdate; refine IsAt.store hI rfl _ _ _ rfl rfl k rfl (wf_nat k (by omega)) 1 rfl (by decide) (by unfold maxLen; omega) ?_)
        intro w1 hI1 hg1
        go_wp2
        go_roundw
        case rel =>
          refine ⟨k + 1, by omega, by go_num, hI1 _ (fun i z hz => ?_), hM.grown hg1 (fun e => hbm (Option.some.inj e).symm) (fun e => hbr (Option.some.inj e).symm), below_of_grown hb hg1 (fun g e => by cases e; exact hwB)⟩
          rw [List.getElem?_replicate] at hz
          split at hz
          · split
            · exact (Option.some.inj hz).symm
            · rw [List.getElem?_replicate, if_pos (by omega)]; exact hz
          · cases hz
        case measure => simp [intOf]; omega
      · obtain rfl : k = n := by omega
        have hok0 : OkL L0 := by rw [HL0.out]; exact okL_ones k
        have hlen0 : L0.length = k := by rw [HL0.out, List.length_replicate]
        rw [← HL0.out] at hI
        have HOK0 := Lib.hid hok0
        have HLEN := Lib.hid hlen0
        clear hok0 hlen0 HL0 hI0 hM0 hb0 hmm hwr hmod
        go_wp2
        go_loopw [10] (fun iv wr => ∃ i : Nat, i ≤ ss.length ∧ iv = .int .i64 i ∧ IsAt wr w2.heap.size (200 + 200 * i) (playK L0 ss i).2 ∧ MapAt wr m r (playK L0 ss i).2 ∧ Below w.heap.size w wr) (fun iv _ => ss.length - (intOf iv).toNat)
        case atStart => exact ⟨0, by omega, rfl, hI.mono (by omega), hM, hb⟩
        case round =>
          obtain ⟨i, hi, rfl, hJ, hM, hb⟩ := hrel
          have hlen := (playK_len L0 ss i hi).2
          rw [HLEN.out] at hlen
          have hokp := HOK0.out.playK ss i hi
          have hsr := hs.below hb
          by_cases hlt : i < ss.length
          · obtain ⟨ad, rfl, hadb, hc0, hc1, hc2, hI, hlc, h63⟩ := hsr.at_ hlt
            obtain ⟨s, hse⟩ : ∃ s, s = ss[i] := ⟨_, rfl⟩
            have hsl := ha2 ss[i] (List.getElem_mem hlt)
            have hIO : IntsAt w ss[i].A ss[i].l := by
              obtain ⟨_, _, _, _, _, _, h, _⟩ := hs.at_ hlt
              exact h
            rw [← hse] at hc0 hc1 hc2 hI hlc h63 hsl hIO
            have HP := Lib.hid (playK_succ L0 ss i hlt)
            rw [← hse] at HP
            have HIO := Lib.hid hIO
            clear hse hIO
            have hsr' : wr.heap.size ≠ r := by have := hM.hr; omega
            have hsB : wr.heap.size ≠ w2.heap.size := by have := hJ.lt; omega
            have HSR := Lib.hid hsr'
            have HSB := Lib.hid hsB
            have hrw := hM.hr
            clear hsr' hsB
            by_cases hd0 : s.doo = 0
            · skip
              have hSA : StepBlk (wr.alloc (.cells #[.int .i64 0, .int .i64 s.n, .slice s.A s.l.length s.c] 34)) wr.heap.size 0 s := (MapKept.heap_alloc wr _).1
              have hMA := hM.below (below_one wr (.cells #[.int .i64 0, .int .i64 s.n, .slice s.A s.l.length s.c] 34))
              have hJA := hJ.below (below_one wr (.cells #[.int .i64 0, .int .i64 s.n, .slice s.A s.l.length s.c] 34))
              have hIA := hI.below (below_one wr (.cells #[.int .i64 0, .int .i64 s.n, .slice s.A s.l.length s.c] 34))
              have hbA := below_alloc hb (.cells #[.int .i64 0, .int .i64 s.n, .slice s.A s.l.length s.c] 34)
              clear hM hJ hI
              have HT := Lib.hid (take_calls m r _ s.n _ hMA (by omega))
              have hrt := rowsK_length_le (playK L0 ss i).2 1 (playK L0 ss i).2.length
              rcases takeL_cases (playK L0 ss i).2 s.n with ht | ht | ⟨l, hl, hn, ht⟩
              · rw [ht] at HT
                have hLn : Hid ((playK L0 ss i).2.length = k) := hlen
                have HLN := Lib.hid hlen; clear hlen
                have HHT := Lib.hid ht; clear ht
                clear hrt
                go_wp2_with fail
                refine HT.out.mono ?_
                rintro e wb2 ⟨Al, cl, rfl, hcl, hIl, hAl, hMb, hgb⟩
                have hJb := hJA.grown hgb (fun e => hbr (Option.some.inj e))
                have hbb := below_of_grown hbA hgb HRO.out
                clear hSA hJA hMA hIA hbA hAl hgb HT
                go_wp2
                go_loopw [14] (fun jv wz => jv = .int .i64 0 ∧ wz = wb2) (fun jv _ => 0)
                case atStart => exact ⟨rfl, rfl⟩
                case round =>
                  obtain ⟨rfl, rfl⟩ := hrel
                  have hokn := hokp.stepL s
                  unfold stepL at hokn
                  rw [if_pos hd0, HHT.out] at hokn
                  have hsum := counts_sum _ hokn
                  rw [hLn.out] at hsum
                  go_wp2_with fail
                  refine (count_calls m r _ _ hMb (by rw [hLn.out]; omega)).mono ?_
                  rintro e wc ⟨rfl, hbc⟩
                  have hMc := hMb.below hbc
                  have hJc := hJb.below hbc
                  have hbc' := below_of hbb hbc
                  go_wp2
                  go_roundw
                  case rel =>
                    refine ⟨i + 1, by omega, by go_num, ?_, ?_, hbc'⟩
                    · rw [HP.out]; unfold stepL; rw [if_pos hd0, HHT.out]; exact hJc.mono (by omega)
                    · rw [HP.out]; unfold stepL; rw [if_pos hd0, HHT.out]; exact hMc
                  case measure => simp [intOf]; omega
              · rw [ht] at HT
                have hLn : Hid ((playK L0 ss i).2.length = k) := hlen
                have HLN := Lib.hid hlen; clear hlen
                have HHT := Lib.hid ht; clear ht
                clear hrt
                go_wp2_with fail
                refine HT.out.mono ?_
                rintro e wb2 ⟨Al, cl, rfl, hcl, hIl, hAl, hMb, hgb⟩
                have hJb := hJA.grown hgb (fun e => hbr (Option.some.inj e))
                have hbb := below_of_grown hbA hgb HRO.out
                clear hSA hJA hMA hIA hbA hAl hgb HT
                go_wp2
                go_loopw [14] (fun jv wz => jv = .int .i64 0 ∧ wz = wb2) (fun jv _ => 0)
                case atStart => exact ⟨rfl, rfl⟩
                case round =>
                  obtain ⟨rfl, rfl⟩ := hrel
                  have hokn := hokp.stepL s
                  unfold stepL at hokn
                  rw [if_pos hd0, HHT.out] at hokn
                  have hsum := counts_sum _ hokn
                  rw [hLn.out] at hsum
                  go_wp2_with fail
                  refine (count_calls m r _ _ hMb (by rw [hLn.out]; omega)).mono ?_
                  rintro e wc ⟨rfl, hbc⟩
                  have hMc := hMb.below hbc
                  have hJc := hJb.below hbc
                  have hbc' := below_of hbb hbc
                  go_wp2
                  go_roundw
                  case rel =>
                    refine ⟨i + 1, by omega, by go_num, ?_, ?_, hbc'⟩
                    · rw [HP.out]; unfold stepL; rw [if_pos hd0, HHT.out]; exact hJc.mono (by omega)
                    · rw [HP.out]; unfold stepL; rw [if_pos hd0, HHT.out]; exact hMc
                  case measure => simp [intOf]; omega
              · rw [ht] at HT
                have hll : l.length ≤ k := by rw [hl, List.length_take]; unfold rowsL; omega
                have hLn : Hid ((setAll (playK L0 ss i).2 l 2).length = k) := by show _ = _; rw [setAll_length, hlen]
                have HT2 := Lib.hid (take_free (playK L0 ss i).2 s.n.toNat)
                rw [← hl] at HT2
                have HLN := Lib.hid hlen; clear hlen
                have HHT := Lib.hid ht; clear ht
                have HHL := Lib.hid hl; clear hl
                have hcs := hSA.c1
                rw [hn] at hcs
                have HHN := Lib.hid hn; clear hn
                clear hrt
                go_wp2_with fail
                refine HT.out.mono ?_
                rintro e wb2 ⟨Al, cl, rfl, hcl, hIl, hAl, hMb, hgb⟩
                have hSb := hSA.grown hgb (fun e => HSR.out (Option.some.inj e))
                have hJb := hJA.grown hgb (fun e => hbr (Option.some.inj e))
                have hbb := below_of_grown hbA hgb HRO.out
                have HAl : Hid (∀ ad, Al = some ad → some ad.block ≠ some w2.heap.size) := fun ad h e => by
                  have h1 := hAl ad h
                  have h2 := Option.some.inj e
                  have h3 := hJA.lt
                  omega
                have hcb := hSb.c1
                rw [HHN.out] at hcb
                clear hSA hJA hMA hIA hbA hAl hgb hcs HT
                go_wp2
                go_loopw [14] (fun jv wz => ∃ q : Nat, q ≤ l.length ∧ jv = .int .i64 q ∧ IsAt wz w2.heap.size (200 + 200 * i + q) (setAll (playK L0 ss i).2 (l.take q) 2) ∧ MapAt wz m r (setAll (playK L0 ss i).2 l 2) ∧ IntsAt wz Al l ∧ Below w.heap.size w wz) (fun jv _ => l.length - (intOf jv).toNat)
                case atStart => exact ⟨0, by omega, rfl, hJb, hMb, hIl, hbb⟩
                case round =>
                  obtain ⟨q, hq, rfl, hJq, hMq, hIq, hbq⟩ := hrel
                  by_cases hql : q < l.length
                  · obtain ⟨ad', hae, _, hcx⟩ := hIq.at_ hql
                    obtain ⟨hy, hx0, hx1⟩ := HT2.out q hql
                    obtain ⟨xx, hx⟩ : ∃ xx, xx = l[q] := ⟨_, rfl⟩
                    rw [← hx] at hcx hy hx0 hx1
                    obtain ⟨j, rfl⟩ := Int.eq_ofNat_of_zero_le hx0
                    rw [Int.toNat_natCast] at hy
                    subst hae
                    have HX := Lib.hid hx
                    have HY := Lib.hid hy
                    have hj4 : j < k := by have := HLN.out; omega
                    clear hx hy hx0 hx1
                    go_wp2_with (first | (at_lookup; refine IsAt.find hJq rfl _ _ rfl rfl j rfl (wf_nat j (by omega)) 1 HY.out ?_) | (at_mapUpdate; refine IsAt.store hJq rfl _ _ _ rfl rfl j rfl (wf_nat j (by omega)) 2 rfl (by decide) (by unfold maxLen; omega) ?_; intro wn hJn hgn))
                    go_roundw
                    case rel =>
                      refine ⟨q + 1, by omega, by go_num, hJn _ (fun i' z hz => ?_), hMq.grown hgn (fun e => hbm (Option.some.inj e).symm) (fun e => hbr (Option.some.inj e).symm), hIq.grown hgn HAl.out, below_of_grown hbq hgn (fun g e => by cases e; exact hwB)⟩
                      rw [List.take_succ_eq_append_getElem hql, setAll_snoc, ← HX.out, Int.toNat_natCast] at hz
                      split
                      · rename_i he; subst he
                        rw [List.getElem?_set_self (by rw [setAll_length]; have := HLN.out; omega)] at hz
                        exact (Option.some.inj hz).symm
                      · rename_i he
                        rw [List.getElem?_set_ne (Ne.symm he)] at hz
                        exact hz
                    case measure => simp [intOf]; omega
                  · obtain rfl : q = l.length := by omega
                    rw [List.take_length] at hJq
                    have hokn := hokp.stepL s
                    unfold stepL at hokn
                    rw [if_pos hd0, HHT.out] at hokn
                    have hsum := counts_sum _ hokn
                    rw [hLn.out] at hsum
                    go_wp2_with fail
                    refine (count_calls m r _ _ hMq (by rw [hLn.out]; omega)).mono ?_
                    rintro e wc ⟨rfl, hbc⟩
                    have hMc := hMq.below hbc
                    have hJc := hJq.below hbc
                    have hbc' := below_of hbq hbc
                    go_wp2
                    go_roundw
                    case rel =>
                      refine ⟨i + 1, by omega, by go_num, ?_, ?_, hbc'⟩
                      · rw [HP.out]; unfold stepL; rw [if_pos hd0, HHT.out]; exact hJc.mono (by omega)
                      · rw [HP.out]; unfold stepL; rw [if_pos hd0, HHT.out]; exact hMc
                    case measure => simp [intOf]; omega
            · by_cases hd1 : s.doo = 1
              · skip
                have hSA : StepBlk (wr.alloc (.cells #[.int .i64 1, .int .i64 s.n, .slice s.A s.l.length s.c] 34)) wr.heap.size 1 s := (MapKept.heap_alloc wr _).1
                have hMA := hM.below (below_one wr (.cells #[.int .i64 1, .int .i64 s.n, .slice s.A s.l.length s.c] 34))
                have hJA := hJ.below (below_one wr (.cells #[.int .i64 1, .int .i64 s.n, .slice s.A s.l.length s.c] 34))
                have hIA := hI.below (below_one wr (.cells #[.int .i64 1, .int .i64 s.n, .slice s.A s.l.length s.c] 34))
                have hbA := below_alloc hb (.cells #[.int .i64 1, .int .i64 s.n, .slice s.A s.l.length s.c] 34)
                clear hM hJ hI
                have hLn : Hid ((turnL (playK L0 ss i).2 s.l 2 3 (areB (playK L0 ss i).2.length s.l)).2.length = k) := by show _ = _; rw [turnL_length, hlen]
                have HLN := Lib.hid hlen; clear hlen
                go_wp2_with (at_builtin; refine wpList_copy rfl _ rfl rfl rfl hIA (by omega) ?_)
                intro Ac cc wb1 hcc hIc hAc hbb1'
                have hbb1 := below_alloc_form hbb1'
                go_wp2_with fail
                refine (drop_calls m r _ Ac cc s.l wb1 (hMA.below hbb1) hIc h63 hcc (fun ad h e => by have := hAc ad h; omega)).mono ?_
                rintro e wb2 ⟨rfl, hMb, hgb⟩
                have hSb := (hSA.below hbb1).grown hgb (fun e => HSR.out (Option.some.inj e))
                have hJb := (hJA.below hbb1).grown hgb (fun e => hbr (Option.some.inj e))
                have hbb := below_of_grown (below_of hbA hbb1) hgb HRO.out
                clear hSA hJA hMA hIA hbA hIc hAc hbb1 hgb hcc
                have HTE := Lib.hid (turn_each (L := (playK L0 ss i).2) (l := s.l) (f := 2) (t := 3))
                obtain ⟨cd, hcd⟩ : ∃ cd, cd = (turnL (playK L0 ss i).2 s.l 2 3 (areB (playK L0 ss i).2.length s.l)).1 := ⟨_, rfl⟩
                rw [← hcd] at HTE ⊢
                by_cases hc0 : cd = 0
                · obtain ⟨hte1, hte2⟩ := HTE.out hc0
                  have HT2 := Lib.hid hte2
                  have HT1 := Lib.hid hte1
                  clear hte1 hte2 HTE hcd
                  subst hc0
                  go_wp2
                  go_loopw [15] (fun jv wz => ∃ q : Nat, q ≤ s.l.length ∧ jv = .int .i64 q ∧ IsAt wz w2.heap.size (200 + 200 * i + q) (setAll (playK L0 ss i).2 (s.l.take q) 3) ∧ MapAt wz m r (turnL (playK L0 ss i).2 s.l 2 3 (areB (playK L0 ss i).2.length s.l)).2 ∧ StepBlk wz wr.heap.size 1 s ∧ Below w.heap.size w wz) (fun jv _ => s.l.length - (intOf jv).toNat)
                  case atStart => exact ⟨0, by omega, rfl, hJb, hMb, hSb, hbb⟩
                  case round =>
                    obtain ⟨q, hq, rfl, hJq, hMq, hSq, hbq⟩ := hrel
                    have hcc2 := hSq.c2
                    have hIq := HIO.out.below hbq
                    by_cases hql : q < s.l.length
                    · obtain ⟨ad', hae, _, hcx⟩ := hIq.at_ hql
                      obtain ⟨hy, hx0, hx1⟩ := HT2.out q hql
                      obtain ⟨xx, hx⟩ : ∃ xx, xx = s.l[q] := ⟨_, rfl⟩
                      rw [← hx] at hcx hy hx0 hx1
                      obtain ⟨j, rfl⟩ := Int.eq_ofNat_of_zero_le hx0
                      rw [hae] at hcc2
                      have HAE := Lib.hid hae; clear hae
                      rw [Int.toNat_natCast] at hy
                      have HX := Lib.hid hx
                      have HY := Lib.hid hy
                      have hj4 : j < k := by have := HLN.out; omega
                      clear hx hy hx0 hx1
                      go_wp2_with (first | (at_lookup; refine IsAt.find hJq rfl _ _ rfl rfl j rfl (wf_nat j (by omega)) 2 HY.out ?_) | (at_mapUpdate; refine IsAt.store hJq rfl _ _ _ rfl rfl j rfl (wf_nat j (by omega)) 3 rfl (by decide) (by unfold maxLen; omega) ?_; intro wn hJn hgn))
                      go_roundw
                      case rel =>
                        refine ⟨q + 1, by omega, by go_num, hJn _ (fun i' z hz => ?_), hMq.grown hgn (fun e => hbm (Option.some.inj e).symm) (fun e => hbr (Option.some.inj e).symm), hSq.grown hgn (fun e => HSB.out (Option.some.inj e)), below_of_grown hbq hgn (fun g e => by cases e; exact hwB)⟩
                        rw [List.take_succ_eq_append_getElem hql, setAll_snoc, ← HX.out, Int.toNat_natCast] at hz
                        split
                        · rename_i he; subst he
                          rw [List.getElem?_set_self (by rw [setAll_length]; have := HLN.out; omega)] at hz
                          exact (Option.some.inj hz).symm
                        · rename_i he
                          rw [List.getElem?_set_ne (Ne.symm he)] at hz
                          exact hz
                      case measure => simp [intOf]; omega
                    · obtain rfl : q = s.l.length := by omega
                      rw [List.take_length, ← HT1.out] at hJq
                      have hokn := hokp.stepL s
                      unfold stepL at hokn
                      rw [if_neg hd0, if_pos hd1] at hokn
                      have hsum := counts_sum _ hokn
                      rw [hLn.out] at hsum
                      go_wp2_with fail
                      refine (count_calls m r _ _ hMq (by rw [hLn.out]; omega)).mono ?_
                      rintro e wc ⟨rfl, hbc⟩
                      have hMc := hMq.below hbc
                      have hJc := hJq.below hbc
                      have hbc' := below_of hbq hbc
                      go_wp2
                      go_roundw
                      case rel =>
                        refine ⟨i + 1, by omega, by go_num, ?_, ?_, hbc'⟩
                        · rw [HP.out]; unfold stepL; rw [if_neg hd0, if_pos hd1]; exact hJc.mono (by omega)
                        · rw [HP.out]; unfold stepL; rw [if_neg hd0, if_pos hd1]; exact hMc
                      case measure => simp [intOf]; omega
                · have hT : Hid ((turnL (playK L0 ss i).2 s.l 2 3 (areB (playK L0 ss i).2.length s.l)).2 = (playK L0 ss i).2) := by
                    show _ = _
                    unfold turnL at hcd ⊢
                    split
                    · rfl
                    · split
                      · rename_i h1 h2; rw [if_neg h1, if_pos h2] at hcd; exact absurd hcd hc0
                      · rfl
                  rw [← hT.out] at hJb
                  clear hcd HTE
                  have hokn := hokp.stepL s
                  unfold stepL at hokn
                  rw [if_neg hd0, if_pos hd1] at hokn
                  have hsum := counts_sum _ hokn
                  rw [hLn.out] at hsum
                  go_wp2_with fail
                  refine (count_calls m r _ _ hMb (by rw [hLn.out]; omega)).mono ?_
                  rintro e wc ⟨rfl, hbc⟩
                  have hMc := hMb.below hbc
                  have hJc := hJb.below hbc
                  have hbc' := below_of hbb hbc
                  go_wp2
                  go_roundw
                  case rel =>
                    refine ⟨i + 1, by omega, by go_num, ?_, ?_, hbc'⟩
                    · rw [HP.out]; unfold stepL; rw [if_neg hd0, if_pos hd1]; exact hJc.mono (by omega)
                    · rw [HP.out]; unfold stepL; rw [if_neg hd0, if_pos hd1]; exact hMc
                  case measure => simp [intOf]; omega
              · by_cases hd2 : s.doo = 2
                · skip
                  have hSA : StepBlk (wr.alloc (.cells #[.int .i64 2, .int .i64 s.n, .slice s.A s.l.length s.c] 34)) wr.heap.size 2 s := (MapKept.heap_alloc wr _).1
                  have hMA := hM.below (below_one wr (.cells #[.int .i64 2, .int .i64 s.n, .slice s.A s.l.length s.c] 34))
                  have hJA := hJ.below (below_one wr (.cells #[.int .i64 2, .int .i64 s.n, .slice s.A s.l.length s.c] 34))
                  have hIA := hI.below (below_one wr (.cells #[.int .i64 2, .int .i64 s.n, .slice s.A s.l.length s.c] 34))
                  have hbA := below_alloc hb (.cells #[.int .i64 2, .int .i64 s.n, .slice s.A s.l.length s.c] 34)
                  clear hM hJ hI
                  have hLn : Hid ((turnL (playK L0 ss i).2 s.l 3 1 (areB (playK L0 ss i).2.length s.l)).2.length = k) := by show _ = _; rw [turnL_length, hlen]
                  have HLN := Lib.hid hlen; clear hlen
                  go_wp2_with (at_builtin; refine wpList_copy rfl _ rfl rfl rfl hIA (by omega) ?_)
                  intro Ac cc wb1 hcc hIc hAc hbb1'
                  have hbb1 := below_alloc_form hbb1'
                  go_wp2_with fail
                  refine (clear_calls m r _ Ac cc s.l wb1 (hMA.below hbb1) hIc h63 hcc (fun ad h e => by have := hAc ad h; omega)).mono ?_
                  rintro e wb2 ⟨rfl, hMb, hgb⟩
                  have hSb := (hSA.below hbb1).grown hgb (fun e => HSR.out (Option.some.inj e))
                  have hJb := (hJA.below hbb1).grown hgb (fun e => hbr (Option.some.inj e))
                  have hbb := below_of_grown (below_of hbA hbb1) hgb HRO.out
                  clear hSA hJA hMA hIA hbA hIc hAc hbb1 hgb hcc
                  have HTE := Lib.hid (turn_each (L := (playK L0 ss i).2) (l := s.l) (f := 3) (t := 1))
                  obtain ⟨cd, hcd⟩ : ∃ cd, cd = (turnL (playK L0 ss i).2 s.l 3 1 (areB (playK L0 ss i).2.length s.l)).1 := ⟨_, rfl⟩
                  rw [← hcd] at HTE ⊢
                  by_cases hc0 : cd = 0
                  · obtain ⟨hte1, hte2⟩ := HTE.out hc0
                    have HT2 := Lib.hid hte2
                    have HT1 := Lib.hid hte1
                    clear hte1 hte2 HTE hcd
                    subst hc0
                    go_wp2
                    go_loopw [16] (fun jv wz => ∃ q : Nat, q ≤ s.l.length ∧ jv = .int .i64 q ∧ IsAt wz w2.heap.size (200 + 200 * i + q) (setAll (playK L0 ss i).2 (s.l.take q) 1) ∧ MapAt wz m r (turnL (playK L0 ss i).2 s.l 3 1 (areB (playK L0 ss i).2.length s.l)).2 ∧ StepBlk wz wr.heap.size 2 s ∧ Below w.heap.size w wz) (fun jv _ => s.l.length - (intOf jv).toNat)
                    case atStart => exact ⟨0, by omega, rfl, hJb, hMb, hSb, hbb⟩
                    case round =>
                      obtain ⟨q, hq, rfl, hJq, hMq, hSq, hbq⟩ := hrel
                      have hcc2 := hSq.c2
                      have hIq := HIO.out.below hbq
                      by_cases hql : q < s.l.length
                      · obtain ⟨ad', hae, _, hcx⟩ := hIq.at_ hql
                        obtain ⟨hy, hx0, hx1⟩ := HT2.out q hql
                        obtain ⟨xx, hx⟩ : ∃ xx, xx = s.l[q] := ⟨_, rfl⟩
                        rw [← hx] at hcx hy hx0 hx1
                        obtain ⟨j, rfl⟩ := Int.eq_ofNat_of_zero_le hx0
                        rw [hae] at hcc2
                        have HAE := Lib.hid hae; clear hae
                        rw [Int.toNat_natCast] at hy
                        have HX := Lib.hid hx
                        have HY := Lib.hid hy
                        have hj4 : j < k := by have := HLN.out; omega
                        clear hx hy hx0 hx1
                        go_wp2_with (first | (at_lookup; refine IsAt.find hJq rfl _ _ rfl rfl j rfl (wf_nat j (by omega)) 3 HY.out ?_) | (at_mapUpdate; refine IsAt.store hJq rfl _ _ _ rfl rfl j rfl (wf_nat j (by omega)) 1 rfl (by decide) (by unfold maxLen; omega) ?_; intro wn hJn hgn))
                        go_roundw
                        case rel =>
                          refine ⟨q + 1, by omega, by go_num, hJn _ (fun i' z hz => ?_), hMq.grown hgn (fun e => hbm (Option.some.inj e).symm) (fun e => hbr (Option.some.inj e).symm), hSq.grown hgn (fun e => HSB.out (Option.some.inj e)), below_of_grown hbq hgn (fun g e => by cases e; exact hwB)⟩
                          rw [List.take_succ_eq_append_getElem hql, setAll_snoc, ← HX.out, Int.toNat_natCast] at hz
                          split
                          · rename_i he; subst he
                            rw [List.getElem?_set_self (by rw [setAll_length]; have := HLN.out; omega)] at hz
                            exact (Option.some.inj hz).symm
                          · rename_i he
                            rw [List.getElem?_set_ne (Ne.symm he)] at hz
                            exact hz
                        case measure => simp [intOf]; omega
                      · obtain rfl : q = s.l.length := by omega
                        rw [List.take_length, ← HT1.out] at hJq
                        have hokn := hokp.stepL s
                        unfold stepL at hokn
                        rw [if_neg hd0, if_neg hd1, if_pos hd2] at hokn
                        have hsum := counts_sum _ hokn
                        rw [hLn.out] at hsum
                        go_wp2_with fail
                        refine (count_calls m r _ _ hMq (by rw [hLn.out]; omega)).mono ?_
                        rintro e wc ⟨rfl, hbc⟩
                        have hMc := hMq.below hbc
                        have hJc := hJq.below hbc
                        have hbc' := below_of hbq hbc
                        go_wp2
                        go_roundw
                        case rel =>
                          refine ⟨i + 1, by omega, by go_num, ?_, ?_, hbc'⟩
                          · rw [HP.out]; unfold stepL; rw [if_neg hd0, if_neg hd1, if_pos hd2]; exact hJc.mono (by omega)
                          · rw [HP.out]; unfold stepL; rw [if_neg hd0, if_neg hd1, if_pos hd2]; exact hMc
                        case measure => simp [intOf]; omega
                  · have hT : Hid ((turnL (playK L0 ss i).2 s.l 3 1 (areB (playK L0 ss i).2.length s.l)).2 = (playK L0 ss i).2) := by
                      show _ = _
                      unfold turnL at hcd ⊢
                      split
                      · rfl
                      · split
                        · rename_i h1 h2; rw [if_neg h1, if_pos h2] at hcd; exact absurd hcd hc0
                        · rfl
                    rw [← hT.out] at hJb
                    clear hcd HTE
                    have hokn := hokp.stepL s
                    unfold stepL at hokn
                    rw [if_neg hd0, if_neg hd1, if_pos hd2] at hokn
                    have hsum := counts_sum _ hokn
                    rw [hLn.out] at hsum
                    go_wp2_with fail
                    refine (count_calls m r _ _ hMb (by rw [hLn.out]; omega)).mono ?_
                    rintro e wc ⟨rfl, hbc⟩
                    have hMc := hMb.below hbc
                    have hJc := hJb.below hbc
                    have hbc' := below_of hbb hbc
                    go_wp2
                    go_roundw
                    case rel =>
                      refine ⟨i + 1, by omega, by go_num, ?_, ?_, hbc'⟩
                      · rw [HP.out]; unfold stepL; rw [if_neg hd0, if_neg hd1, if_pos hd2]; exact hJc.mono (by omega)
                      · rw [HP.out]; unfold stepL; rw [if_neg hd0, if_neg hd1, if_pos hd2]; exact hMc
                    case measure => simp [intOf]; omega
                · skip
                  have hSA : StepBlk (wr.alloc (.cells #[.int .i64 s.doo, .int .i64 s.n, .slice s.A s.l.length s.c] 34)) wr.heap.size s.doo s := (MapKept.heap_alloc wr _).1
                  have hMA := hM.below (below_one wr (.cells #[.int .i64 s.doo, .int .i64 s.n, .slice s.A s.l.length s.c] 34))
                  have hJA := hJ.below (below_one wr (.cells #[.int .i64 s.doo, .int .i64 s.n, .slice s.A s.l.length s.c] 34))
                  have hIA := hI.below (below_one wr (.cells #[.int .i64 s.doo, .int .i64 s.n, .slice s.A s.l.length s.c] 34))
                  have hbA := below_alloc hb (.cells #[.int .i64 s.doo, .int .i64 s.n, .slice s.A s.l.length s.c] 34)
                  clear hM hJ hI
                  have hLn : Hid ((playK L0 ss i).2.length = k) := hlen
                  have HLN := Lib.hid hlen; clear hlen
                  have hokn := hokp.stepL s
                  unfold stepL at hokn
                  rw [if_neg hd0, if_neg hd1, if_neg hd2] at hokn
                  have hsum := counts_sum _ hokn
                  rw [hLn.out] at hsum
                  go_wp2_with fail
                  refine (count_calls m r _ _ hMA (by rw [hLn.out]; omega)).mono ?_
                  rintro e wc ⟨rfl, hbc⟩
                  have hMc := hMA.below hbc
                  have hJc := hJA.below hbc
                  have hbc' := below_of hbA hbc
                  go_wp2
                  go_roundw
                  case rel =>
                    refine ⟨i + 1, by omega, by go_num, ?_, ?_, hbc'⟩
                    · rw [HP.out]; unfold stepL; rw [if_neg hd0, if_neg hd1, if_neg hd2]; exact hJc.mono (by omega)
                    · rw [HP.out]; unfold stepL; rw [if_neg hd0, if_neg hd1, if_neg hd2]; exact hMc
                  case measure => simp [intOf]; omega
          · obtain rfl : i = ss.length := by omega
            obtain ⟨L', hL'⟩ : ∃ L', L' = (playK L0 ss ss.length).2 := ⟨_, rfl⟩
            rw [← hL'] at hJ hM hlen
            have HLN := Lib.hid hlen
            clear hL' hlen hokp hsr HOK0 HLEN
            go_wp2
            go_loopw [20] (fun iv wr => ∃ q : Nat, q ≤ k ∧ iv = .int .i64 q ∧ IsAt wr w2.heap.size (200 + 200 * ss.length) L' ∧ MapAt wr m r L' ∧ Below w.heap.size w wr) (fun iv _ => k - (intOf iv).toNat)
            case atStart => exact ⟨0, by omega, rfl, hJ, hM, hb⟩
            case round =>
              obtain ⟨q, hq, rfl, hJ, hM, hb⟩ := hrel
              by_cases hql : q < k
              · have hq2 : q < L'.length := by have := HLN.out; omega
                obtain ⟨y, hy⟩ : ∃ y, y = L'[q] := ⟨_, rfl⟩
                have HY := Lib.hid (show L'[q]? = some y by rw [hy]; exact List.getElem?_eq_getElem hq2)
                have hof : ofL L' (q : Int) = y := by
                  have hok : okRow L'.length (q : Int) = true := by simp [okRow]; omega
                  rw [hy]
                  simp [ofL, hok, List.getD, hq2]
                have HO := Lib.hid (fun wz (h : MapAt wz m r L') => of_calls m r L' (q : Int) wz h)
                simp only [hof] at HO
                clear hof hy hq2
                have hr0 := hJ.drew.run q (wf_nat q (by omega)) y HY.out
                go_wp2
                go_region_held3 (fun w' => (Instr.lookup 50 (.map (some w2.heap.size)) (.int .i64 (q : Int)) false).run Try.prog w' = .ok (.int .u8 y) w') (first | exact hr0 | exact hr1)
                  (first | (go_at_call 21; refine (HO.out _ (hM.below (below_drew (Below.refl _ _)))).mono ?_; rintro e wy ⟨rfl, hby⟩; have hr1 := (hJ.below (below_of_drew hby)).run q (wf_nat q (by omega)) y HY.out))
                all_goals
                  go_wp2
                  go_roundw
                  case rel => exact ⟨q + 1, by omega, by go_num, hJ.below (below_of_drew hby), hM.below (below_of_drew hby), below_of hb (below_of_drew hby)⟩
                  case measure => simp [intOf]; omega
              · obtain rfl : q = k := by omega
                go_wp2_with fail
                refine (HW.out _).mono ?_
                rintro e wy ⟨rfl, hby⟩
                go_wp2
                go_ret
                exact ⟨rfl, below_of hb hby⟩
  · go_wp2_with fail
    refine (HW.out _).mono ?_
    rintro e w1 ⟨rfl, hbw⟩
    go_wp2
    go_ret
    exact ⟨rfl, hbw⟩

end Go.Proofs.Ytnmnecjelpglhaa.Alloc
