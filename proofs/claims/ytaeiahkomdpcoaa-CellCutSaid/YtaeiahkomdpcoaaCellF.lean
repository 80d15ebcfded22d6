/- The walk of package cell's body. -/
import Derived.Test.YtaeiahkomdpcoaaCellE
import Derived.Deep.RegionHeld3
namespace Go.Proofs.Ytaeiahkomdpcoaa.Cell
open Go.RowKit Go.Proofs.Ytaeiahkomdpcoaa.Num Go.Proofs.Ytaeiahkomdpcoaa.Wire

theorem listAt_lit (w : World) (vs : List Value) (t : TypeId) : ListAt (w.alloc (.cells vs.toArray t)) (some ⟨w.heap.size, 0, none⟩) vs := fun _ => by
  refine ⟨_, rfl, by simp, fun i v hv => ?_⟩
  have hb := (MapKept.heap_alloc w (.cells vs.toArray t)).1
  have e : (⟨w.heap.size, 0, none⟩ : Addr).add i = ⟨w.heap.size, i, none⟩ := by unfold Addr.add; split <;> simp_all
  rw [e, Joins.cell_of_block hb]
  simpa using hv
/-- A body in a block. -/
def BRow (w : World) (b : Nat) (l : Int) (i : ByteArray) (A : Option Addr) (n cp : Nat) : Prop := w.heap[b]? = some (.cells #[.int .i64 l, .string i, .slice A n cp] 48 (0, 0))
section
variable {w w' : World} {b : Nat} {l : Int} {i : ByteArray} {A : Option Addr} {n cp : Nat}
theorem BRow.lt (h : BRow w b l i A n cp) : b < w.heap.size := (Array.getElem?_eq_some_iff.1 h).1
theorem BRow.below (h : BRow w b l i A n cp) (hb : Below w.heap.size w w') : BRow w' b l i A n cp := (hb.block _ h.lt).trans h
theorem BRow.drew (h : BRow w b l i A n cp) : BRow w.drew b l i A n cp := h
theorem BRow.c (h : BRow w b l i A n cp) : w.cell? ⟨b, 0, none⟩ = some (.int .i64 l) ∧ w.cell? ⟨b, 1, none⟩ = some (.string i) ∧ w.cell? ⟨b, 2, none⟩ = some (.slice A n cp) := by
  refine ⟨?_, ?_, ?_⟩ <;> (rw [Joins.cell_of_block h]; rfl)
end
theorem pcsW_snoc (ps : List Piece) (p : Piece) : pcsW (ps ++ [p]) = pcsW ps ++ pcW p := by
  induction ps with
  | nil => simp [pcsW]
  | cons q ps ih => simp [pcsW, ih]
theorem pcW_len (p : Piece) : (pcW p).length ≤ 27 := numsW_len _
theorem pcsW_len (ps : List Piece) : (pcsW ps).length ≤ 27 * ps.length := by
  induction ps with
  | nil => simp [pcsW]
  | cons p ps ih =>
    have := pcW_len p
    simp only [pcsW, List.length_append, List.length_cons]; omega
theorem sumOk_all : ∀ (ps : List Piece) (left : Int), left ≤ 32768 → sumOk left ps = true → ∀ p ∈ ps, 0 ≤ p.row ∧ p.row < 4096 ∧ p.stamp ≤ big ∧ 1 ≤ p.len ∧ p.len ≤ 32768
  | [], _, _, _, p, hp => by simp at hp
  | q :: ps, left, hl, h, p, hp => by
    unfold sumOk pcOk at h
    simp only [Bool.and_eq_true, decide_eq_true_eq] at h
    rcases List.mem_cons.1 hp with rfl | hp
    · exact ⟨h.1.1.1.1, h.1.1.1.2, h.1.1.2, h.1.2.1, by omega⟩
    · exact sumOk_all ps _ (by omega) h.2 p hp
theorem mayBody_facts {b : Body} (h : mayBody b = true) : (0 ≤ b.len ∧ b.len ≤ 32768) ∧ b.inl.size ≤ 64 ∧ b.pcs.length ≤ 512 ∧ ∀ p ∈ b.pcs, 0 ≤ p.row ∧ p.row < 4096 ∧ p.stamp ≤ big ∧ 1 ≤ p.len ∧ p.len ≤ 32768 := by
  unfold mayBody at h
  simp only [Bool.and_eq_true, decide_eq_true_eq] at h
  obtain ⟨h1, h2⟩ := h
  split at h2
  · rename_i h0
    simp only [Bool.and_eq_true, decide_eq_true_eq] at h2
    have hp : b.pcs = [] := List.eq_nil_of_length_eq_zero h0
    exact ⟨h1, by omega, by omega, by rw [hp]; intro p hp; simp at hp⟩
  · simp only [Bool.and_eq_true, decide_eq_true_eq] at h2
    exact ⟨h1, by rw [h2.1.1]; decide, h2.1.2, sumOk_all _ _ h1.2 h2.2⟩

set_option maxHeartbeats 3200000 in
set_option maxRecDepth 100000 in
theorem body_calls (L : Nat) (inl : ByteArray) (A : Option Addr) (cp : Nat) (ps : List Piece) (w : World) (hP : PcsAt w A ps) (hm : mayBody ⟨(L : Int), inl, ps⟩ = true) :
    Calls Try.prog 44 #[.agg #[.int .i64 (L : Int), .string inl, .slice A ps.length cp]] w fun e w' => e = .returned (.string (bs (bodyW ⟨(L : Int), inl, ps⟩))) ∧ Below w.heap.size w w' := by
  obtain ⟨⟨_, hL⟩, hi, hn, hall⟩ := mayBody_facts hm
  simp only at hL hi hn hall
  have hb1 := below_one w (.cells #[.int .i64 (L : Int), .string inl, .slice A ps.length cp] 48)
  have hR : BRow (w.alloc (.cells #[.int .i64 (L : Int), .string inl, .slice A ps.length cp] 48)) w.heap.size (L : Int) inl A ps.length cp := (MapKept.heap_alloc w _).1
  have hP1 := hP.below hb1
  have hLw : IntKind.u64.wrap (L : Int) = (L : Int) := IntWalk.u64_in _ (by omega)
  have hnw : IntKind.u64.wrap (ps.length : Int) = (ps.length : Int) := IntWalk.u64_in _ (by omega)
  have H1 : Hid (∀ (x : Nat), x < 18446744073709551616 → ∀ W : World, Calls Try.prog 11 #[.slice (some ⟨W.heap.size, 0, none⟩) 1 1] (W.alloc (.cells #[.int .u64 (x : Int)] 26)) fun e w' => e = .returned (.string (bs (numsW [x]))) ∧ Below (W.alloc (.cells #[.int .u64 (x : Int)] 26)).heap.size (W.alloc (.cells #[.int .u64 (x : Int)] 26)) w') := fun x hx W =>
    nums_calls (some ⟨W.heap.size, 0, none⟩) 1 [x] _ (listAt_lit W [.int .u64 (x : Int)] 26) (by simpa using hx) (by simp)
  have H1d : Hid (∀ (x : Nat), x < 18446744073709551616 → ∀ W : World, Calls Try.prog 11 #[.slice (some ⟨W.heap.size, 0, none⟩) 1 1] (W.alloc (.cells #[.int .u64 (x : Int)] 26)).drew fun e w' => e = .returned (.string (bs (numsW [x]))) ∧ Below (W.alloc (.cells #[.int .u64 (x : Int)] 26)).drew.heap.size (W.alloc (.cells #[.int .u64 (x : Int)] 26)).drew w') := fun x hx W =>
    nums_calls (some ⟨W.heap.size, 0, none⟩) 1 [x] _ (listAt_lit W [.int .u64 (x : Int)] 26) (by simpa using hx) (by simp)
  obtain ⟨out, qo⟩ : ∃ x, x = bs (bodyW ⟨(L : Int), inl, ps⟩) := ⟨_, rfl⟩
  rw [← qo]
  have QO := Lib.hid qo
  have HALL := Lib.hid hall
  clear hm hP qo hall
  go_enter Try.func44, Try.ntmps44
  go_upto_region 1 with fail
  go_cut [3] from 6 (fun s3 wx => s3 = .string (bs (numsW [L]) ++ bs (boolW (decide (0 < ps.length)))) ∧ BRow wx w.heap.size (L : Int) inl A ps.length cp ∧ PcsAt wx A ps ∧ Below w.heap.size w wx)
  case first =>
    have hLt : L < 18446744073709551616 := by omega
    have HN := Lib.hid (H1d.out L hLt)
    clear HALL QO H1 H1d hnw hLt hi hn
    generalize w.alloc (.cells #[.int .i64 (L : Int), .string inl, .slice A ps.length cp] 48) = W1 at hR hP1 hb1 ⊢
    have hb2 := below_drew (below_alloc hb1 (.cells #[.int .u64 (L : Int)] 26))
    have hR2 : BRow (W1.alloc (.cells #[.int .u64 (L : Int)] 26)).drew w.heap.size (L : Int) inl A ps.length cp := (hR.below (below_one W1 _)).drew
    have hP2 : PcsAt (W1.alloc (.cells #[.int .u64 (L : Int)] 26)).drew A ps := hP1.below (below_drew (below_one W1 (.cells #[.int .u64 (L : Int)] 26)))
    have K0 := Lib.hid (And.intro hR.c.1 hR.c.2.2)
    have K1 := Lib.hid (And.intro hR2.c.1 hR2.c.2.2)
    have hsz : (bs (numsW [L])).size ≤ 9 := by rw [bs_size]; exact numsW_len [L]
    obtain ⟨S1, q1⟩ : ∃ x, x = bs (numsW [L]) := ⟨_, rfl⟩
    obtain ⟨S2, q2⟩ : ∃ x, x = bs (boolW (decide (0 < ps.length))) := ⟨_, rfl⟩
    have hB : Hid (∀ W, Calls Try.prog 13 #[.bool (decide (0 < ps.length))] W fun e w' => e = .returned (.string S2) ∧ Below W.heap.size W w') := fun W => by
      rw [q2]; exact bool_calls _ W
    have y2 : S2.size = 1 := by rw [q2]; rfl
    rw [← q1] at hsz HN
    have Q1 := Lib.hid q1
    have Q2 := Lib.hid q2
    have z1 : ¬ 9223372036854775807 < S1.size + S2.size := by omega
    clear q1 q2 y2 hsz hR
    go_wp2_with fail
    go_region_held3 (fun W => W.cell? ⟨w.heap.size, 0, none⟩ = some (.int .i64 (L : Int)) ∧ W.cell? ⟨w.heap.size, 2, none⟩ = some (.slice A ps.length cp)) (first | assumption | exact K0.out | exact K1.out) (first
      | (go_at_call 11; refine (HN.out _).mono ?_; rintro e w2 ⟨rfl, hb3⟩; have hR3 := hR2.below hb3; have hP3 := hP2.below hb3; have hb4 := below_of hb2 hb3; have hS3 := And.intro hR3.c.1 hR3.c.2.2)
      | (go_at_call 13; refine (hB.out _).mono ?_; rintro e w3 ⟨rfl, hb5⟩; have hR5 := hR3.below hb5; have hP5 := hP3.below hb5; have hb6 := below_of hb4 hb5; have hS5 := And.intro hR5.c.1 hR5.c.2.2))
    all_goals
      go_wp2_with fail
      go_meet
      case rel => exact ⟨by rw [Q1.out, Q2.out], hR5, hP5, hb6⟩
  case rest =>
    obtain ⟨rfl, hR1, hP2, hb2⟩ := hcut
    clear hR hP1 hb1 hLw
    obtain ⟨p0, p1, p2⟩ := hR1.c
    obtain ⟨S1, q1⟩ : ∃ x, x = bs (numsW [L]) ++ bs (boolW (decide (0 < ps.length))) := ⟨_, rfl⟩
    have y1 : S1.size ≤ 10 := by
      rw [q1, ByteArray.size_append, bs_size, bs_size]
      have h1 := numsW_len [L]
      have h2 : (boolW (decide (0 < ps.length))).length = 1 := rfl
      simp only [List.length_singleton] at h1
      omega
    have Q1 := Lib.hid q1
    rw [← q1]
    clear q1
    by_cases h0 : ps.length = 0
    · have i0 : ((ps.length : Int) == 0) = true := by rw [beq_iff_eq]; omega
      have hT : Hid (∀ W : World, Calls Try.prog 12 #[.slice (some ⟨W.heap.size, 0, none⟩) 1 1] (W.alloc (.cells #[.string inl] 9)) fun e w' => e = .returned (.string (bs (textsW [inl.data.toList]))) ∧ Below (W.alloc (.cells #[.string inl] 9)).heap.size (W.alloc (.cells #[.string inl] 9)) w') := fun W =>
        texts_calls (some ⟨W.heap.size, 0, none⟩) 1 [inl] _ (listAt_lit W [.string inl] 9) (by intro s hs; simp at hs; subst hs; omega) (by simp)
      obtain ⟨S2, q2⟩ : ∃ x, x = bs (textsW [inl.data.toList]) := ⟨_, rfl⟩
      have HO := Lib.hid (show out = S1 ++ S2 by
        rw [QO.out, Q1.out, q2, bs_append, bs_append]
        unfold bodyW
        simp only [Int.toNat_natCast]
        rw [if_pos h0])
      have y2 : S2.size ≤ 73 := by
        rw [q2, bs_size]
        have h1 := textsW_len [inl.data.toList] 64 (by intro s hs; simp at hs; subst hs; rw [size_list]; exact hi)
        simp only [List.length_singleton] at h1
        omega
      rw [← q2] at hT
      have z1 : ¬ 9223372036854775807 < S1.size + S2.size := by omega
      clear q2 y2 y1 QO Q1 HALL H1 H1d h0
      go_wp2_with fail
      refine (hT.out _).mono ?_
      rintro e w3 ⟨rfl, hb3⟩
      have hb4 := below_of (below_alloc hb2 (.cells #[.string inl] 9)) hb3
      go_wp2_with fail
      go_ret
      exact ⟨by rw [HO.out]; rfl, hb4⟩
    · have i0 : ((ps.length : Int) == 0) = false := by rw [beq_eq_false_iff_ne]; omega
      have hNn := Lib.hid (H1.out ps.length (by omega))
      obtain ⟨S2, q2⟩ : ∃ x, x = bs (numsW [ps.length]) := ⟨_, rfl⟩
      have HO := Lib.hid (show out = S1 ++ S2 ++ bs (pcsW ps) by
        rw [QO.out, Q1.out, q2, bs_append, bs_append, bs_append]
        unfold bodyW
        simp only [Int.toNat_natCast]
        rw [if_neg h0]
        simp)
      have y2 : S2.size ≤ 9 := by rw [q2, bs_size]; exact numsW_len [ps.length]
      rw [← q2] at hNn
      have z1 : ¬ 9223372036854775807 < S1.size + S2.size := by omega
      have H3 : Hid (∀ (x y z : Nat), x < 18446744073709551616 → y < 18446744073709551616 → z < 18446744073709551616 → ∀ (W : World) (g : Nat), W.heap.size = g → Calls Try.prog 11 #[.slice (some ⟨g, 0, none⟩) 3 3] (W.alloc (.cells #[.int .u64 (x : Int), .int .u64 (y : Int), .int .u64 (z : Int)] 26)) fun e w' => e = .returned (.string (bs (numsW [x, y, z]))) ∧ Below (W.alloc (.cells #[.int .u64 (x : Int), .int .u64 (y : Int), .int .u64 (z : Int)] 26)).heap.size (W.alloc (.cells #[.int .u64 (x : Int), .int .u64 (y : Int), .int .u64 (z : Int)] 26)) w') := fun x y z hx hy hz W g hg => by
        subst hg
        exact nums_calls (some ⟨W.heap.size, 0, none⟩) 3 [x, y, z] _ (listAt_lit W [.int .u64 (x : Int), .int .u64 (y : Int), .int .u64 (z : Int)] 26) (by intro t ht; simp at ht; rcases ht with rfl | rfl | rfl <;> assumption) (by simp)
      clear q2 QO Q1 H1 H1d h0
      go_wp2_with fail
      refine (hNn.out _).mono ?_
      rintro e w3 ⟨rfl, hb3⟩
      have hb4 := below_of (below_alloc hb2 (.cells #[.int .u64 (ps.length : Int)] 26)) hb3
      have hR4 := (hR1.below (below_one wc (.cells #[.int .u64 (ps.length : Int)] 26))).below hb3
      have hP4 := (hP2.below (below_one wc (.cells #[.int .u64 (ps.length : Int)] 26))).below hb3
      have hy : (S1 ++ S2).size ≤ 19 := by rw [ByteArray.size_append]; omega
      obtain ⟨S3, q3⟩ : ∃ x, x = S1 ++ S2 := ⟨_, rfl⟩
      rw [← q3] at hy HO
      have Q3 := Lib.hid q3.symm
      clear p0 p1 p2 hb3 hR1 hP2 hb2 y1 y2 q3 hNn
      obtain ⟨p0, p1, p2⟩ := hR4.c
      go_wp2_with fail
      rw [Q3.out]
      clear z1 Q3
      go_loopw [3, 38] (fun sv iv wr => ∃ (k : Nat) (S : ByteArray), k ≤ ps.length ∧ S.size ≤ 19 + 27 * k ∧ sv = .string S ∧ iv = .int .i64 (k : Int) ∧ Hid (S = S3 ++ bs (pcsW (ps.take k))) ∧ PcsAt wr A ps ∧ Below w.heap.size w wr) (fun _ iv _ => ps.length - (intOf iv).toNat)
      case atStart => exact ⟨0, S3, by omega, by omega, rfl, rfl, Lib.hid (by rw [List.take_zero]; show S3 = S3 ++ bs []; rw [show bs [] = ByteArray.empty from rfl]; simp), hP4, hb4⟩
      case round =>
        obtain ⟨k, S, hk, hS, rfl, rfl, hE, hPr, hbr⟩ := hrel
        by_cases hlt : k < ps.length
        · obtain ⟨ad, rfl, had, c0, c1, c2⟩ := hPr.at_ hlt
          have hbd := HALL.out ps[k] (List.getElem_mem hlt)
          have hT := Lib.hid (List.take_succ_eq_append_getElem hlt)
          obtain ⟨p, hp⟩ : ∃ p, p = ps[k] := ⟨_, rfl⟩
          rw [← hp] at c0 c1 c2 hbd hT
          clear hp
          obtain ⟨row, stamp, ln⟩ := p
          simp only at c0 c1 c2 hbd
          obtain ⟨r, rfl⟩ := Int.eq_ofNat_of_zero_le hbd.1
          obtain ⟨l, rfl⟩ := Int.eq_ofNat_of_zero_le (show 0 ≤ ln by omega)
          have hbg : big = 281474976710656 := rfl
          have hCall := fun W g hg => H3.out r stamp l (by omega) (by omega) (by omega) W g hg
          obtain ⟨N3, q3⟩ : ∃ x, x = bs (numsW [r, stamp, l]) := ⟨_, rfl⟩
          have HS := Lib.hid (show S ++ N3 = S3 ++ bs (pcsW (ps.take (k + 1))) by
            rw [hE.out, hT.out, pcsW_snoc, q3, ← bs_append, ← ByteArray.append_assoc]
            unfold pcW
            simp only [Int.toNat_natCast])
          have yN : N3.size ≤ 27 := by rw [q3, bs_size]; exact numsW_len [r, stamp, l]
          rw [← q3] at hCall
          have HC := Lib.hid hCall
          have z1 : ¬ 9223372036854775807 < S.size + N3.size := by omega
          have HZ := Lib.hid (show (S ++ N3).size ≤ 19 + 27 * (k + 1) by rw [ByteArray.size_append]; omega)
          have wr1 : IntKind.u64.wrap (r : Int) = (r : Int) := IntWalk.u64_in _ (by omega)
          have wl1 : IntKind.u64.wrap (l : Int) = (l : Int) := IntWalk.u64_in _ (by omega)
          have b1 := below_one wr (.cells #[.int .i64 (r : Int), .int .u64 (stamp : Int), .int .i64 (l : Int)] 75)
          have b2 := below_alloc b1 (.cells #[.int .u64 (r : Int), .int .u64 (stamp : Int), .int .u64 (l : Int)] 26)
          clear hCall q3 yN hbd hT hE hbg
          go_wp2_with fail
          refine (HC.out _ _ (by simp)).mono ?_
          rintro e w5 ⟨rfl, hb5⟩
          have b3 := below_of b2 hb5
          have hP5 := hPr.below b3
          have hb6 := below_of hbr b3
          go_wp2_with fail
          go_roundw
          case rel => exact ⟨k + 1, S ++ N3, by omega, HZ.out, rfl, by go_num, HS, hP5, hb6⟩
          case measure => simp [intOf]; omega
        · obtain rfl : k = ps.length := by omega
          have HO2 := Lib.hid (show out = S by rw [HO.out, hE.out, List.take_length])
          go_wp2_with fail
          go_ret
          exact ⟨by rw [HO2.out]; rfl, hbr⟩

end Go.Proofs.Ytaeiahkomdpcoaa.Cell
