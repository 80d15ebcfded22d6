/- The walk of package cell's Encode. -/
import Derived.Test.YtaeiahkomdpcoaaCellF
namespace Go.Proofs.Ytaeiahkomdpcoaa.Cell
open Go.RowKit Go.Proofs.Ytaeiahkomdpcoaa.Num Go.Proofs.Ytaeiahkomdpcoaa.Wire

def encV (c : Cel) : Value := if mayCB c = true then .tuple #[.string (bs (cellW c)), .int .i64 0] else .tuple #[.string ⟨#[]⟩, .int .i64 2]
theorem bodyW_len {b : Body} (h : mayBody b = true) : (bodyW b).length ≤ 14000 := by
  obtain ⟨_, h2, h3, _⟩ := mayBody_facts h
  have h4 := pcsW_len b.pcs
  have h5 := numsW_len [b.len.toNat]
  have h6 := numsW_len [b.pcs.length]
  have h7 := textsW_len [b.inl.data.toList] 64 (by intro s hs; simp at hs; subst hs; rw [size_list]; exact h2)
  unfold bodyW
  rw [List.length_append, List.length_append]
  have h8 : (boolW (decide (0 < b.pcs.length))).length = 1 := rfl
  simp only [List.length_singleton] at h5 h6 h7
  split
  · omega
  · rw [List.length_append]; omega
theorem nums_one (x : Nat) (hx : x < 18446744073709551616) (W : World) : Calls Try.prog 11 #[.slice (some ⟨W.heap.size, 0, none⟩) 1 1] (W.alloc (.cells #[.int .u64 (x : Int)] 26)) fun e w' => e = .returned (.string (bs (numsW [x]))) ∧ Below (W.alloc (.cells #[.int .u64 (x : Int)] 26)).heap.size (W.alloc (.cells #[.int .u64 (x : Int)] 26)) w' :=
  nums_calls (some ⟨W.heap.size, 0, none⟩) 1 [x] _ (listAt_lit W [.int .u64 (x : Int)] 26) (by simpa using hx) (by simp)
theorem texts_one (s : ByteArray) (hs : s.size ≤ 4096) (W : World) : Calls Try.prog 12 #[.slice (some ⟨W.heap.size, 0, none⟩) 1 1] (W.alloc (.cells #[.string s] 9)) fun e w' => e = .returned (.string (bs (textsW [s.data.toList]))) ∧ Below (W.alloc (.cells #[.string s] 9)).heap.size (W.alloc (.cells #[.string s] 9)) w' :=
  texts_calls (some ⟨W.heap.size, 0, none⟩) 1 [s] _ (listAt_lit W [.string s] 9) (by intro t ht; simp at ht; subst ht; exact hs) (by simp)

set_option maxHeartbeats 3200000 in
set_option maxRecDepth 100000 in
theorem encode_calls (c : Cel) (A : Option Addr) (cp : Nat) (w : World) (hP : PcsAt w A c.body.pcs) (hl : c.body.pcs.length ≤ 100000) (hk : c.kind < 256) :
    Calls Try.prog 25 #[.agg (cvs c A cp)] w fun e w' => e = .returned (encV c) ∧ Below w.heap.size w w' := by
  have b0 := below_one w (.cells (cvs c A cp) 50)
  have R0 := row_new w (cvs c A cp)
  have P0 := hP.below b0
  have HM := fun (W : World) (h : PcsAt W A c.body.pcs) => mayC_calls c A cp W h hl hk
  unfold encV
  cases hm : mayCB c
  · rw [if_neg (by decide)]
    rw [hm] at HM
    have HM1 := Lib.hid (HM _ P0)
    obtain ⟨ck, cn, cg, cm, ⟨cl, ci, cps⟩⟩ := c
    unfold cvs at HM1 b0 R0 ⊢
    simp only at HM1 b0 R0 ⊢
    clear hm HM hP hl hk P0
    obtain ⟨p0, p1, p2, p3, p4, p5, p6⟩ := R0.c
    go_enter Try.func25, Try.ntmps25
    go_wp2_with fail
    refine HM1.out.mono ?_
    rintro e w2 ⟨rfl, hb2⟩
    go_wp2_with fail
    go_ret2
    exact ⟨rfl, below_of b0 hb2⟩
  rw [if_pos rfl]
  rw [hm] at HM
  obtain ⟨⟨k1, k6⟩, hh, hn, hnm, hb⟩ := (mayCB_iff c).1 hm
  have hbf := mayBody_facts hb
  have hBl := bodyW_len hb
  have HM1 := Lib.hid (HM _ P0)
  have HBo := fun (L : Nat) (hL : c.body.len = (L : Int)) (W : World) (h : PcsAt W A c.body.pcs) => body_calls L c.body.inl A cp c.body.pcs W h (by rw [← hL]; exact hb)
  obtain ⟨out, qo⟩ : ∃ x, x = bs (cellW c) := ⟨_, rfl⟩
  rw [← qo]
  unfold cellW at qo
  obtain ⟨ck, cn, cg, cm, ⟨cl, ci, cps⟩⟩ := c
  simp only at k1 k6 hn hnm hbf hBl HBo qo P0
  obtain ⟨L, rfl⟩ := Int.eq_ofNat_of_zero_le hbf.1.1
  have HBo2 := Lib.hid (HBo L rfl)
  unfold cvs at HM1 b0 R0 P0 ⊢
  simp only at HM1 b0 R0 P0 ⊢
  have hbg : big = 281474976710656 := rfl
  have hN1 := Lib.hid (nums_one ck (by omega))
  have hN2 := Lib.hid (nums_one cn (by omega))
  have hT1 := Lib.hid (texts_one cm (by omega))
  have QO := Lib.hid qo
  have hkw : IntKind.u64.wrap (ck : Int) = (ck : Int) := IntWalk.u64_in _ (by omega)
  clear hm HM hP hl hk hh hb hbf HBo qo
  obtain ⟨p0, p1, p2, p3, p4, p5, p6⟩ := R0.c
  go_enter Try.func25, Try.ntmps25
  go_wp2_with fail
  refine HM1.out.mono ?_
  rintro e w2 ⟨rfl, hb2⟩
  have R2 := R0.below hb2
  have P2 := P0.below hb2
  have b2 := below_of b0 hb2
  clear p0 p1 p2 p3 p4 p5 p6 R0 P0 b0 hb2 HM1
  obtain ⟨p0, p1, p2, p3, p4, p5, p6⟩ := R2.c
  go_wp2_with fail
  refine (hN1.out _).mono ?_
  rintro e w3 ⟨rfl, hb3⟩
  have b3 := below_of (below_alloc b2 (.cells #[.int .u64 (ck : Int)] 26)) hb3
  have R3 := (R2.below (below_one w2 (.cells #[.int .u64 (ck : Int)] 26))).below hb3
  have P3 := (P2.below (below_one w2 (.cells #[.int .u64 (ck : Int)] 26))).below hb3
  clear p0 p1 p2 p3 p4 p5 p6 R2 P2 b2 hb3 hN1
  obtain ⟨p0, p1, p2, p3, p4, p5, p6⟩ := R3.c
  obtain ⟨S1, q1⟩ : ∃ x, x = bs (numsW [ck]) := ⟨_, rfl⟩
  have y1 : S1.size ≤ 9 := by rw [q1, bs_size]; exact numsW_len [ck]
  have Q1 := Lib.hid q1
  rw [← q1]
  clear q1
  have hk : ck = 1 ∨ ck = 2 ∨ ck = 6 ∨ ck = 4 ∨ ck = 5 ∨ ck = 3 := by omega
  rcases hk with rfl | rfl | rfl | rfl | rfl | rfl
  · obtain ⟨S2, q2⟩ : ∃ x, x = bs (numsW [cn]) := ⟨_, rfl⟩
    have y2 : S2.size ≤ 9 := by rw [q2, bs_size]; exact numsW_len [cn]
    have HO := Lib.hid (show out = S1 ++ S2 by rw [QO.out, Q1.out, q2, bs_append]; rfl)
    rw [← q2] at hN2
    have z1 : ¬ 9223372036854775807 < S1.size + S2.size := by omega
    clear q2 y1 y2 QO Q1 HBo2 hT1 hBl
    go_wp2_with fail
    refine (hN2.out _).mono ?_
    rintro e w4 ⟨rfl, hb4⟩
    have b4 := below_of (below_alloc b3 (.cells #[.int .u64 (cn : Int)] 26)) hb4
    go_wp2_with fail
    go_ret2
    exact ⟨by rw [HO.out]; rfl, b4⟩
  · obtain ⟨S2, q2⟩ : ∃ x, x = bs (numsW [cn]) := ⟨_, rfl⟩
    have y2 : S2.size ≤ 9 := by rw [q2, bs_size]; exact numsW_len [cn]
    have HO := Lib.hid (show out = S1 ++ S2 by rw [QO.out, Q1.out, q2, bs_append]; rfl)
    rw [← q2] at hN2
    have z1 : ¬ 9223372036854775807 < S1.size + S2.size := by omega
    clear q2 y1 y2 QO Q1 HBo2 hT1 hBl
    go_wp2_with fail
    refine (hN2.out _).mono ?_
    rintro e w4 ⟨rfl, hb4⟩
    have b4 := below_of (below_alloc b3 (.cells #[.int .u64 (cn : Int)] 26)) hb4
    go_wp2_with fail
    go_ret2
    exact ⟨by rw [HO.out]; rfl, b4⟩
  · obtain ⟨S2, q2⟩ : ∃ x, x = bs (numsW [cn]) := ⟨_, rfl⟩
    have y2 : S2.size ≤ 9 := by rw [q2, bs_size]; exact numsW_len [cn]
    have HO := Lib.hid (show out = S1 ++ S2 by rw [QO.out, Q1.out, q2, bs_append]; rfl)
    rw [← q2] at hN2
    have z1 : ¬ 9223372036854775807 < S1.size + S2.size := by omega
    clear q2 y1 y2 QO Q1 HBo2 hT1 hBl
    go_wp2_with fail
    refine (hN2.out _).mono ?_
    rintro e w4 ⟨rfl, hb4⟩
    have b4 := below_of (below_alloc b3 (.cells #[.int .u64 (cn : Int)] 26)) hb4
    go_wp2_with fail
    go_ret2
    exact ⟨by rw [HO.out]; rfl, b4⟩
  · obtain ⟨S2, q2⟩ : ∃ x, x = bs (textsW [cm.data.toList]) := ⟨_, rfl⟩
    have y2 : S2.size ≤ 300 := by
      rw [q2, bs_size]
      have := textsW_len [cm.data.toList] 200 (by intro s hs; simp at hs; subst hs; rw [size_list]; exact hnm)
      simp only [List.length_singleton] at this
      omega
    have HO := Lib.hid (show out = S1 ++ S2 by rw [QO.out, Q1.out, q2, bs_append]; rfl)
    rw [← q2] at hT1
    have z1 : ¬ 9223372036854775807 < S1.size + S2.size := by omega
    clear q2 y1 y2 QO Q1 HBo2 hN2 hBl
    go_wp2_with fail
    refine (hT1.out _).mono ?_
    rintro e w4 ⟨rfl, hb4⟩
    have b4 := below_of (below_alloc b3 (.cells #[.string cm] 9)) hb4
    go_wp2_with fail
    go_ret2
    exact ⟨by rw [HO.out]; rfl, b4⟩
  · obtain ⟨S2, q2⟩ : ∃ x, x = bs (bodyW ⟨(L : Int), ci, cps⟩) := ⟨_, rfl⟩
    have y2 : S2.size ≤ 14000 := by rw [q2, bs_size]; exact hBl
    have HO := Lib.hid (show out = S1 ++ S2 by rw [QO.out, Q1.out, q2, bs_append]; rfl)
    rw [← q2] at HBo2
    have z1 : ¬ 9223372036854775807 < S1.size + S2.size := by omega
    clear q2 y1 y2 QO Q1 hT1 hN2 hBl
    go_wp2_with fail
    refine (HBo2.out _ P3).mono ?_
    rintro e w4 ⟨rfl, hb4⟩
    have b4 := below_of b3 hb4
    go_wp2_with fail
    go_ret2
    exact ⟨by rw [HO.out]; rfl, b4⟩
  · obtain ⟨S2, q2⟩ : ∃ x, x = bs (boolW cg) := ⟨_, rfl⟩
    have y2 : S2.size = 1 := by rw [q2]; rfl
    have hB : Hid (∀ W, Calls Try.prog 13 #[.bool cg] W fun e w' => e = .returned (.string S2) ∧ Below W.heap.size W w') := fun W => by rw [q2]; exact bool_calls cg W
    have z1 : ¬ 9223372036854775807 < S1.size + S2.size := by omega
    have Q2 := Lib.hid q2
    clear q2 hT1 hN2
    go_wp2_with fail
    refine (hB.out _).mono ?_
    rintro e w4 ⟨rfl, hb4⟩
    have R4 := R3.below hb4
    have P4 := P3.below hb4
    have b4 := below_of b3 hb4
    clear p0 p1 p2 p3 p4 p5 p6 R3 P3 b3 hb4 hB
    obtain ⟨p0, p1, p2, p3, p4, p5, p6⟩ := R4.c
    cases cg
    · obtain ⟨S3, q3⟩ : ∃ x, x = bs (bodyW ⟨(L : Int), ci, cps⟩) := ⟨_, rfl⟩
      have y3 : S3.size ≤ 14000 := by rw [q3, bs_size]; exact hBl
      have HO := Lib.hid (show out = S1 ++ S2 ++ S3 by rw [QO.out, Q1.out, Q2.out, q3, bs_append, bs_append, List.append_assoc]; rfl)
      rw [← q3] at HBo2
      have z2 : ¬ 9223372036854775807 < (S1 ++ S2).size + S3.size := by rw [ByteArray.size_append]; omega
      clear q3 y1 y2 y3 QO Q1 Q2 hBl
      go_wp2_with fail
      refine (HBo2.out _ P4).mono ?_
      rintro e w5 ⟨rfl, hb5⟩
      have b5 := below_of b4 hb5
      go_wp2_with fail
      go_ret2
      exact ⟨by rw [HO.out]; rfl, b5⟩
    · have HO := Lib.hid (show out = S1 ++ S2 by rw [QO.out, Q1.out, Q2.out, bs_append]; rfl)
      clear y1 y2 QO Q1 Q2 hBl HBo2
      go_wp2_with fail
      go_ret2
      exact ⟨by rw [HO.out]; rfl, b4⟩

end Go.Proofs.Ytaeiahkomdpcoaa.Cell

