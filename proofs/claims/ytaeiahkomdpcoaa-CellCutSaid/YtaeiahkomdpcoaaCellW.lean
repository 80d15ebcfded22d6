/- The walk of hoardlaw14.CellCut. -/
import Derived.Test.YtaeiahkomdpcoaaCellV
namespace Go.Proofs.Ytaeiahkomdpcoaa.Cell
open Go.RowKit Go.Proofs.Ytaeiahkomdpcoaa.Num Go.Proofs.Ytaeiahkomdpcoaa.Wire

theorem cellW_len {c : Cel} (h : mayC c) : 1 ≤ (cellW c).length ∧ (cellW c).length ≤ 15000 := by
  obtain ⟨_, _, _, h4, h5⟩ := h
  have h6 := bodyW_len h5
  have h7 := numsW_len [c.kind]
  have h8 := numsW_len [c.n]
  have h9 := textsW_len [c.name.data.toList] 200 (by intro s hs; simp at hs; subst hs; rw [size_list]; exact h4)
  have h10 : ∀ b, (boolW b).length = 1 := fun _ => rfl
  simp only [List.length_singleton] at h7 h8 h9
  have h11 : 1 ≤ (numsW [c.kind]).length := by rw [numsW_one, up_length]; omega
  unfold cellW
  rw [List.length_append]
  split
  · omega
  · split
    · omega
    · split
      · rw [List.length_append, h10]
        split
        · simp; omega
        · omega
      · omega

set_option maxHeartbeats 3200000 in
set_option maxRecDepth 100000 in
theorem cut_calls (c : Cel) (A : Option Addr) (cp : Nat) (at0 : Nat) (hat : at0 < 65536) (m : ByteArray) (w : World) (hP : PcsAt w A c.body.pcs) (hk : c.kind < 256) : Calls Try.prog 7 #[.agg (cvs c A cp), .int .u16 at0, .string m] w fun e w' => e = .returned (.bool true) ∧ Below w.heap.size w w' := by
  have b0 := below_one w (.cells (cvs c A cp) 50)
  have R0 := row_new w (cvs c A cp)
  have P0 := hP.below b0
  have HC := Lib.hid (mayCB_iff c)
  have HL := Lib.hid (fun h => cellW_len (c := c) h)
  have HV := Lib.hid (fun W => heavy_calls c A cp W)
  have HO := Lib.hid (fun W => own_calls c A cp W)
  have HE := Lib.hid (fun A cp W h1 h2 => encode_calls c A cp W h1 h2 hk)
  clear hP
  obtain ⟨ck, cn, cg, cm, ⟨cl, ci, cps⟩⟩ := c
  unfold cvs at b0 R0 P0 HV HO HE ⊢
  simp only at b0 R0 P0 HV HO HE ⊢
  obtain ⟨p0, p1, p2, p3, p4, p5, p6⟩ := R0.c
  go_enter Try.func7, Try.ntmps7
  go_wp2_with fail
  refine (HV.out _).mono ?_
  rintro e w1 ⟨⟨b, rfl, hb⟩, b1⟩
  have R1 := R0.below b1
  have P1 := P0.below b1
  have c1 := below_of b0 b1
  clear p0 p1 p2 p3 p4 p5 p6 R0 P0 b0 b1 HV
  cases b
  case true =>
    go_wp2_with fail
    refine (works_calls _).mono ?_
    rintro e w2 ⟨rfl, b2⟩
    have c2 := below_of c1 b2
    go_wp2_with fail
    go_ret
    exact ⟨rfl, c2⟩
  have hn := hb rfl
  by_cases hm : 1024 < m.size
  · have hm' : decide ((1024 : Int) < (m.size : Int)) = true := decide_eq_true (by omega)
    have hm2 : (1024 : Int) < (m.size : Int) := by omega
    go_wp2_with fail
    refine (works_calls _).mono ?_
    rintro e w2 ⟨rfl, b2⟩
    have c2 := below_of c1 b2
    go_wp2_with fail
    go_ret
    exact ⟨rfl, c2⟩
  have hm' : ¬ (1024 : Int) < (m.size : Int) := by omega
  obtain ⟨p0, p1, p2, p3, p4, p5, p6⟩ := R1.c
  go_wp2_with fail
  refine (HO.out _ P1 hn).mono ?_
  rintro e w2 ⟨A2, cp2, rfl, P2, b2⟩
  have c2 := below_of c1 b2
  clear p0 p1 p2 p3 p4 p5 p6 R1 P1 c1 b2 HO hb
  go_wp2_with fail
  refine (HE.out A2 cp2 _ P2 (by omega)).mono ?_
  rintro e w3 ⟨rfl, b3⟩
  have c3 := below_of c2 b3
  clear c2 b3 P2 HE
  obtain ⟨mb, hmb⟩ : ∃ x, x = mayCB ⟨ck, cn, cg, cm, ⟨cl, ci, cps⟩⟩ := ⟨_, rfl⟩
  cases mb
  case false =>
    rw [show encV ⟨ck, cn, cg, cm, ⟨cl, ci, cps⟩⟩ = .tuple #[.string ⟨#[]⟩, .int .i64 2] by unfold encV; rw [← hmb, if_neg (by decide)]]
    go_wp2_with fail
    refine (works_calls _).mono ?_
    rintro e w4 ⟨rfl, b4⟩
    have c4 := below_of c3 b4
    go_wp2_with fail
    go_ret
    exact ⟨rfl, c4⟩
  obtain ⟨xb, hxb⟩ : ∃ x, x = bs (cellW ⟨ck, cn, cg, cm, ⟨cl, ci, cps⟩⟩) := ⟨_, rfl⟩
  rw [show encV ⟨ck, cn, cg, cm, ⟨cl, ci, cps⟩⟩ = .tuple #[.string xb, .int .i64 0] by unfold encV; rw [← hmb, if_pos rfl, hxb]]
  have hmay := HC.out.1 hmb.symm
  have hL := HL.out hmay
  have HM := Lib.hid hmay
  have hxl : xb.size = (cellW ⟨ck, cn, cg, cm, ⟨cl, ci, cps⟩⟩).length := by rw [hxb, bs_size]
  rw [← hxl] at hL
  have HX := Lib.hid hxb
  clear hmay HL HC hmb hxb hxl
  obtain ⟨hL1, hL2⟩ := hL
  have hmx : max (xb.size : Int) 1 = (xb.size : Int) := by omega
  have hmod := Nat.mod_lt at0 (show 0 < xb.size by omega)
  have hq1 : 0 ≤ (at0 : Int) % max (xb.size : Int) 1 := by rw [hmx]; omega
  have hq2 : (at0 : Int) % max (xb.size : Int) 1 ≤ (xb.size : Int) := by rw [hmx]; omega
  have hq : 0 ≤ (at0 : Int) % max (xb.size : Int) 1 ∧ (at0 : Int) % max (xb.size : Int) 1 ≤ (xb.size : Int) := ⟨hq1, hq2⟩
  go_wp2_with fail
  have hsx : (xb.extract 0 (at0 % xb.size)).data.toList = (cellW ⟨ck, cn, cg, cm, ⟨cl, ci, cps⟩⟩).take (at0 % xb.size) := by
    have := HX.out
    rw [show (xb.extract 0 (at0 % xb.size)).data.toList = xb.data.toList.take (at0 % xb.size) by simp, this, bs_data]
  have hno1 : Hid (¬ decOk (xb.extract 0 (at0 % xb.size)).data.toList) := by
    have h1 := dec_cut HM.out (at0 % xb.size) (by rw [← bs_size (cellW _), ← HX.out]; exact hmod)
    rw [hsx]; exact h1
  have hsz : (xb.extract 0 (at0 % xb.size)).size ≤ 50000 := by simp; omega
  clear hsx hq hq1 hq2 hmx hmod
  refine (decode_calls (xb.extract 0 (at0 % xb.size)) w3 hsz).mono ?_
  rintro e w4 ⟨c4, A4, cp4, E4, rfl, _, hc4, b4⟩
  rcases hc4 with ⟨h, _⟩ | ⟨_, rfl, rfl⟩
  · exact absurd h hno1.out
  have k4 := below_of c3 b4
  clear c3 b4 hno1 hsz
  rw [show cvs Cel.zero A4 cp4 = #[.int .u8 0, .int .u64 0, .bool false, .string ⟨#[]⟩, .int .i64 0, .string ⟨#[]⟩, .slice A4 0 cp4] from rfl]
  have k5 := below_alloc k4 (.cells #[.int .u8 0, .int .u64 0, .bool false, .string ⟨#[]⟩, .int .i64 0, .string ⟨#[]⟩, .slice A4 0 cp4] 50)
  have hsy : (xb ++ m).data.toList = cellW ⟨ck, cn, cg, cm, ⟨cl, ci, cps⟩⟩ ++ m.data.toList := by
    have := HX.out
    rw [show (xb ++ m).data.toList = xb.data.toList ++ m.data.toList by simp, this, bs_data]
  have hsz : (xb ++ m).size ≤ 50000 := by rw [ByteArray.size_append]; omega
  have HS := Lib.hid hsz
  by_cases hm0 : m = ⟨#[]⟩
  · subst hm0
    have HOK : Hid (decOk (xb ++ ⟨#[]⟩).data.toList) := by
      have h1 := (dec_back HM.out).1
      rw [hsy]
      exact (show decOk (cellW ⟨ck, cn, cg, cm, ⟨cl, ci, cps⟩⟩ ++ []) by rw [List.append_nil]; exact h1)
    clear hsy hsz HM HX hm hm' k4
    go_wp2_with fail
    refine (decode_calls _ _ HS.out).mono ?_
    rintro e w5 ⟨c5, A5, cp5, E5, rfl, _, hc5, b5⟩
    rcases hc5 with ⟨_, _, rfl⟩ | ⟨h, _⟩
    case inr => exact absurd HOK.out h
    have k6 := below_of k5 b5
    obtain ⟨dk, dn, dg, dm, ⟨dl, di, dps⟩⟩ := c5
    rw [show cvs ⟨dk, dn, dg, dm, ⟨dl, di, dps⟩⟩ A5 cp5 = #[.int .u8 (dk : Int), .int .u64 (dn : Int), .bool dg, .string dm, .int .i64 dl, .string di, .slice A5 dps.length cp5] from rfl]
    have k7 := below_alloc k6 (.cells #[.int .u8 (dk : Int), .int .u64 (dn : Int), .bool dg, .string dm, .int .i64 dl, .string di, .slice A5 dps.length cp5] 50)
    clear k5 b5 HS
    go_wp2_with fail
    refine (works_calls _).mono ?_
    rintro e w6 ⟨rfl, b6⟩
    have k8 := below_of k7 b6
    go_wp2_with fail
    go_ret
    exact ⟨rfl, k8⟩
  · have HNO : Hid (¬ decOk (xb ++ m).data.toList) := by
      rw [hsy]
      exact dec_more HM.out _ (fun h => hm0 (by apply ByteArray.ext; exact Array.toList_inj.1 h))
    clear hsy hsz HM HX hm hm' k4
    go_wp2_with fail
    refine (decode_calls _ _ HS.out).mono ?_
    rintro e w5 ⟨c5, A5, cp5, E5, rfl, _, hc5, b5⟩
    rcases hc5 with ⟨h, _⟩ | ⟨_, rfl, rfl⟩
    · exact absurd h HNO.out
    have k6 := below_of k5 b5
    rw [show cvs Cel.zero A5 cp5 = #[.int .u8 0, .int .u64 0, .bool false, .string ⟨#[]⟩, .int .i64 0, .string ⟨#[]⟩, .slice A5 0 cp5] from rfl]
    have k7 := below_alloc k6 (.cells #[.int .u8 0, .int .u64 0, .bool false, .string ⟨#[]⟩, .int .i64 0, .string ⟨#[]⟩, .slice A5 0 cp5] 50)
    clear k5 b5 HS
    have hml : ¬ m.toList = [] := fun h => hm0 (ByteArray.ext (Array.toList_inj.1 (by rw [← ByteArray.toList_eq, h])))
    go_wp2_with fail
    refine (works_calls _).mono ?_
    rintro e w6 ⟨rfl, b6⟩
    have k8 := below_of k7 b6
    go_wp2_with fail
    go_ret
    have hml2 : m.toList.isEmpty = false := List.isEmpty_eq_false_iff.2 hml
    refine ⟨?_, k8⟩
    show Ending.returned (.bool !m.toList.isEmpty) = _
    rw [hml2]; rfl

end Go.Proofs.Ytaeiahkomdpcoaa.Cell
