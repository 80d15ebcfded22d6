/- For any versions, any others, any prefix, number and count hoardlaw24.PageOthers returns true: what stands in another bucket makes no difference to a page; the tied card. No condition on the input. -/
import Derived.Deep.RegionHeld3
import Derived.Deep.CutRange
import Derived.Test.YtaeiahkomdpcoaaDoorRows
import Derived.Test.YtaeiahkomdpcoaaDoorCards
import Derived.Test.YtaeiahkomdpcoaaDoorTie
import Derived.LaidMore
import Derived.Stop.Joined
import Derived.HandedShaped
import Derived.Shelf.Vars
import Derived.Deep.Fields
import Derived.Lib.SmallJoins
import Derived.Lay
import Derived.Deep.Slices
import Derived.ChangeSame
import Derived.ChangeSlices
import Derived.Test.YtaeiahkomdpcoaaDoorW11
import Derived.Test.YtaeiahkomdpcoaaDoorW1
import Derived.Test.YtaeiahkomdpcoaaDoorW6
import Derived.Test.YtaeiahkomdpcoaaDoorW10

section
/- The walk of hoardlaw24.PageOthers. -/
namespace Go.Proofs.YtaeiahkomdpcoaaDoor.Page
open Go Go.RowKit Go.Deep Go.Proofs.YtaeiahkomdpcoaaDoor.Seq

set_option maxHeartbeats 4000000 in
set_option maxRecDepth 100000 in
theorem others_law (A : Option Addr) (c : Nat) (l : List Ver) (A' : Option Addr) (c' : Nat) (o : List Ver) (pre : ByteArray) (n m0 : Nat) (w : World) (h : VsAt w A l) (hk : ∀ v ∈ l, v.bk = kB) (h' : VsAt w A' o) (hk' : ∀ v ∈ o, v.bk = jB) (hm0 : m0 < 256) (hv : Name.Var0 w) :
    Calls Tryd.prog 8 #[.slice A l.length c, .slice A' o.length c', .string pre, .int .u64 (n : Int), .int .u8 (m0 : Int)] w fun e w' => e = .returned (.bool true) ∧ Below w.heap.size w w' := by
  have HW := Lib.hid (fun W (h : Name.Var0 W) => works_calls W h)
  have HM := Lib.hid (many_calls A c l w h)
  have HM2 : Hid (∀ W, Below w.heap.size w W → Calls Tryd.prog 27 #[.slice A' o.length c'] W fun e w' => ManyR o.length e ∧ Below W.heap.size W w') := fun W hb => many_calls A' c' o W (h'.below hb)
  have hln : ∀ v ∈ l, v.n ≤ Name.top := fun v hvl => by
    obtain ⟨i, hi, rfl⟩ := List.getElem_of_mem hvl
    obtain ⟨_, _, _, _, _, _, _, hf⟩ := h i _ (List.getElem?_eq_getElem hi)
    exact hf.n
  have hon : ∀ v ∈ o, v.n ≤ Name.top := fun v hvl => by
    obtain ⟨i, hi, rfl⟩ := List.getElem_of_mem hvl
    obtain ⟨_, _, _, _, _, _, _, hf⟩ := h' i _ (List.getElem?_eq_getElem hi)
    exact hf.n
  have HR : Hid (l.length ≤ 60 → ∀ W, Below w.heap.size w W → Calls Tryd.prog 29 #[.slice A l.length c] W fun e w' => ∃ Ao cp, e = .returned (.slice Ao (rowsV l).length cp) ∧ OwnP w' W.heap.size Ao cp (rowsV l) ∧ Below W.heap.size W w') := fun hl W hB =>
    rows_calls A c l W (h.below hB) hl hk (hv.below hB)
  have HK1 : Hid (l.length ≤ 60 → AllK (rowsV l) (rowsV l)) := fun hl => allK_one l hl hk hln
  have HK2 : Hid (l.length ≤ 60 → o.length ≤ 60 → AllK (othersV o ++ rowsV l) (rowsV l)) := fun hl ho => allK_all l o hl hk hln ho hk' hon
  have HL1 : Hid (l.length ≤ 60 → (rowsV l).length ≤ 60) := fun hl => by have := rows_len l; omega
  obtain ⟨one, qone⟩ : ∃ r, r = rowsV l := ⟨_, rfl⟩
  rw [← qone] at HR HK1 HK2 HL1
  clear qone h hk hln
  obtain ⟨m, qm⟩ : ∃ m, m = m0 % 9 + 1 := ⟨_, rfl⟩
  have hm1 : 1 ≤ m := by omega
  have hm2 : m ≤ 9 := by omega
  have HO' := Lib.hid h'
  have HOK := Lib.hid hk'
  clear h' hk' hon
  go_enter Tryd.func8, Tryd.ntmps8
  go_wp2_with fail
  refine HM.out.mono ?_
  rintro e w1 ⟨⟨mb, rfl, hmb⟩, b1⟩
  have HMB := Lib.hid hmb
  have v1 := hv.below b1
  clear hmb
  cases mb
  case true =>
    go_wp2_with fail
    refine (HW.out _ v1).mono ?_
    rintro e w2 ⟨rfl, b2⟩
    have c2 := below_of b1 b2
    go_wp2_with fail
    go_ret
    exact ⟨rfl, c2⟩
  case false =>
    have hl := HMB.out rfl
    clear HMB HM
    go_wp2_with fail
    refine (HM2.out _ b1).mono ?_
    rintro e w1' ⟨⟨mb2, rfl, hmb2⟩, b1'⟩
    have HMB2 := Lib.hid hmb2
    have c1 := below_of b1 b1'
    have v2 := v1.below b1'
    clear hmb2 b1 b1' v1
    cases mb2
    case true =>
      go_wp2_with fail
      refine (HW.out _ v2).mono ?_
      rintro e w2 ⟨rfl, b2⟩
      have c2 := below_of c1 b2
      go_wp2_with fail
      go_ret
      exact ⟨rfl, c2⟩
    case false =>
      have hlo := HMB2.out rfl
      have HRR := Lib.hid (HR.out hl)
      have HKA := Lib.hid (HK1.out hl)
      have HKB := Lib.hid (HK2.out hl hlo)
      have hl1 := HL1.out hl
      clear HR HK1 HK2 HMB2 HL1 HM2
      by_cases hp : pre.size ≤ 200
      case neg =>
        have i1 : (200 : Int) < (pre.size : Int) := by omega
        go_wp2_with fail
        refine (HW.out _ v2).mono ?_
        rintro e w2 ⟨rfl, b2⟩
        have c2 := below_of c1 b2
        go_wp2_with fail
        go_ret
        exact ⟨rfl, c2⟩
      case pos =>
        have i1 : ¬ (200 : Int) < (pre.size : Int) := by omega
        go_upto_region 3 with fail
        go_wp2_with fail
        refine (HRR.out _ c1).mono ?_
        rintro e w2 ⟨A1, c1p, rfl, O1, b2⟩
        have c2 := below_of c1 b2
        have HONE : Hid (∀ W, Below w2.heap.size w2 W → OwnP W w1'.heap.size A1 c1p one ∧ VsAt W A' o ∧ Name.Var0 W ∧ Below w.heap.size w W) := fun W hb => ⟨OwnP.below O1 hb, (HO'.out.below c2).below hb, (hv.below c2).below hb, below_of c2 hb⟩
        clear HRR c1 v2 O1 b2 c2 HO' hv i1 hl
        obtain ⟨i0, hi, hz0, hz1, hz2⟩ := info_parts infoPair
        go_wp2_with fail
        go_loopw [12, 13] (fun ov iv wr => ∃ (k : Nat) (out : List Ver) (Ao : Option Addr) (cp : Nat), k ≤ o.length ∧ ov = .slice Ao out.length cp ∧ iv = .int .i64 (k : Int) ∧ Hid (out = othersV (o.take k)) ∧ Hid (out = [] → Ao = none ∧ cp = 0) ∧ OwnP wr w2.heap.size Ao cp out ∧ Below w2.heap.size w2 wr) (fun _ iv _ => o.length - (intOf iv).toNat)
        case atStart => exact ⟨0, [], none, 0, by omega, rfl, rfl, Lib.hid rfl, Lib.hid (fun _ => ⟨rfl, rfl⟩), World.ownsRow_nil _ _ _ _, Below.refl _ _⟩
        case round =>
          obtain ⟨k, out, Ao, cp, hkl, rfl, rfl, HO, HN, hown, hB⟩ := hrel
          by_cases hlt : k < o.length
          · obtain ⟨_, hVO, hv1, _⟩ := HONE.out _ hB
            obtain ⟨ad, rfl, hbl, d0, d1, d2, d3, hfit⟩ := hVO.at_ hlt
            clear hVO
            obtain ⟨v, qv⟩ : ∃ v, v = o[k] := ⟨_, rfl⟩
            have hvk := HOK.out _ (List.getElem_mem hlt)
            rw [← qv] at d0 d1 d2 d3 hfit hvk
            have HV := Lib.hid qv
            clear qv
            have HP := Lib.hid (fun W (h : Name.Var0 W) => pair_calls v W h hfit)
            rw [hvk] at HP
            clear hvk
            obtain ⟨pr, qpr⟩ : ∃ p, p = pairS v := ⟨_, rfl⟩
            rw [← qpr] at HP
            have HPR := Lib.hid qpr
            clear qpr
            go_upto_region 8 with fail
            go_cut [14] from 38 to 88 (fun s14 wx => ∃ g, s14 = .pointer (some ⟨g, 0, none⟩) ∧ wr.heap.size ≤ g ∧ PrRow wx g pr ∧ Below wr.heap.size wr wx)
            case first =>
              have V0 : VIn wr (ad.add (k * 4)) v wr := ⟨d0, d1, d2, d3, by rw [block_of_add]; exact hbl, hv1, Below.refl _ _⟩
              have V1 := V0.drew
              clear d0 d1 d2 d3 V0
              go_region_held3 (fun w' => w'.cell? (ad.add (k * 4)) = some (.string v.nm) ∧ w'.cell? ⟨(ad.add (k * 4)).block, (ad.add (k * 4)).off + 1, none⟩ = some (.int .u64 (v.n : Int)) ∧ w'.cell? ⟨(ad.add (k * 4)).block, (ad.add (k * 4)).off + 2, none⟩ = some (.string v.tx) ∧ w'.cell? ⟨(ad.add (k * 4)).block, (ad.add (k * 4)).off + 3, none⟩ = some (.bool v.gone) ∧ VIn wr (ad.add (k * 4)) v w')
                (first | exact VIn.keep (by assumption) | exact VIn.keep (VIn.alloc (by assumption) _) | exact VIn.keep (VIn.set2 (by assumption) (Nat.le_refl _) _ _))
                (first
                  | (go_at_call 34; refine (HP.out (wr.drew.alloc (.cells #[.string ⟨#[]⟩, .string ⟨#[]⟩] 64)) (VIn.v0 (w0 := wr) (a := ad.add (k * 4)) (v := v) (VIn.alloc V1 _))).mono ?_; rintro e wE ⟨rfl, hbE⟩; have HKE := VIn.below (w0 := wr) (a := ad.add (k * 4)) (v := v) (VIn.alloc V1 _) hbE; have PE : PrRow wE wr.heap.size (⟨#[]⟩, ⟨#[]⟩) := (prRow_new wr.drew (⟨#[]⟩, ⟨#[]⟩)).below hbE; obtain ⟨z0, z1⟩ := PE.c; have y0 := PE.f 0; have y1 := PE.f 1)
                  | (go_at_call 34; refine (HP.out wr.drew (VIn.v0 (w0 := wr) (a := ad.add (k * 4)) (v := v) V1)).mono ?_; rintro e wE ⟨rfl, hbE⟩; have HKE := VIn.below (w0 := wr) (a := ad.add (k * 4)) (v := v) V1 hbE))
              · go_wp2_with fail
                go_meet
                case rel => exact ⟨_, rfl, HKE.b.size, prRow_new wE pr, HKE.b.alloc HKE.b.size _⟩
              · go_wp2_with fail
                go_meet
                case rel => exact ⟨_, rfl, Nat.le_refl _, PE.set pr, (HKE.b.setCell (p := ⟨wr.heap.size, 0, none⟩) (Nat.le_refl _) _).setCell (p := ⟨wr.heap.size, 1, none⟩) (Nat.le_refl _) _⟩
            case rest =>
              obtain ⟨g, rfl, _, PR, hB5⟩ := hcut
              have hO5 := OwnP.below hown hB5
              have hBw := hB.trans (hB5.mono hB.size)
              clear d0 d1 d2 d3 hbl HP hfit hv1 hown hB hB5
              have hlo2 : out.length ≤ 60 := by
                have := others_len (o.take k); rw [← HO.out, List.length_take] at this; omega
              obtain ⟨p0, p1⟩ := PR.c
              obtain ⟨z, qz⟩ : ∃ z, pr.1.toList.isEmpty = z := ⟨_, rfl⟩
              have HZ := Lib.hid qz
              cases z
              case true =>
                have HE : Hid (out = othersV (o.take (k + 1))) := others_bad (hlt := hlt) HO.out HV.out HPR.out HZ.out
                go_upto_region 9 with fail
                go_region
                go_wp2_with fail
                go_roundw
                case rel => exact ⟨k + 1, out, Ao, cp, by omega, rfl, by go_num, HE, HN, hO5, hBw.drew⟩
                case measure => simp [intOf]; omega
              case false =>
                have HG := Lib.hid (others_good (hlt := hlt) HO.out HV.out HPR.out HZ.out)
                by_cases h0 : 0 < out.length
                · obtain ⟨ad', rfl, _, _, _, HC⟩ := OwnP.form hO5 h0
                  have e0 := prCells_get2 HC h0
                  obtain ⟨kj, qk⟩ : ∃ x, x = keyOf (out[out.length - 1]'(by omega)) := ⟨_, rfl⟩
                  rw [← qk] at e0
                  obtain ⟨b1, q1⟩ : ∃ x, Op.bytesLess kj.toList pr.1.toList = x := ⟨_, rfl⟩
                  have HQ := Lib.hid qk
                  have HQ1 := Lib.hid q1
                  have H0 := Lib.hid h0
                  have h1 : ((out.length : Int) == 0) = false := by rw [beq_eq_false_iff_ne]; omega
                  have h2 : (out.length : Int) - 1 < (out.length : Int) := by omega
                  clear qk HC
                  cases b1
                  case true =>
                    have HE : Hid (othersV (o.take (k + 1)) = out ++ [v]) := HG.out.2.2.1 H0.out (by rw [← HQ.out]; exact HQ1.out)
                    go_upto_region 9 with fail
                    go_region
                    go_upto_region 10 with fail
                    have O1' := World.ownsRow.alloc (World.ownsRow.drew hO5) (.cells #[.string pr.1, .string pr.2] 64)
                    have N1 := World.news_of_block (MapKept.heap_alloc wc.drew (.cells #[.string pr.1, .string pr.2] 64)).1
                    have G1 := Lib.hid (hBw.alloc hBw.size (.cells #[.string pr.1, .string pr.2] 64)).drew
                    have hsw := hBw.size
                    have HOL := Lib.hid (fun r e => (World.ownsRow.lt hO5 r e).1)
                    go_wp2_with (at_builtin; go_loud (refine wpList_append_own _ rfl _ _ 48 rfl w2.heap.size 64 i0 (.agg #[.string ⟨#[]⟩, .string ⟨#[]⟩]) 2 32 Tryd.underlying48 hi hz0 hz1 hz2 rfl (by decide) _ _ _ rfl O1' ⟨wc.heap.size, 0, none⟩ 1 1 [.string pr.1, .string pr.2] rfl rfl N1 ?c2 ?c3 ?c4 ?c5 ?_))
                    case c2 => exact ⟨rfl, rfl⟩
                    case c3 => unfold maxLen; omega
                    case c4 => omega
                    case c5 => omega
                    intro v3 w3 hown3 hg3 _
                    have B3 : Below w2.heap.size w2 w3 := below_own G1.out hg3 (by simp; omega) HOL.out
                    obtain ⟨A3, cp3, rfl, O3⟩ := own_snoc (v := v) HG.out.1 hown3
                    obtain ⟨o3, q3⟩ : ∃ o, o = out ++ [v] := ⟨_, rfl⟩
                    have HE3 : Hid (o3 = othersV (o.take (k + 1))) := q3.trans HE.out.symm
                    have HN3 : Hid (o3 = [] → some A3 = none ∧ cp3 = 0) := fun h => by rw [q3] at h; simp at h
                    rw [← q3] at O3 ⊢
                    clear q3 hown3 hg3 O1' N1 G1 HOL HE HG hO5 hBw
                    go_wp2_with fail
                    go_roundw
                    case rel => exact ⟨k + 1, o3, some A3, cp3, by omega, rfl, by go_num, HE3, HN3, O3, B3⟩
                    case measure => simp [intOf]; omega
                  case false =>
                    have HE : Hid (out = othersV (o.take (k + 1))) := (HG.out.2.2.2 H0.out (by rw [← HQ.out]; exact HQ1.out)).symm
                    go_upto_region 9 with fail
                    go_region
                    go_wp2_with fail
                    go_roundw
                    case rel => exact ⟨k + 1, out, some ad', cp, by omega, rfl, by go_num, HE, HN, hO5, hBw.drew⟩
                    case measure => simp [intOf]; omega
                · have h1 : out = [] := List.eq_nil_of_length_eq_zero (by omega)
                  have HE : Hid (othersV (o.take (k + 1)) = out ++ [v]) := HG.out.2.1 h1
                  subst h1
                  obtain ⟨rfl, rfl⟩ := HN.out rfl
                  clear HO
                  simp only [List.length_nil] at *
                  go_upto_region 9 with fail
                  go_region
                  go_upto_region 10 with fail
                  have O1' := World.ownsRow.alloc (World.ownsRow.drew hO5) (.cells #[.string pr.1, .string pr.2] 64)
                  have N1 := World.news_of_block (MapKept.heap_alloc wc.drew (.cells #[.string pr.1, .string pr.2] 64)).1
                  have G1 := Lib.hid (hBw.alloc hBw.size (.cells #[.string pr.1, .string pr.2] 64)).drew
                  have hsw := hBw.size
                  have HOL := Lib.hid (fun r e => (World.ownsRow.lt hO5 r e).1)
                  go_wp2_with (at_builtin; go_loud (refine wpList_append_own _ rfl _ _ 48 rfl w2.heap.size 64 i0 (.agg #[.string ⟨#[]⟩, .string ⟨#[]⟩]) 2 32 Tryd.underlying48 hi hz0 hz1 hz2 rfl (by decide) _ _ _ rfl O1' ⟨wc.heap.size, 0, none⟩ 1 1 [.string pr.1, .string pr.2] rfl rfl N1 ?c2 ?c3 ?c4 ?c5 ?_))
                  case c2 => exact ⟨rfl, rfl⟩
                  case c3 => unfold maxLen; omega
                  case c5 => omega
                  intro v3 w3 hown3 hg3 _
                  have B3 : Below w2.heap.size w2 w3 := below_own G1.out hg3 (by simp; omega) HOL.out
                  obtain ⟨A3, cp3, rfl, O3⟩ := own_snoc (v := v) HG.out.1 hown3
                  obtain ⟨o3, q3⟩ : ∃ o, o = ([] : List Ver) ++ [v] := ⟨_, rfl⟩
                  have HE3 : Hid (o3 = othersV (o.take (k + 1))) := q3.trans HE.out.symm
                  have HN3 : Hid (o3 = [] → some A3 = none ∧ cp3 = 0) := fun h => by rw [q3] at h; simp at h
                  rw [← q3] at O3 ⊢
                  clear q3 hown3 hg3 O1' N1 G1 HOL HE HG hO5 hBw
                  go_wp2_with fail
                  go_roundw
                  case rel => exact ⟨k + 1, o3, some A3, cp3, by omega, rfl, by go_num, HE3, HN3, O3, B3⟩
                  case measure => simp [intOf]; omega
          · obtain rfl : k = o.length := by omega
            obtain ⟨ot, qot⟩ : ∃ ot, ot = othersV o := ⟨_, rfl⟩
            have hot : ot.length ≤ 60 := by have := others_len o; rw [qot]; omega
            obtain rfl : out = ot := HO.out.trans (by rw [List.take_length, qot])
            rw [← qot] at HKB
            clear qot HO HN HOK
            obtain ⟨O1, _, _, _⟩ := HONE.out _ hB
            go_upto_region 11 with fail
            go_cut [12] from 89 to 150 (fun s12 wx => ∃ A2 c2, s12 = .slice A2 (out ++ one).length c2 ∧ AllAt wx A2 (out ++ one) ∧ AllAt wx A1 one ∧ Below w.heap.size w wx)
            case first =>
              cases A1 with
              | none =>
                obtain rfl := OwnP.none O1
                have HF := HONE.out _ hB
                simp only [List.length_nil, List.append_nil] at *
                go_wp2_with (at_builtin; go_loud (refine wpList_append_empty rfl _ _ 48 rfl 64 i0 Tryd.underlying48 hi w2.heap.size 2 _ _ _ rfl hown c1p rfl ?_))
                go_meet
                case rel => exact ⟨Ao, cp, rfl, ⟨OwnP.prs hown, HF.2.2.1⟩, ⟨OwnP.prs HF.1, HF.2.2.1⟩, HF.2.2.2⟩
              | some a1 =>
                have hOL := fun r e => (World.ownsRow.lt hown r e).1
                have C1 := OwnP.cells O1
                have l1 := prCells_len one
                go_wp2_with (at_builtin; go_loud (refine wpList_append_own _ rfl _ _ 48 rfl w2.heap.size 64 i0 (.agg #[.string ⟨#[]⟩, .string ⟨#[]⟩]) 2 32 Tryd.underlying48 hi hz0 hz1 hz2 rfl (by decide) _ _ _ rfl hown a1 one.length c1p (prCells one) rfl l1 C1 (prCells_one _) ?d3 ?d4 hB.size ?_))
                case d3 => unfold maxLen; omega
                case d4 => omega
                intro v3 w3 hown3 hg3 _
                have B3 : Below w2.heap.size w2 w3 := below_own hB hg3 hB.size hOL
                obtain ⟨A3, cp3, rfl, O3⟩ := own_two hown3
                have HF := HONE.out _ B3
                go_wp2_with fail
                go_meet
                case rel => exact ⟨A3, cp3, rfl, ⟨OwnP.prs O3, HF.2.2.1⟩, ⟨OwnP.prs HF.1, HF.2.2.1⟩, HF.2.2.2⟩
            case rest =>
              clear hown O1 hB
              obtain ⟨A2, c2, rfl, AA, AO, B⟩ := hcut
              obtain ⟨allv, qall⟩ : ∃ r, r = out ++ one := ⟨_, rfl⟩
              rw [← qall] at AA HKB ⊢
              obtain ⟨⟨xs, mx⟩, qx⟩ : ∃ r, r = cutP m (sel pre none' none' one) := ⟨_, rfl⟩
              obtain ⟨⟨ys, my⟩, qy⟩ : ∃ r, r = verP m pre n one := ⟨_, rfl⟩
              obtain ⟨ev, qev⟩ : ∃ e, e = verE pre := ⟨_, rfl⟩
              have hxl : xs.length ≤ 100000 := by
                have := congrArg (fun r => r.1.length) qx
                simp only [cutP, List.length_take] at this
                omega
              have hyl : ys.length ≤ 100000 := by
                have := congrArg (fun r => r.1.length) qy
                unfold verP at this
                split at this
                · simp only [cutP, List.length_take] at this
                  omega
                · simp only [List.length_nil] at this
                  omega
              have HN1 : Hid (∀ W, AllAt W A1 one → Calls Tryd.prog 30 #[ofV W.heap.size, .string ⟨#[107]⟩, .string pre, .string ⟨#[]⟩, .int .i64 (m : Int)] (W.alloc (.cells #[.slice A1 one.length c1p] 48)) fun e w' => ∃ A' cp, e = .returned (.tuple #[.agg #[.slice A' xs.length cp, .bool mx], .int .i64 0]) ∧ ItsAt w' A' xs ∧ Below W.heap.size W w') := fun W hA => names_o HKA.out hA hp hm1 (by omega) qx.symm
              have HN2 : Hid (∀ W, AllAt W A2 allv → Calls Tryd.prog 30 #[ofV W.heap.size, .string ⟨#[107]⟩, .string pre, .string ⟨#[]⟩, .int .i64 (m : Int)] (W.alloc (.cells #[.slice A2 allv.length c2] 48)) fun e w' => ∃ A' cp, e = .returned (.tuple #[.agg #[.slice A' xs.length cp, .bool mx], .int .i64 0]) ∧ ItsAt w' A' xs ∧ Below W.heap.size W w') := fun W hA => names_o HKB.out hA hp hm1 (by omega) qx.symm
              have HV1 : Hid (∀ W, AllAt W A1 one → Calls Tryd.prog 33 #[ofV W.heap.size, .string ⟨#[107]⟩, .string pre, .int .u64 (n : Int), .int .i64 (m : Int)] (W.alloc (.cells #[.slice A1 one.length c1p] 48)) fun e w' => ∃ A' cp, e = .returned (.tuple #[.agg #[.slice A' ys.length cp, .bool my], .int .i64 ev]) ∧ ItsAt w' A' ys ∧ Below W.heap.size W w') := fun W hA => by rw [qev]; exact versions_o HKA.out hA hp hm1 (by omega) qy.symm
              have HV2 : Hid (∀ W, AllAt W A2 allv → Calls Tryd.prog 33 #[ofV W.heap.size, .string ⟨#[107]⟩, .string pre, .int .u64 (n : Int), .int .i64 (m : Int)] (W.alloc (.cells #[.slice A2 allv.length c2] 48)) fun e w' => ∃ A' cp, e = .returned (.tuple #[.agg #[.slice A' ys.length cp, .bool my], .int .i64 ev]) ∧ ItsAt w' A' ys ∧ Below W.heap.size W w') := fun W hA => by rw [qev]; exact versions_o HKB.out hA hp hm1 (by omega) qy.symm
              have HO1 := Lib.hid (of_calls A1 one.length c1p)
              have HO2 := Lib.hid (of_calls A2 allv.length c2)
              clear qx qy qev qall HKA HKB HONE hot hl1
              have QM := Lib.hid qm
              clear qm
              go_upto_region 13 with fail
              have e8 : ((m0 : Int) % 9 + 1) = (m : Int) := by have := QM.out; omega
              rw [e8]
              clear e8 QM hm0
              go_wp2_with fail
              refine (HO1.out _).mono ?_
              rintro e wb ⟨rfl, rfl⟩
              go_wp2_with fail
              refine (HN1.out _ AO).mono ?_
              rintro e w1c ⟨J1, q1, rfl, I1, b1⟩
              have a1 := below_one w1c (.cells #[.slice J1 xs.length q1, .bool mx] 52)
              have d1 := below_of b1 a1
              have P1 := pgRow_new w1c J1 xs.length q1 mx
              have I1 := I1.below a1
              have AA := AA.below d1
              have AO := AO.below d1
              have B := below_of B d1
              clear a1 b1 d1 HN1
              go_upto_region 14 with fail
              obtain ⟨g1, r1⟩ : ∃ g, g = w1c.heap.size := ⟨_, rfl⟩
              obtain ⟨W1, s1⟩ : ∃ W, W = w1c.alloc (.cells #[.slice J1 xs.length q1, .bool mx] 52) := ⟨_, rfl⟩
              rw [← s1] at P1 I1   AA AO B ⊢
              rw [← r1] at P1 ⊢
              clear s1 r1
              go_wp2_with fail
              refine (HO2.out _).mono ?_
              rintro e wb ⟨rfl, rfl⟩
              go_wp2_with fail
              refine (HN2.out _ AA).mono ?_
              rintro e w2c ⟨J2, q2, rfl, I2, b2⟩
              have a2 := below_one w2c (.cells #[.slice J2 xs.length q2, .bool mx] 52)
              have d2 := below_of b2 a2
              have P2 := pgRow_new w2c J2 xs.length q2 mx
              have I2 := I2.below a2
              have P1 := P1.below d2
              have I1 := I1.below d2
              have AA := AA.below d2
              have AO := AO.below d2
              have B := below_of B d2
              clear a2 b2 d2 HN2
              go_upto_region 15 with fail
              obtain ⟨g2, r2⟩ : ∃ g, g = w2c.heap.size := ⟨_, rfl⟩
              obtain ⟨W2, s2⟩ : ∃ W, W = w2c.alloc (.cells #[.slice J2 xs.length q2, .bool mx] 52) := ⟨_, rfl⟩
              rw [← s2] at P2 I2 P1 I1 AA AO B ⊢
              rw [← r2] at P2 ⊢
              clear s2 r2
              go_wp2_with fail
              refine (HO1.out _).mono ?_
              rintro e wb ⟨rfl, rfl⟩
              go_wp2_with fail
              refine (HV1.out _ AO).mono ?_
              rintro e w3c ⟨J3, q3, rfl, I3, b3⟩
              have a3 := below_one w3c (.cells #[.slice J3 ys.length q3, .bool my] 52)
              have d3 := below_of b3 a3
              have P3 := pgRow_new w3c J3 ys.length q3 my
              have I3 := I3.below a3
              have P1 := P1.below d3
              have I1 := I1.below d3
              have P2 := P2.below d3
              have I2 := I2.below d3
              have AA := AA.below d3
              have AO := AO.below d3
              have B := below_of B d3
              clear a3 b3 d3 HV1
              go_upto_region 16 with fail
              obtain ⟨g3, r3⟩ : ∃ g, g = w3c.heap.size := ⟨_, rfl⟩
              obtain ⟨W3, s3⟩ : ∃ W, W = w3c.alloc (.cells #[.slice J3 ys.length q3, .bool my] 52) := ⟨_, rfl⟩
              rw [← s3] at P3 I3 P1 P2 I1 I2 AA AO B ⊢
              rw [← r3] at P3 ⊢
              clear s3 r3
              go_wp2_with fail
              refine (HO2.out _).mono ?_
              rintro e wb ⟨rfl, rfl⟩
              go_wp2_with fail
              refine (HV2.out _ AA).mono ?_
              rintro e w4c ⟨J4, q4, rfl, I4, b4⟩
              have a4 := below_one w4c (.cells #[.slice J4 ys.length q4, .bool my] 52)
              have d4 := below_of b4 a4
              have P4 := pgRow_new w4c J4 ys.length q4 my
              have I4 := I4.below a4
              have P1 := P1.below d4
              have I1 := I1.below d4
              have P2 := P2.below d4
              have I2 := I2.below d4
              have P3 := P3.below d4
              have I3 := I3.below d4
              have AA := AA.below d4
              have AO := AO.below d4
              have B := below_of B d4
              clear a4 b4 d4 HV2
              go_upto_region 17 with fail
              obtain ⟨g4, r4⟩ : ∃ g, g = w4c.heap.size := ⟨_, rfl⟩
              obtain ⟨W4, s4⟩ : ∃ W, W = w4c.alloc (.cells #[.slice J4 ys.length q4, .bool my] 52) := ⟨_, rfl⟩
              rw [← s4] at P4 I4 P1 P2 P3 I1 I2 I3 AA AO B ⊢
              rw [← r4] at P4 ⊢
              clear s4 r4
              obtain ⟨p0, p1⟩ := P1.c
              obtain ⟨r0, r1⟩ := P2.c
              have ee : (ev == ev) = true := by simp
              go_wp2_with fail
              refine (same_calls J1 J2 q1 q2 xs mx _ I1 I2 hxl).mono ?_
              rintro e w5 ⟨rfl, b5⟩
              have P3 := P3.below b5
              have P4 := P4.below b5
              have I3 := I3.below b5
              have I4 := I4.below b5
              have AO := AO.below b5
              have B := below_of B b5
              clear P1 P2 I1 I2 AA b5 p0 p1 r0 r1
              obtain ⟨p0, p1⟩ := P3.c
              obtain ⟨r0, r1⟩ := P4.c
              go_wp2_with fail
              refine (same_calls J3 J4 q3 q4 ys my _ I3 I4 hyl).mono ?_
              rintro e w6 ⟨rfl, b6⟩
              have AO := AO.below b6
              have B := below_of B b6
              clear P3 P4 I3 I4 b6 p0 p1 r0 r1
              go_wp2_with fail
              refine (HW.out _ AO.v).mono ?_
              rintro e w7 ⟨rfl, b7⟩
              have B := below_of B b7
              go_wp2_with fail
              go_ret
              exact ⟨rfl, B⟩

end Go.Proofs.YtaeiahkomdpcoaaDoor.Page
end

section
/- A key as an argument, the row's wrap over listed variables with the world's shape kept, and the card's close. -/
namespace Go.Proofs.YtaeiahkomdpcoaaDoor
open Go.ChangeShapes Go.WideShapes Go.ChangeAt Go.RowKit Go.Deep Go.Joins

/-- The wrap over listed variables, the world's shape kept. -/
theorem returns_and_shaped {H : Type} {enc : TypeId × Value → H} {a : Assume} {C : Checked} {os : Os} {f : FuncId} {fn : Func} {s : ChangeSpec} {conds : List PathCond} {apart fresh handsOn again : Bool} {X : World → Array Value → Prop}
    (own : ownKnob C.prog.godebug = none) (started : os.Started) (noInit : C.prog.inits.idxOf? f = none) (hfn : C.prog.funcs[f]? = some fn)
    (witness : ∃ (w : World) (tape : Tape) (i : Input), w.os = os ∧ (w.forCall tape i).Shaped C.prog ∧ i.vars = [] ∧ Input.okWide C.prog (w.forCall tape i) .any w.heap.size f i ∧
      ((s.pre enc C.prog fn conds apart (w.forCall tape i).memory i.args ∧ X (w.forCall tape i).memory i.args) ∧ sizedMet enc C.prog fn (OpenSpec.ofChange s) apart (w.forCall tape i).memory i.args) ∧ a.holds C.prog (lone (Frame.enter C.prog f i.args .normal) [] (w.forCall tape i)))
    (contract : ∀ (W : World) (base : Nat) (args : Array Value) (ds gs : List (DataW H)) (before : List MemPlace),
      (∀ (j : Nat) t v, fn.params[j]? = some t → args[j]? = some v → Value.okWide C.prog W .any base t v) →
      DataW.Whole enc C.prog fn.params.toList s.vars apart W args.toList ds gs before →
      W.ShapedOpen C.prog →
      Calls C.prog f args W fun e W' => ∃ v, e = .returned v ∧ s.post enc C.prog fn apart fresh handsOn again W args v W') :
    ReturnsInHanded a C os f .any (fun w args => (s.pre enc C.prog fn conds apart w args ∧ X w args) ∧ sizedMet enc C.prog fn (OpenSpec.ofChange s) apart w args) (s.post enc C.prog fn apart fresh handsOn again) := by
  refine returnsInHanded_of_calls own started noInit witness ?_
  intro w tape i _ hsh _ hok hpre hholds
  obtain ⟨_, _, _, fn', hfn', _, _, _, _, hval⟩ := hok
  have e : fn' = fn := Option.some.inj (hfn'.symm.trans hfn)
  subst e
  obtain ⟨⟨⟨ds, gs, before, hw, hc⟩, hx⟩, hz⟩ := hpre
  have hw' := DataW.Whole.of_heap (w' := w.forCall tape i) (by rfl) hw
  refine (contract (w.forCall tape i) w.heap.size i.args ds gs before hval hw' hsh).mono fun e W' ⟨v, he, hp⟩ => ?_
  subst he
  exact ChangeSpec.post_blind hp

theorem var0 {W : World} (h : W.ShapedOpen Tryd.prog) : Name.Var0 W := by
  obtain ⟨m, hm⟩ := cell_of_shapedOpen_int (P := Tryd.prog) (g := 0) (t := 3) (zero := #[.int .i64 0]) h (of_decide_eq_true (by kernel_rfl)) (by kernel_rfl) rfl (by kernel_rfl) (by kernel_rfl) Tryd.underlying3
  exact ⟨m, hm, World.block_lt_of_cell? _ _ hm⟩

theorem array5 {cs : Array Value} (h : cs.size = 5) : ∃ a b c d e, cs = #[a, b, c, d, e] := by
  obtain ⟨l⟩ := cs
  match l, h with
  | [a, b, c, d, e], _ => exact ⟨a, b, c, d, e, rfl⟩

section
variable {H : Type} {enc : TypeId × Value → H} {W : World}
set_option maxRecDepth 100000 in
theorem open_key {r : Reach} {b0 : Nat} {v : Value} {d : DataW H} {p : List MemPlace} (hv : Value.okWide Tryd.prog W r b0 24 v) (h : DataW.Trod enc Tryd.prog W 0 (fun _ => true) true 24 v d p) :
    ∃ k : Name.Key, v = k.val ∧ k.bucket.size ≤ maxLen ∧ k.name.size ≤ maxLen ∧ k.kind < 256 ∧ k.n ≤ Name.top := by
  obtain ⟨cs, rfl, hsz⟩ := okWide_struct Tryd.underlying24 hv
  obtain ⟨c0, c1, c2, c3, c4, rfl⟩ := array5 (hsz.trans (by kernel_rfl))
  obtain ⟨fuel, hf⟩ := h
  obtain ⟨ys, n, _, _, _, hyl, hfl⟩ := DataW.trod_struct Tryd.underlying24 hf
  have hyl5 : ys.length = 5 := hyl
  have g0 := hfl 0 _ rfl
  have g1 := hfl 1 _ rfl
  have g2 := hfl 2 _ rfl
  have g3 := hfl 3 _ rfl
  have k5 : Tryd.prog.cellsOf 5 = 1 := by kernel_rfl
  have k9 : Tryd.prog.cellsOf 9 = 1 := by kernel_rfl
  have k22 : Tryd.prog.cellsOf 22 = 1 := by kernel_rfl
  have k3 : Tryd.prog.cellsOf 3 = 1 := by kernel_rfl
  have g4 := hfl 4 _ rfl
  have y0 : ys[0]? = some (ys[0]'(by omega)) := List.getElem?_eq_getElem (by omega)
  have y1 : ys[1]? = some (ys[1]'(by omega)) := List.getElem?_eq_getElem (by omega)
  have y2 : ys[2]? = some (ys[2]'(by omega)) := List.getElem?_eq_getElem (by omega)
  have y3 : ys[3]? = some (ys[3]'(by omega)) := List.getElem?_eq_getElem (by omega)
  have y4 : ys[4]? = some (ys[4]'(by omega)) := List.getElem?_eq_getElem (by omega)
  obtain ⟨a0, e0, _, w0⟩ := DataW.trod_int Tryd.underlying5 (g0.trans y0)
  obtain ⟨a1, e1, _, w1⟩ := DataW.trod_string Tryd.underlying9 (g1.trans y1)
  obtain ⟨a2, e2, _, w2⟩ := DataW.trod_string Tryd.underlying9 (g2.trans y2)
  obtain ⟨a3, e3, _, w3⟩ := DataW.trod_int Tryd.underlying22 (g3.trans y3)
  obtain ⟨a4, e4, _, w4⟩ := DataW.trod_int Tryd.underlying3 (g4.trans y4)
  simp [Value.cells, k5] at e0
  simp [Value.cells, k9] at e1 e2
  simp [Value.cells, k22] at e3
  simp [Value.cells, k3] at e4
  subst e0 e1 e2 e3 e4
  obtain ⟨x0, rfl⟩ := Int.eq_ofNat_of_zero_le (bounds_u8 w0).1
  obtain ⟨x3, rfl⟩ := Int.eq_ofNat_of_zero_le (bounds_u64 w3).1
  have h0 := (bounds_u8 w0).2
  have h3 := (bounds_u64 w3).2
  exact ⟨⟨x0, a1, a2, x3, a4⟩, rfl, w1, w2, by show x0 < 256; omega, by show x3 ≤ Name.top; unfold Name.top; omega⟩
end

/-- What the rows of this seat list. -/
abbrev laidVars : List (String × DataW Unit) := [("unicode/utf8.acceptRanges", Rows.laid_unicode_utf8_acceptRanges), ("unicode/utf8.first", Rows.laid_unicode_utf8_first)]
/-- The heap that holds what is listed meets the condition. -/
theorem laid_met (os : Os) (args : Array Value) : laidMetH Tryd.prog laidVars ((World.laidAll Tryd.prog os laidVars).forCall (fun _ _ => 0) ⟨#[], args, []⟩).memory := by
  rw [MakeChecks.laidMetH_plain _ _ _ (by kernel_rfl)]
  exact laidMet_laidAll _ (by kernel_rfl) (by kernel_rfl)

end Go.Proofs.YtaeiahkomdpcoaaDoor
end

section
/- Versions as an argument. -/
namespace Go.Proofs.YtaeiahkomdpcoaaDoor.Page
open Go Go.RowKit Go.ChangeShapes Go.WideShapes Go.Deep Go.Joins Go.Proofs.YtaeiahkomdpcoaaDoor.Seq

section
variable {H : Type} {enc : TypeId × Value → H} {P : Program} {w : World} {base : Nat} {spare : Nat → Bool} {held : Bool}
theorem open_slice_fields {t e : TypeId} {fs : Array Field} {fuel : Nat} {cs : List Value} {x : DataW H × List MemPlace} (ht : P.underlying t = some (.slice e)) (he : P.underlying e = some (.struct fs))
    (hone : oneCellFields P fs = true) (hC : P.cellsOf e = fs.size) (h : DataW.trod enc P w base spare held fuel t cs = some x) :
    (cs = [.slice none 0 0] ∧ x = (.nil, [])) ∨
    ∃ (a : Addr) (len cap m : Nat) (D : Nat → DataW H) (Pl : Nat → List MemPlace), cs = [.slice (some a) len cap] ∧ base ≤ a.block ∧ len ≤ cap ∧ cap ≤ maxLen ∧ m = (if spare a.block then cap else len) ∧
      x = (.slice ((List.range len).map D) ((List.range (m - len)).map fun j => D (len + j)), MemPlace.row a (m * fs.size) ++ (List.range m).flatMap Pl) ∧
      ∀ i, i < m → ∃ (ys : List (DataW H × List MemPlace)) (n : Nat), D i = .agg (ys.map (·.1)) ∧ Pl i = ys.flatMap (·.2) ∧ ys.length = fs.size ∧
        ∀ (j : Nat) (f : Field), fs[j]? = some f → ∃ (v : Value) (y : DataW H × List MemPlace), w.cell? (a.add (i * fs.size + j)) = some v ∧ ys[j]? = some y ∧ DataW.trod enc P w base spare held n f.type [v] = some y := by
  rcases open_slice ht h with h0 | ⟨a, len, cap, m, n, D, Pl, hcs, hb, hl, hm, hmm, hx, hi⟩
  · exact .inl h0
  · refine .inr ⟨a, len, cap, m, D, Pl, hcs, hb, hl, hm, hmm, by rw [hC] at hx; exact hx, fun i him => ?_⟩
    obtain ⟨cs', hc, ht'⟩ := hi i him
    rw [hC] at hc
    obtain ⟨ys, n', hn', hy, hlen, hyl, hf⟩ := DataW.trod_struct he ht'
    obtain ⟨_, hcl, hat⟩ := World.cells?_some hc
    simp only [Prod.mk.injEq] at hy
    refine ⟨ys, n', hy.1, hy.2, hyl, fun j f hj => ?_⟩
    obtain ⟨ho, hk⟩ := hone_of hone j f hj
    have hjl : j < fs.size := (Array.getElem?_eq_some_iff.1 hj).1
    have hcell := hat j hjl
    have hv : cs'[j]? = some (cs'[j]'(by omega)) := List.getElem?_eq_getElem (by omega)
    have h1 := hf j f hj
    rw [ho, hk] at h1
    have hone' : (cs'.drop j).take 1 = [cs'[j]'(by omega)] := by
      rw [List.drop_eq_getElem_cons (by omega)]
      rfl
    rw [hone'] at h1
    have hys : ys[j]? = some (ys[j]'(by omega)) := List.getElem?_eq_getElem (by omega)
    refine ⟨_, _, ?_, hys, h1.trans hys⟩
    rw [← Go.Deep.add_add, hcell, hv]
end

section
variable {H : Type} {enc : TypeId × Value → H} {W : World}
theorem open_vers (b : ByteArray) (hb : b.size ≤ 9223372036854775807) {fuel : Nat} {cs : List Value} {x : DataW H × List MemPlace} (h : DataW.trod enc Tryd.prog W 0 (fun _ => true) true fuel 46 cs = some x) :
    ∃ A c vs, cs = [.slice A vs.length c] ∧ VsAt W A vs ∧ ∀ v ∈ vs, v.bk = b := by
  rcases open_slice_fields Tryd.underlying46 Tryd.underlying67 (by kernel_rfl) (by kernel_rfl) h with ⟨rfl, _⟩ | ⟨a, len, cap, m, D, Pl, rfl, _, hl, hm, hmm, _, hel⟩
  · exact ⟨none, 0, [], rfl, fun i s hs => by simp at hs, fun v hv => by cases hv⟩
  · rw [if_pos rfl] at hmm
    have hex : ∀ i, ∃ s : Ver, i < len → s.bk = b ∧ VFit s ∧ W.cell? (a.add (i * 4)) = some (.string s.nm) ∧ W.cell? (a.add (i * 4 + 1)) = some (.int .u64 (s.n : Int)) ∧ W.cell? (a.add (i * 4 + 2)) = some (.string s.tx) ∧ W.cell? (a.add (i * 4 + 3)) = some (.bool s.gone) := fun i => by
      by_cases hi : i < len
      · obtain ⟨ys, n, _, _, _, hf⟩ := hel i (by omega)
        obtain ⟨v0, y0, hc0, _, ht0⟩ := hf 0 _ rfl
        obtain ⟨v1, y1, hc1, _, ht1⟩ := hf 1 _ rfl
        obtain ⟨v2, y2, hc2, _, ht2⟩ := hf 2 _ rfl
        obtain ⟨v3, y3, hc3, _, ht3⟩ := hf 3 _ rfl
        obtain ⟨k0, e0, _, w0⟩ := DataW.trod_string Tryd.underlying9 ht0
        obtain ⟨k1, e1, _, w1⟩ := DataW.trod_int Tryd.underlying22 ht1
        obtain ⟨k2, e2, _, _⟩ := DataW.trod_string Tryd.underlying9 ht2
        obtain ⟨k3, e3, _⟩ := DataW.trod_bool Tryd.underlying4 ht3
        simp at e0 e1 e2 e3
        subst e0 e1 e2 e3
        obtain ⟨x1, rfl⟩ := Int.eq_ofNat_of_zero_le (bounds_u64 w1).1
        have h1 := (bounds_u64 w1).2
        exact ⟨⟨b, k0, x1, k2, k3⟩, fun _ => ⟨rfl, ⟨hb, w0, by show x1 ≤ Name.top; unfold Name.top; omega⟩, hc0, hc1, hc2, hc3⟩⟩
      · exact ⟨⟨b, b, 0, b, true⟩, fun h => absurd h hi⟩
    obtain ⟨f, hf⟩ := Classical.skolem.1 hex
    refine ⟨some a, cap, (List.range len).map f, by simp, fun i s hs => ?_, fun v hv => ?_⟩
    · have hi : i < len := by
        rcases Nat.lt_or_ge i len with h | h
        · exact h
        · rw [List.getElem?_eq_none (by simpa using h)] at hs; cases hs
      have : s = f i := by
        rw [List.getElem?_map, List.getElem?_range hi] at hs
        exact (Option.some.inj hs).symm
      subst this
      obtain ⟨_, h0, h1, h2, h3, h4⟩ := hf i hi
      refine ⟨a, rfl, ?_, h1, h2, h3, h4, h0⟩
      have := World.block_lt_of_cell? _ _ h1
      rwa [block_of_add] at this
    · obtain ⟨i, hi, rfl⟩ := List.mem_map.1 hv
      exact (hf i (List.mem_range.1 hi)).1
set_option maxRecDepth 100000 in
theorem open_vers_arg (b : ByteArray) (hb : b.size ≤ 9223372036854775807) {r : Reach} {b0 : Nat} {v : Value} {d : DataW H} {p : List MemPlace} (hv : Value.okWide Tryd.prog W r b0 46 v) (h : DataW.Trod enc Tryd.prog W 0 (fun _ => true) true 46 v d p) :
    ∃ A c vs, v = .slice A vs.length c ∧ VsAt W A vs ∧ ∀ u ∈ vs, u.bk = b := by
  obtain ⟨a, len, cap, rfl⟩ := okWide_slice Tryd.underlying46 hv
  obtain ⟨fuel, hf⟩ := h
  obtain ⟨A, c, vs, e, h1, h2⟩ := open_vers b hb hf
  simp [Value.cells] at e
  obtain ⟨rfl, rfl, rfl⟩ := e
  exact ⟨_, _, vs, rfl, h1, h2⟩
end

end Go.Proofs.YtaeiahkomdpcoaaDoor.Page
end

section
/- For any versions, any others, any prefix, number and count hoardlaw24.PageOthers returns true: what stands in another bucket makes no difference to a page; the tied card. No condition on the input. -/
namespace Go.Proofs.YtaeiahkomdpcoaaDoor.PageOthers
open Go.RowKit Go.ChangeShapes Go.WideShapes Go.ChangeAt Go.Joins
open Go.ChangeMaps (open_string)

theorem trodAll_five {H : Type} {enc : TypeId × Value → H} {P : Program} {w : World} {base : Nat} {spare : Nat → Bool} {held : Bool} {t t' t'' t3 t4 : TypeId} {args : Array Value} {ds : List (DataW H)} {ps : List MemPlace} (h : DataW.TrodAll enc P w base spare held [t, t', t'', t3, t4] args.toList ds ps) :
    ∃ v v' v'' v3 v4 d d' d'' d3 d4 p p' p'' p3 p4, args = #[v, v', v'', v3, v4] ∧ ds = [d, d', d'', d3, d4] ∧ DataW.Trod enc P w base spare held t v d p ∧ DataW.Trod enc P w base spare held t' v' d' p' ∧ DataW.Trod enc P w base spare held t'' v'' d'' p'' ∧ DataW.Trod enc P w base spare held t3 v3 d3 p3 ∧ DataW.Trod enc P w base spare held t4 v4 d4 p4 := by
  obtain ⟨v, vs, d, ds', p, ps', e1, rfl, rfl, h0, h⟩ := trodAll_cons h
  obtain ⟨v', vs', d', ds'', p', ps'', rfl, rfl, rfl, h1, h⟩ := trodAll_cons h
  obtain ⟨v'', vs'', d'', ds3, p'', ps3, rfl, rfl, rfl, h2, h⟩ := trodAll_cons h
  obtain ⟨v3, vs3, d3, ds4, p3, ps4, rfl, rfl, rfl, h3, h⟩ := trodAll_cons h
  obtain ⟨v4, vs4, d4, ds5, p4, ps5, rfl, rfl, rfl, h4, h⟩ := trodAll_cons h
  obtain ⟨rfl, rfl, rfl⟩ := trodAll_nil h
  exact ⟨v, v', v'', v3, v4, d, d', d'', d3, d4, p, p', p'', p3, p4, by rw [← Array.toList_inj, e1], rfl, h0, h1, h2, h3, h4⟩

set_option maxRecDepth 100000 in
theorem lifted (os : Os) (started : os.Started) (H : Type) (enc : TypeId × Value → H) :
    ReturnsInHanded {} Tryd.checked os 8 .any (fun w args => (Rows.pageOthersSpec.pre enc Tryd.prog Tryd.f8 [] false w args ∧ laidMetH Tryd.prog laidVars w) ∧ sizedMet enc Tryd.prog Tryd.f8 (OpenSpec.ofChange Rows.pageOthersSpec) false w args)
      (Rows.pageOthersSpec.post enc Tryd.prog Tryd.f8 false true false false) := by
  refine returns_and_shaped (C := Tryd.checked) (X := fun w _ => laidMetH Tryd.prog laidVars w) own started (by kernel_rfl) Tryd.func8
    (ChangeSpec.witness_shaped (enc := enc) (C := Tryd.checked) (os := os) (X := fun w _ => laidMetH Tryd.prog laidVars w) false (World.laidAll Tryd.prog os laidVars) #[.slice none 0 0, .slice none 0 0, .string ⟨#[]⟩, .int .u64 0, .int .u8 0] 8 (World.laidAll_os _ _ _) (World.shaped_of_ZipB (by kernel_rfl) (by kernel_rfl)) (by kernel_rfl) (by kernel_rfl) (by kernel_rfl) (laid_met os _)) ?_
  intro W base args ds gs before hval0 hW hsh
  have hval : ∀ (j : Nat) t v, Tryd.f8.params[j]? = some t → args[j]? = some v → Value.okWide Tryd.prog W .any base t v := hval0
  have hW' := hW
  obtain ⟨p, q, hA0, hV, rfl, _, _⟩ := hW'
  have hA : DataW.TrodAll enc Tryd.prog W 0 (fun _ => true) true Tryd.f8.params.toList args.toList ds p := hA0
  rw [Tryd.params8] at hA hval
  obtain ⟨v0, v1, v2, v3, v4, d0, d1, d2, d3, d4, p0, p1, p2, p3, p4, rfl, rfl, h0, h1, h2, h3, h4⟩ := trodAll_five hA
  obtain ⟨rfl, rfl⟩ := trodVars_none hV
  obtain ⟨A0, c0, l0, rfl, g0, e0⟩ := Page.open_vers_arg Page.kB (by decide) (hval 0 46 v0 rfl rfl) h0
  obtain ⟨A1, c1, l1, rfl, g1, e1⟩ := Page.open_vers_arg Page.jB (by decide) (hval 1 46 v1 rfl rfl) h1
  obtain ⟨s2, rfl, rfl, rfl, g2⟩ := open_string Tryd.underlying9 (hval 2 9 v2 rfl rfl) h2
  obtain ⟨a3, rfl, rfl, rfl, wf3⟩ := open_int Tryd.underlying22 (hval 3 22 v3 rfl rfl) h3
  obtain ⟨x3, rfl⟩ := Int.eq_ofNat_of_zero_le (bounds_u64 wf3).1
  obtain ⟨a4, rfl, rfl, rfl, wf4⟩ := open_int Tryd.underlying5 (hval 4 5 v4 rfl rfl) h4
  obtain ⟨x4, rfl⟩ := Int.eq_ofNat_of_zero_le (bounds_u8 wf4).1
  have g4 : x4 < 256 := by have := (bounds_u8 wf4).2; omega
  refine (Page.others_law A0 c0 l0 A1 c1 l1 s2 x3 x4 W g0 e0 g1 e1 g4 (var0 hsh)).mono fun e W' ⟨he, hbl⟩ => ⟨_, he, ?_⟩
  exact law_post (tb := 4) hW hbl laidOut (by kernel_rfl) (by kernel_rfl) Tryd.underlying4 rfl rfl

theorem row : Rows.PageOthersSaid :=
  OpenClaim.holds_of_wide 8 Tryd.f8 rfl rfl rfl rfl rfl rfl rfl ⟨rfl, rfl, rfl, rfl, rfl⟩ rfl rfl rfl rfl rfl (by kernel_rfl) Tryd.func8 (by kernel_rfl)
    (of_decide_eq_true (by kernel_rfl)) (by unfold Func.isWrapper; first | (rw [if_pos (by decide +kernel)]; kernel_rfl) | (rw [if_neg (by decide +kernel)]; exact ⟨rfl, rfl⟩))
    (fun os started H enc _ => lifted os started H enc)

theorem proved : Rows.PageOthersCardSaid :=
  Claim7.holds_tied_plain_at .later [] [.data, .pinned] true (true, "6cc19f968f7135cb6fb66fecfa91c3da54190d97e309536a7f2f3cb812c88f03") false
    row (fun _ h => by cases h) (by kernel_rfl) (fun _ h => by cases h) pageOthers_row_tie rfl ⟨rfl, rfl⟩ (by kernel_rfl) rfl
    (fun f fn hf hfn => by
      obtain rfl : f = 8 := Option.some.inj ((show Tryd.prog.funcNamed "hoard/hoardlaw24.PageOthers" = some 8 by kernel_rfl).symm.trans hf) |>.symm
      obtain rfl : fn = Tryd.f8 := (Option.some.inj (Tryd.func8.symm.trans hfn)).symm
      exact ⟨by kernel_rfl, fun j t ht => by
        rw [Tryd.params8] at ht
        have hm : t ∈ [46, 46, 9, 22, 5] := by simpa using Array.mem_of_getElem? ht
        have hall : ([46, 46, 9, 22, 5].all fun u => !Tryd.prog.wantsStandIn u) = true := by kernel_rfl
        exact (show Tryd.prog.wantsStandIn t = false by simpa using List.all_eq_true.1 hall t hm)⟩)
    (by kernel_rfl)

#print axioms proved
end Go.Proofs.YtaeiahkomdpcoaaDoor.PageOthers
end
