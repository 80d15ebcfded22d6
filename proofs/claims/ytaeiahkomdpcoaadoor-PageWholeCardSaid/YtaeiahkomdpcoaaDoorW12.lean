/- For any versions, any prefix and any count hoardlaw24.PageWhole returns true: page after page tells each name once, in order, as one page of all would; the tied card. No condition on the input. -/
import Derived.Test.YtaeiahkomdpcoaaDoorRows
import Derived.Test.YtaeiahkomdpcoaaDoorCards
import Derived.Test.YtaeiahkomdpcoaaDoorTie
import Derived.LaidMore
import Derived.Stop.Joined
import Derived.HandedShaped
import Derived.Shelf.Vars
import Derived.Deep.Fields
import Derived.Lib.SmallJoins
import Derived.Lay
import Derived.Deep.Slices
import Derived.ChangeSame
import Derived.ChangeSlices
import Derived.Test.YtaeiahkomdpcoaaDoorW11
import Derived.Test.YtaeiahkomdpcoaaDoorW1
import Derived.Test.YtaeiahkomdpcoaaDoorW6
import Derived.Test.YtaeiahkomdpcoaaDoorW10

section
/- The walk of hoardlaw24.PageWhole. -/
namespace Go.Proofs.YtaeiahkomdpcoaaDoor.Page
open Go Go.RowKit Go.Deep Go.Proofs.YtaeiahkomdpcoaaDoor.Seq

set_option maxHeartbeats 4000000 in
set_option maxRecDepth 100000 in
theorem whole_law (A : Option Addr) (c : Nat) (l : List Ver) (pre : ByteArray) (m0 : Nat) (w : World) (h : VsAt w A l) (hk : ∀ v ∈ l, v.bk = kB) (hm0 : m0 < 256) (hv : Name.Var0 w) (hps : pre.size ≤ 9223372036854775807) :
    Calls Tryd.prog 7 #[.slice A l.length c, .string pre, .int .u8 (m0 : Int)] w fun e w' => e = .returned (.bool true) ∧ Below w.heap.size w w' := by
  have HW := Lib.hid (fun W (h : Name.Var0 W) => works_calls W h)
  have HM := Lib.hid (many_calls A c l w h)
  have hln : ∀ v ∈ l, v.n ≤ Name.top := fun v hvl => by
    obtain ⟨i, hi, rfl⟩ := List.getElem_of_mem hvl
    obtain ⟨_, _, _, _, _, _, _, hf⟩ := h i _ (List.getElem?_eq_getElem hi)
    exact hf.n
  have HR : Hid (l.length ≤ 60 → ∀ W, Below w.heap.size w W → Calls Tryd.prog 29 #[.slice A l.length c] W fun e w' => ∃ Ao cp, e = .returned (.slice Ao (rowsV l).length cp) ∧ AllAt w' Ao (rowsV l) ∧ Below W.heap.size W w') := fun hl W hB =>
    (rows_calls A c l W (h.below hB) hl hk (hv.below hB)).mono fun e w' ⟨Ao, cp, he, hO, hb⟩ => ⟨Ao, cp, he, ⟨OwnP.prs hO, (hv.below hB).below hb⟩, hb⟩
  have HK : Hid (l.length ≤ 60 → RowK (rowsV l)) := fun hl => rowK l hl hk hln
  obtain ⟨all, qall⟩ : ∃ r, r = rowsV l := ⟨_, rfl⟩
  rw [← qall] at HR HK
  clear qall h hk hln
  obtain ⟨n, qn⟩ : ∃ n, n = m0 % 8 + 1 := ⟨_, rfl⟩
  have hn1 : 1 ≤ n := by omega
  have hn2 : n ≤ 8 := by omega
  go_enter Tryd.func7, Tryd.ntmps7
  go_wp2_with fail
  refine HM.out.mono ?_
  rintro e w1 ⟨⟨mb, rfl, hmb⟩, b1⟩
  have HMB := Lib.hid hmb
  have v1 := hv.below b1
  clear hmb hv
  cases mb
  case true =>
    go_wp2_with fail
    refine (HW.out _ v1).mono ?_
    rintro e w2 ⟨rfl, b2⟩
    have c2 := below_of b1 b2
    go_wp2_with fail
    go_ret
    exact ⟨rfl, c2⟩
  case false =>
    have hl := HMB.out rfl
    have HRR := Lib.hid (HR.out hl)
    have hK := HK.out hl
    clear HR HK HMB HM
    by_cases hp : pre.size ≤ 200
    case neg =>
      have i1 : (200 : Int) < (pre.size : Int) := by omega
      go_wp2_with fail
      refine (HW.out _ v1).mono ?_
      rintro e w2 ⟨rfl, b2⟩
      have c2 := below_of b1 b2
      go_wp2_with fail
      go_ret
      exact ⟨rfl, c2⟩
    case pos =>
      have i1 : ¬ (200 : Int) < (pre.size : Int) := by omega
      go_upto_region 3 with fail
      go_wp2_with fail
      refine (HRR.out _ b1).mono ?_
      rintro e w2 ⟨Ao, ca, rfl, A2, b2⟩
      have c2 := below_of b1 b2
      clear HRR v1 b1 b2
      go_upto_region 5 with fail
      have e8 : ((m0 : Int) % 8 + 1) = (n : Int) := by omega
      rw [e8]
      obtain ⟨S, qS⟩ : ∃ S, S = sel pre none' none' all := ⟨_, rfl⟩
      have hSl : S.length ≤ 60 := by have := sel_len pre none' none' all; have := hK.len; rw [qS]; omega
      have HS := Lib.hid qS
      have HK := Lib.hid hK
      have HN1 : Hid (∀ W, AllAt W Ao all → Calls Tryd.prog 30 #[ofV W.heap.size, .string ⟨#[107]⟩, .string pre, .string ⟨#[]⟩, .int .i64 256] (W.alloc (.cells #[.slice Ao all.length ca] 48)) fun e w' =>
          ∃ A' cp, e = .returned (.tuple #[.agg #[.slice A' S.length cp, .bool false], .int .i64 0]) ∧ ItsAt w' A' S ∧ (∀ ad, A' = some ad → W.heap.size ≤ ad.block) ∧ Below W.heap.size W w') :=
        fun W hA => names_k hK hA hp (by decide) (by decide) (by decide) (by show cutP 256 (sel pre none' none' (itemsOf kB all)) = _; rw [hK.items, ← qS]; exact cut_all (by omega))
      have HN2 : Hid (∀ W (gl : List Ver) (a : ByteArray), AllAt W Ao all → a.size ≤ 200 → sel pre a none' all = S.drop gl.length → gl = S.take gl.length → ∃ pl m, Hid (gl ++ pl = S.take (gl.length + n) ∧ pl.length = min n (S.length - gl.length) ∧ m = decide (n < S.length - gl.length)) ∧ Calls Tryd.prog 30 #[ofV W.heap.size, .string ⟨#[107]⟩, .string pre, .string a, .int .i64 (n : Int)] (W.alloc (.cells #[.slice Ao all.length ca] 48)) fun e w' =>
          ∃ A' cp, e = .returned (.tuple #[.agg #[.slice A' pl.length cp, .bool m], .int .i64 0]) ∧ ItsAt w' A' pl ∧ (∀ ad, A' = some ad → W.heap.size ≤ ad.block) ∧ Below W.heap.size W w') :=
        fun W gl a hA ha h1 h2 => ⟨(cutP n (sel pre a none' (itemsOf kB all))).1, (cutP n (sel pre a none' (itemsOf kB all))).2, page_step rfl hK h1 h2, names_k hK hA hp ha hn1 (by omega) rfl⟩
      have HO := Lib.hid (of_calls Ao all.length ca)
      clear hK qS e8 qn hl hm0 i1 hps
      go_wp2_with fail
      refine (HO.out _).mono ?_
      rintro e wb ⟨rfl, rfl⟩
      go_wp2_with fail
      refine (HN1.out _ A2).mono ?_
      rintro e w3 ⟨A1, c1, rfl, I3, F3, b3⟩
      have A3 := A2.below b3
      have c3 := below_of c2 b3
      have b4 := below_one w3 (.cells #[.slice A1 S.length c1, .bool false] 52)
      have P4 := pgRow_new w3 A1 S.length c1 false
      have I4 := I3.below b4
      have A4 := A3.below b4
      have c4 := below_of c3 b4
      clear A2 b3 I3 A3 c3 HN1 F3 b4
      go_upto_region 6 with fail
      obtain ⟨g1, qg1⟩ : ∃ g, g = w3.heap.size := ⟨_, rfl⟩
      obtain ⟨W4, q4⟩ : ∃ W, W = w3.alloc (.cells #[.slice A1 S.length c1, .bool false] 52) := ⟨_, rfl⟩
      rw [← q4] at P4 I4 A4 c4 ⊢
      rw [← qg1] at P4 ⊢
      clear q4 qg1
      have hg1 := P4.lt
      obtain ⟨i0, hi, hz0, hz1, hz2⟩ := info_parts infoItem
      have HQ := Lib.hid (⟨P4, I4, A4, c4⟩ : PgRow W4 g1 A1 S.length c1 false ∧ ItsAt W4 A1 S ∧ AllAt W4 Ao all ∧ Below w.heap.size w W4)
      have HP4 : Hid (∀ W, Below W4.heap.size W4 W → PgRow W g1 A1 S.length c1 false ∧ ItsAt W A1 S ∧ AllAt W Ao all ∧ Below w.heap.size w W) := fun W hb => ⟨P4.below hb, I4.below hb, A4.below hb, below_of c4 hb⟩
      obtain ⟨p0, p1⟩ := P4.c
      clear P4 I4 A4 c4 HQ
      go_upto_block 0 with fail
      clear p0 p1
      go_cut [11] from 46 to 105 (fun s11 wx => ∃ A' c', s11 = .slice A' S.length c' ∧ OwnI wx W4.heap.size A' c' S ∧ Below W4.heap.size W4 wx)
      case first =>
        go_wp2_with fail
        go_loopw [11, 12, 13] (fun gv av iv wr => ∃ (gl : List Ver) (Ag : Option Addr) (cg i : Nat) (a : ByteArray), gv = .slice Ag gl.length cg ∧ av = .string a ∧ iv = .int .i64 (i : Int) ∧ Hid (gl = S.take gl.length ∧ sel pre a none' all = S.drop gl.length ∧ a.size ≤ 200 ∧ (gl.length < S.length ∨ gl.length = 0)) ∧ i ≤ gl.length ∧ gl.length ≤ S.length ∧ OwnI wr W4.heap.size Ag cg gl ∧ Below W4.heap.size W4 wr) (fun _ _ iv _ => 61 - (intOf iv).toNat)
        case atStart => exact ⟨[], none, 0, 0, none', rfl, rfl, rfl, Lib.hid ⟨rfl, HS.out.symm, by decide, .inr rfl⟩, Nat.le_refl _, Nat.zero_le _, World.ownsRow_nil _ _ _ _, Below.refl _ _⟩
        case round =>
          obtain ⟨gl, Ag, cg, i, a, rfl, rfl, rfl, HG, hig, hgS, O, hb⟩ := hrel
          obtain ⟨P, I, AL, B⟩ := HP4.out _ hb
          obtain ⟨p0, p1⟩ := P.c
          obtain ⟨pl, m, HPL, HC⟩ := HN2.out wr gl a AL HG.out.2.2.1 HG.out.2.1 HG.out.1
          have HC := Lib.hid HC
          have i1 : (i : Int) ≤ (S.length : Int) := by omega
          go_wp2_with fail
          refine (HO.out _).mono ?_
          rintro e wb ⟨rfl, rfl⟩
          go_wp2_with fail
          refine HC.out.mono ?_
          rintro e w5 ⟨A5, c5, rfl, I5, F5, b5⟩
          have b6 := below_one w5 (.cells #[.slice A5 pl.length c5, .bool m] 52)
          have Q6 := pgRow_new w5 A5 pl.length c5 m
          have I6 := I5.below b6
          have O6 := own_below (own_below O b5) b6
          have hb6 := hb.trans ((below_of b5 b6).mono hb.size)
          have hob : ∀ k, (Value.slice Ag gl.length cg).ownBlock = some k → W4.heap.size ≤ k ∧ k < wr.heap.size := fun k e => O.lt k e
          have hs5 := b5.size
          clear P I AL B p0 p1 O hb b5 b6 I5 HC
          go_upto_region 14 with fail
          obtain ⟨g2, qg2⟩ : ∃ g, g = w5.heap.size := ⟨_, rfl⟩
          have hg2 : wr.heap.size ≤ g2 := by omega
          obtain ⟨W6, q6⟩ : ∃ W, W = w5.alloc (.cells #[.slice A5 pl.length c5, .bool m] 52) := ⟨_, rfl⟩
          rw [← q6] at Q6 I6 O6 hb6 ⊢
          rw [← qg2] at Q6 ⊢
          clear q6 qg2 hs5
          obtain ⟨P, _, _, _⟩ := HP4.out _ hb6
          obtain ⟨p0, p1⟩ := P.c
          obtain ⟨r0, r1⟩ := Q6.c
          by_cases hmore : n < S.length - gl.length
          case pos =>
            obtain ⟨hl1, hl2, hl3⟩ := HPL.out
            obtain rfl : m = true := by rw [hl3]; exact decide_eq_true hmore
            have hpn : pl.length = n := by omega
            have HPN := Lib.hid hpn
            have j1 : (gl.length : Int) + (pl.length : Int) < (S.length : Int) := by omega
            have j2 : ¬ (n : Int) < (pl.length : Int) := by omega
            have j3 : 0 < pl.length := by omega
            have j4 : gl.length ≤ 60 ∧ pl.length ≤ 60 := ⟨by omega, by omega⟩
            have j5 : ¬ (pl.length : Int) = 0 := by omega
            clear hl1 hl2 hl3 hpn
            obtain ⟨ad, rfl, had, _⟩ := I6.at_ j3
            go_upto_region 16 with fail
            go_wp2_with (at_builtin; go_loud (refine wpList_append_own _ rfl _ _ 50 rfl W4.heap.size 59 i0 (.agg #[.string ⟨#[]⟩, .int .u64 0, .int .i64 0, .bool false]) 4 40 Tryd.underlying50 hi hz0 hz1 hz2 rfl (by decide) _ _ _ rfl O6 ad pl.length c5 (itCells pl) rfl (itCells_len _) (its_cells I6) (itCells_one _) ?c3 ?c4 hb6.size ?_))
            case c3 => unfold maxLen; omega
            case c4 => omega
            intro v7 w7 hown7 hg7 _
            have hb7 := below_own hb6 hg7 hb6.size (fun r e => (hob r e).1)
            have Q7 := Q6.grown hg7 (fun e => by have := (hob _ e).2; omega)
            have I7 := I6.grown (fun ad' e1 e2 => by have := (hob _ e2).2; have := F5 ad' e1; omega) hg7
            obtain ⟨A7, c7, rfl, O7⟩ := own_app hown7
            obtain ⟨g7, q7⟩ : ∃ g, g = gl ++ pl := ⟨_, rfl⟩
            have hl7 : g7.length = gl.length + pl.length := by rw [q7, List.length_append]
            have HG7 := Lib.hid q7
            rw [← q7] at O7 ⊢
            clear q7 hown7 hg7 O6 Q6 I6 P p0 p1 r0 r1 hb6
            obtain ⟨r0, r1⟩ := Q7.c
            have hk1 : n - 1 < pl.length := by have := HPN.out; omega
            obtain ⟨ad2, e0, _, d0, _, _, _⟩ := I7.at_ hk1
            cases e0
            obtain ⟨nx, qnx⟩ : ∃ x, x = pl[n - 1].nm := ⟨_, rfl⟩
            rw [← qnx] at d0
            have HX : Hid (sel pre nx none' all = S.drop g7.length ∧ nx.size ≤ 200) := by
              show _ ∧ _
              rw [qnx, HG7.out]
              exact page_next HS.out HK.out hn1 (by have := HPN.out; omega) HPL.out.1 HPN.out hk1
            have d1 : w7.cell? (ad.add ((pl.length - 1) * 4)) = some (.string nx) := by rw [HPN.out]; exact d0
            have j6 : (pl.length : Int) - 1 < (pl.length : Int) := by omega
            have HI : Hid (i + 1 ≤ g7.length ∧ g7.length ≤ S.length ∧ (g7.length < S.length ∨ g7.length = 0) ∧ g7 = S.take g7.length) := by
              have := HPN.out
              refine ⟨by omega, by omega, .inl (by omega), ?_⟩
              conv => lhs; rw [HG7.out, HPL.out.1]
              congr 1
              omega
            clear d0 qnx
            go_wp2_with fail
            go_roundw
            case rel => exact ⟨g7, A7, c7, i + 1, nx, rfl, rfl, by go_num, Lib.hid ⟨HI.out.2.2.2, HX.out.1, HX.out.2, HI.out.2.2.1⟩, HI.out.1, HI.out.2.1, O7, hb7⟩
            case measure => simp [intOf]; omega
          case neg =>
            obtain ⟨hl1, hl2, hl3⟩ := HPL.out
            obtain rfl : m = false := by rw [hl3]; exact decide_eq_false hmore
            have hpn : pl.length = S.length - gl.length := by omega
            have e7 : Hid (gl ++ pl = S) := by show _ = _; rw [hl1]; exact List.take_of_length_le (by omega)
            have HPN := Lib.hid hpn
            have j1 : ¬ (gl.length : Int) + (pl.length : Int) < (S.length : Int) := by omega
            have j2 : ¬ (n : Int) < (pl.length : Int) := by omega
            have j4 : gl.length ≤ 60 ∧ pl.length ≤ 60 := ⟨by omega, by omega⟩
            clear hl1 hl2 hl3 hpn hmore
            cases A5 with
            | none =>
              have hpl : pl = [] := by
                rcases Nat.eq_zero_or_pos pl.length with h0 | h0
                · exact List.eq_nil_of_length_eq_zero h0
                · obtain ⟨_, e0, _⟩ := I6.at_ h0
                  cases e0
              subst hpl
              obtain rfl : gl = S := by have := e7.out; rwa [List.append_nil] at this
              have j8 : ¬ (gl.length : Int) < (gl.length : Int) := by omega
              simp only [List.length_nil] at *
              clear e7 HPN I6
              go_upto_region 16 with fail
              go_wp2_with (at_builtin; go_loud (refine wpList_append_empty rfl _ _ 50 rfl 59 i0 Tryd.underlying50 hi W4.heap.size 4 _ _ _ rfl O6 c5 rfl ?_))
              go_meet
              case rel => exact ⟨Ag, cg, rfl, O6, hb6⟩
            | some ad =>
              go_upto_region 16 with fail
              go_wp2_with (at_builtin; go_loud (refine wpList_append_own _ rfl _ _ 50 rfl W4.heap.size 59 i0 (.agg #[.string ⟨#[]⟩, .int .u64 0, .int .i64 0, .bool false]) 4 40 Tryd.underlying50 hi hz0 hz1 hz2 rfl (by decide) _ _ _ rfl O6 ad pl.length c5 (itCells pl) rfl (itCells_len _) (its_cells I6) (itCells_one _) ?c3 ?c4 hb6.size ?_))
              case c3 => unfold maxLen; omega
              case c4 => omega
              intro v7 w7 hown7 hg7 _
              have hb7 := below_own hb6 hg7 hb6.size (fun r e => (hob r e).1)
              have Q7 := Q6.grown hg7 (fun e => by have := (hob _ e).2; omega)
              have I7 := I6.grown (fun ad' e1 e2 => by have := (hob _ e2).2; have := F5 ad' e1; omega) hg7
              obtain ⟨A7, c7, rfl, O7⟩ := own_app hown7
              rw [e7.out] at O7 ⊢
              clear hown7 hg7 O6 Q6 I6 P p0 p1 r0 r1 hb6
              obtain ⟨r0, r1⟩ := Q7.c
              go_wp2_with fail
              go_meet
              case rel => exact ⟨A7, c7, rfl, O7, hb7⟩
      case rest =>
        obtain ⟨Ag, cg, rfl, O, hb⟩ := hcut
        obtain ⟨P, I, AL, B⟩ := HP4.out _ hb
        have IS := own_its O
        obtain ⟨p0, p1⟩ := P.c
        go_wp2_with fail
        refine (same_calls Ag A1 cg c1 S false _ IS I (by omega)).mono ?_
        rintro e W8 ⟨rfl, b8⟩
        have I8 := IS.below b8
        have A8 := AL.below b8
        have c8 := below_of B b8
        have HP8 : Hid (∀ W, Below W8.heap.size W8 W → ItsAt W Ag S ∧ AllAt W Ao all ∧ Below w.heap.size w W) := fun W hb => ⟨I8.below hb, A8.below hb, below_of c8 hb⟩
        clear P I AL B p0 p1 IS I8 A8 c8 b8 O hb HP4 HN2
        obtain ⟨hF1, hF2, hF3⟩ := sel_facts HS.out HK.out
        have HF1 := Lib.hid hF1
        have HF2 := Lib.hid hF2
        have HF3 := Lib.hid hF3
        clear hF1 hF2 hF3
        go_wp2_with fail
        go_loopw [16] (fun iv wr => ∃ k : Nat, k ≤ S.length ∧ iv = .int .i64 (k : Int) ∧ Below W8.heap.size W8 wr) (fun iv _ => S.length - (intOf iv).toNat)
        case atStart => exact ⟨0, Nat.zero_le _, rfl, Below.refl _ _⟩
        case round =>
          obtain ⟨k, hk, rfl, hb⟩ := hrel
          by_cases hlt : k < S.length
          · obtain ⟨x, qx⟩ : ∃ x, x = S[k] := ⟨_, rfl⟩
            have hxm : x ∈ S := by rw [qx]; exact List.getElem_mem hlt
            have HX := Lib.hid qx
            have HXA : Hid (x ∈ all) := (HF1.out x hxm).1
            have HXG : Hid (x.gone = false) := (HF1.out x hxm).2
            have HXV : Hid ((cutP 1 (selV x.nm 0 (itemsOf kB all))).1 = [x]) := HF3.out x hxm
            have HXI : Hid (∀ W, Below W8.heap.size W8 W → ∃ ad, Ag = some ad ∧ ad.block < W.heap.size ∧ W.cell? (ad.add (k * 4)) = some (.string x.nm) ∧ W.cell? ⟨(ad.add (k * 4)).block, (ad.add (k * 4)).off + 1, none⟩ = some (.int .u64 (x.n : Int)) ∧ W.cell? ⟨(ad.add (k * 4)).block, (ad.add (k * 4)).off + 2, none⟩ = some (.int .i64 x.len) ∧ W.cell? ⟨(ad.add (k * 4)).block, (ad.add (k * 4)).off + 3, none⟩ = some (.bool x.gone)) := fun W hb => by
              rw [HX.out]; exact (HP8.out W hb).1.at_ hlt
            have HXP : Hid (0 < k → ∀ W, Below W8.heap.size W8 W → ∃ (ad : Addr) (y : ByteArray), Ag = some ad ∧ W.cell? (ad.add ((k - 1) * 4)) = some (.string y) ∧ lt y x.nm = true) := fun hk0 W hb => by
              obtain ⟨ad, h1, _, h2, _⟩ := (HP8.out W hb).1.at_ (k := k - 1) (by omega)
              refine ⟨ad, _, h1, h2, ?_⟩
              rw [HX.out]
              exact List.pairwise_iff_getElem.1 HF2.out (k - 1) k (by omega) hlt (by omega)
            clear qx hxm
            go_upto_region 26 with fail
            go_cut [139] from 111 to 169 (fun s139 wx => s139 = .bool false ∧ Below W8.heap.size W8 wx)
            case first =>
              obtain ⟨ad, rfl, hbl, d0, d1, d2, d3⟩ := HXI.out _ hb
              rw [HXG.out] at d3
              by_cases hk0 : 0 < k
              · obtain ⟨ad', y, ea, e0, hly⟩ := HXP.out hk0 _ hb
                cases ea
                have k0 : (0 : Int) < (k : Int) := by omega
                have k1 : (k : Int) - 1 < (S.length : Int) := by omega
                have y1 : Op.bytesLess y.toList x.nm.toList = true := hly
                have y2 : Op.bytesLess x.nm.toList y.toList = false := lt_not hly
                have y3 : (y.toList == x.nm.toList) = false := by
                  rw [ByteArray.toList_eq, ByteArray.toList_eq, beq_eq_false_iff_ne]
                  exact fun h' => lt_ne hly (ByteArray.ext (Array.toList_inj.1 h'))
                clear hly
                go_region
                go_wp2_with fail
                go_meet
                case rel => exact ⟨rfl, hb.drew⟩
              · have k0 : ¬ (0 : Int) < (k : Int) := by omega
                go_region
                go_wp2_with fail
                go_meet
                case rel => exact ⟨rfl, hb.drew⟩
            case rest =>
              clear hb
              obtain ⟨rfl, hb⟩ := hcut
              obtain ⟨mv, qmv⟩ : ∃ m, m = (cutP 1 (selV x.nm 0 (itemsOf kB all))).2 := ⟨_, rfl⟩
              have HVV : Hid (∀ W B, ItB W.heap.size B Ao ca all W → Calls Tryd.prog 33 #[ofV B, .string ⟨#[107]⟩, .string x.nm, .int .u64 0, .int .i64 1] W fun e w' => ∃ A' cp, e = .returned (.tuple #[.agg #[.slice A' 1 cp, .bool mv], .int .i64 0]) ∧ ItsAt w' A' [x] ∧ (∀ ad, A' = some ad → W.heap.size ≤ ad.block) ∧ Below W.heap.size W w') := fun W B h => by
                rw [qmv]; exact versions_k HK.out h HXA.out HXV.out
              clear qmv
              go_upto_region 28 with fail
              go_cut [17, 18] from 111 to 169 (fun s17 s18 wx => ∃ g Av cv, s17 = .pointer (some ⟨g, 0, none⟩) ∧ s18 = .int .i64 0 ∧ PgRow wx g Av 1 cv mv ∧ ItsAt wx Av [x] ∧ Below W8.heap.size W8 wx)
              case first =>
                obtain ⟨ad, rfl, hbl, d0, _, _, _⟩ := HXI.out _ hb
                obtain ⟨_, AL, _⟩ := HP8.out _ hb
                have ibc : ItB (wc.alloc (.cells #[.slice Ao all.length ca] 48)).drew.heap.size wc.heap.size Ao ca all (wc.alloc (.cells #[.slice Ao all.length ca] 48)).drew := ItB.to (AL.box ca) (below_drew (Below.refl _ _)) (Nat.le_refl _)
                have ibb : ItB ((wc.alloc (.cells #[.slice Ao all.length ca] 48)).alloc (.cells #[.slice none 0 0, .bool false] 52)).drew.heap.size wc.heap.size Ao ca all ((wc.alloc (.cells #[.slice Ao all.length ca] 48)).alloc (.cells #[.slice none 0 0, .bool false] 52)).drew := ItB.to (AL.box ca) (below_drew (below_one _ (.cells #[.slice none 0 0, .bool false] 52))) (below_one _ (.cells #[.slice none 0 0, .bool false] 52)).size
                have iba : ItB ((wc.alloc (.cells #[.slice none 0 0, .bool false] 52)).alloc (.cells #[.slice Ao all.length ca] 48)).drew.heap.size (wc.heap.size + 1) Ao ca all ((wc.alloc (.cells #[.slice none 0 0, .bool false] 52)).alloc (.cells #[.slice Ao all.length ca] 48)).drew := ItB.to (it_two ((AL.below (below_one wc (.cells #[.slice none 0 0, .bool false] 52))).box ca)) (below_drew (Below.refl _ _)) (Nat.le_refl _)
                have V0 : XIn wc (ad.add (k * 4)) x.nm wc := ⟨d0, by rw [block_of_add]; exact hbl, Below.refl _ _⟩
                have V1 : XIn wc (ad.add (k * 4)) x.nm wc.drew := V0.below (below_drew (Below.refl _ _))
                have V2 : XIn wc (ad.add (k * 4)) x.nm (wc.alloc (.cells #[.slice Ao all.length ca] 48)).drew := V0.below (below_drew (below_one wc (.cells #[.slice Ao all.length ca] 48)))
                have V3 : XIn wc (ad.add (k * 4)) x.nm ((wc.alloc (.cells #[.slice Ao all.length ca] 48)).alloc (.cells #[.slice none 0 0, .bool false] 52)).drew := V0.below (below_drew (below_of (below_one wc (.cells #[.slice Ao all.length ca] 48)) (below_one _ (.cells #[.slice none 0 0, .bool false] 52))))
                have V4 : XIn wc (ad.add (k * 4)) x.nm (wc.alloc (.cells #[.slice none 0 0, .bool false] 52)).drew := V0.below (below_drew (below_one wc (.cells #[.slice none 0 0, .bool false] 52)))
                have V5 : XIn wc (ad.add (k * 4)) x.nm ((wc.alloc (.cells #[.slice none 0 0, .bool false] 52)).alloc (.cells #[.slice Ao all.length ca] 48)).drew := V0.below (below_drew (below_of (below_one wc (.cells #[.slice none 0 0, .bool false] 52)) (below_one _ (.cells #[.slice Ao all.length ca] 48))))
                have PB : PgRow ((wc.alloc (.cells #[.slice Ao all.length ca] 48)).alloc (.cells #[.slice none 0 0, .bool false] 52)).drew (wc.heap.size + 1) none 0 0 false := pg_two wc (.cells #[.slice Ao all.length ca] 48)
                have PA0 : PgRow ((wc.alloc (.cells #[.slice none 0 0, .bool false] 52)).alloc (.cells #[.slice Ao all.length ca] 48)) wc.heap.size none 0 0 false := (pgRow_new wc none 0 0 false).below (below_one (wc.alloc (.cells #[.slice none 0 0, .bool false] 52)) (.cells #[.slice Ao all.length ca] 48))
                have PA : PgRow ((wc.alloc (.cells #[.slice none 0 0, .bool false] 52)).alloc (.cells #[.slice Ao all.length ca] 48)).drew wc.heap.size none 0 0 false := PA0
                clear PA0
                clear d0 V0
                go_region_held3 (fun w' => w'.cell? (ad.add (k * 4)) = some (.string x.nm) ∧ XIn wc (ad.add (k * 4)) x.nm w')
                  (first | with_reducible exact V1.keep | with_reducible exact V2.keep | with_reducible exact V3.keep | with_reducible exact V4.keep | with_reducible exact V5.keep | with_reducible exact XIn.keep (by assumption) | with_reducible exact XIn.keep (XIn.alloc (by assumption) _) | exact XIn.keep (XIn.set2 (by assumption) (Nat.le_refl _) _ _) | exact XIn.keep (XIn.set2 (by assumption) (Nat.le_succ _) _ _))
                  (first
                    | (go_at_call 31; refine (HO.out _).mono ?_; rintro e wE ⟨rfl, rfl⟩)
                    | (go_at_call 33; with_reducible refine (HVV.out _ _ ibc).mono ?_; rintro e wE ⟨Av, cv, rfl, hIv, hfv, hbE⟩; have HKE := XIn.below V2 hbE)
                    | (go_at_call 33; with_reducible refine (HVV.out _ _ ibb).mono ?_; rintro e wE ⟨Av, cv, rfl, hIv, hfv, hbE⟩; have HKE := XIn.below V3 hbE; have PE := PB.below hbE; obtain ⟨z0, z1⟩ := PE.c; have y0 := PE.f 0; have y1 := PE.f 1)
                    | (go_at_call 33; with_reducible refine (HVV.out _ _ iba).mono ?_; rintro e wE ⟨Av, cv, rfl, hIv, hfv, hbE⟩; have HKE := XIn.below V5 hbE; have PE := PA.below hbE; obtain ⟨z0, z1⟩ := PE.c; have y0 := PE.f 0; have y1 := PE.f 1))
                · go_wp2_with fail
                  go_meet
                  case rel => exact ⟨_, Av, cv, rfl, rfl, pgRow_new wE Av 1 cv mv, hIv.below (below_one wE _), below_of (below_of hb HKE.b) (below_one wE _)⟩
                · go_wp2_with fail
                  go_meet
                  case rel => exact ⟨_, Av, cv, rfl, rfl, (PE.set0 Av 1 cv).set1 mv, (hIv.other ⟨wc.heap.size + 1, 0, none⟩ (fun ad' e => by have := hfv ad' e; simp at this; show ad'.block ≠ wc.heap.size + 1; omega) _).other ⟨wc.heap.size + 1, 1, none⟩ (fun ad' e => by have := hfv ad' e; simp at this; show ad'.block ≠ wc.heap.size + 1; omega) _, ((below_of hb HKE.b).setCell (p := ⟨wc.heap.size + 1, 0, none⟩) (Nat.le_succ_of_le hb.size) _).setCell (p := ⟨wc.heap.size + 1, 1, none⟩) (Nat.le_succ_of_le hb.size) _⟩
                · go_wp2_with fail
                  go_meet
                  case rel => exact ⟨_, Av, cv, rfl, rfl, (PE.set0 Av 1 cv).set1 mv, (hIv.other ⟨wc.heap.size, 0, none⟩ (fun ad' e => by have := hfv ad' e; simp at this; show ad'.block ≠ wc.heap.size; omega) _).other ⟨wc.heap.size, 1, none⟩ (fun ad' e => by have := hfv ad' e; simp at this; show ad'.block ≠ wc.heap.size; omega) _, ((below_of hb HKE.b).setCell (p := ⟨wc.heap.size, 0, none⟩) hb.size _).setCell (p := ⟨wc.heap.size, 1, none⟩) hb.size _⟩
              case rest =>
                clear hb
                obtain ⟨g, Av, cv, rfl, rfl, PV, IV, hb⟩ := hcut
                obtain ⟨ad, rfl, hbl, d0, d1, d2, d3⟩ := HXI.out _ hb
                obtain ⟨av, rfl, hav, f0, f1, f2, f3⟩ := IV.at_ (k := 0) (Nat.succ_pos 0)
                simp only [List.getElem_cons_zero, Nat.zero_mul] at f0 f1 f2 f3
                rw [show av.add 0 = av from rfl] at f0 f1 f2 f3
                obtain ⟨p0, p1⟩ := PV.c
                have hnq := fun W => item_neq x.nm (x.n : Int) x.len x.gone W
                go_upto_region 29 with fail
                go_region
                go_wp2_with fail
                go_roundw
                case rel => exact ⟨k + 1, by omega, by go_num, hb.drew⟩
                case measure => simp [intOf]; omega
          · obtain rfl : k = S.length := by omega
            obtain ⟨_, AL, B⟩ := HP8.out _ hb
            go_wp2_with fail
            refine (HW.out _ AL.v).mono ?_
            rintro e w9 ⟨rfl, b9⟩
            have c9 := below_of B b9
            go_wp2_with fail
            go_ret
            exact ⟨rfl, c9⟩

end Go.Proofs.YtaeiahkomdpcoaaDoor.Page
end

section
/- A key as an argument, the row's wrap over listed variables with the world's shape kept, and the card's close. -/
namespace Go.Proofs.YtaeiahkomdpcoaaDoor
open Go.ChangeShapes Go.WideShapes Go.ChangeAt Go.RowKit Go.Deep Go.Joins

/-- The wrap over listed variables, the world's shape kept. -/
theorem returns_and_shaped {H : Type} {enc : TypeId × Value → H} {a : Assume} {C : Checked} {os : Os} {f : FuncId} {fn : Func} {s : ChangeSpec} {conds : List PathCond} {apart fresh handsOn again : Bool} {X : World → Array Value → Prop}
    (own : ownKnob C.prog.godebug = none) (started : os.Started) (noInit : C.prog.inits.idxOf? f = none) (hfn : C.prog.funcs[f]? = some fn)
    (witness : ∃ (w : World) (tape : Tape) (i : Input), w.os = os ∧ (w.forCall tape i).Shaped C.prog ∧ i.vars = [] ∧ Input.okWide C.prog (w.forCall tape i) .any w.heap.size f i ∧
      ((s.pre enc C.prog fn conds apart (w.forCall tape i).memory i.args ∧ X (w.forCall tape i).memory i.args) ∧ sizedMet enc C.prog fn (OpenSpec.ofChange s) apart (w.forCall tape i).memory i.args) ∧ a.holds C.prog (lone (Frame.enter C.prog f i.args .normal) [] (w.forCall tape i)))
    (contract : ∀ (W : World) (base : Nat) (args : Array Value) (ds gs : List (DataW H)) (before : List MemPlace),
      (∀ (j : Nat) t v, fn.params[j]? = some t → args[j]? = some v → Value.okWide C.prog W .any base t v) →
      DataW.Whole enc C.prog fn.params.toList s.vars apart W args.toList ds gs before →
      W.ShapedOpen C.prog →
      Calls C.prog f args W fun e W' => ∃ v, e = .returned v ∧ s.post enc C.prog fn apart fresh handsOn again W args v W') :
    ReturnsInHanded a C os f .any (fun w args => (s.pre enc C.prog fn conds apart w args ∧ X w args) ∧ sizedMet enc C.prog fn (OpenSpec.ofChange s) apart w args) (s.post enc C.prog fn apart fresh handsOn again) := by
  refine returnsInHanded_of_calls own started noInit witness ?_
  intro w tape i _ hsh _ hok hpre hholds
  obtain ⟨_, _, _, fn', hfn', _, _, _, _, hval⟩ := hok
  have e : fn' = fn := Option.some.inj (hfn'.symm.trans hfn)
  subst e
  obtain ⟨⟨⟨ds, gs, before, hw, hc⟩, hx⟩, hz⟩ := hpre
  have hw' := DataW.Whole.of_heap (w' := w.forCall tape i) (by rfl) hw
  refine (contract (w.forCall tape i) w.heap.size i.args ds gs before hval hw' hsh).mono fun e W' ⟨v, he, hp⟩ => ?_
  subst he
  exact ChangeSpec.post_blind hp

theorem var0 {W : World} (h : W.ShapedOpen Tryd.prog) : Name.Var0 W := by
  obtain ⟨m, hm⟩ := cell_of_shapedOpen_int (P := Tryd.prog) (g := 0) (t := 3) (zero := #[.int .i64 0]) h (of_decide_eq_true (by kernel_rfl)) (by kernel_rfl) rfl (by kernel_rfl) (by kernel_rfl) Tryd.underlying3
  exact ⟨m, hm, World.block_lt_of_cell? _ _ hm⟩

theorem array5 {cs : Array Value} (h : cs.size = 5) : ∃ a b c d e, cs = #[a, b, c, d, e] := by
  obtain ⟨l⟩ := cs
  match l, h with
  | [a, b, c, d, e], _ => exact ⟨a, b, c, d, e, rfl⟩

section
variable {H : Type} {enc : TypeId × Value → H} {W : World}
set_option maxRecDepth 100000 in
theorem open_key {r : Reach} {b0 : Nat} {v : Value} {d : DataW H} {p : List MemPlace} (hv : Value.okWide Tryd.prog W r b0 24 v) (h : DataW.Trod enc Tryd.prog W 0 (fun _ => true) true 24 v d p) :
    ∃ k : Name.Key, v = k.val ∧ k.bucket.size ≤ maxLen ∧ k.name.size ≤ maxLen ∧ k.kind < 256 ∧ k.n ≤ Name.top := by
  obtain ⟨cs, rfl, hsz⟩ := okWide_struct Tryd.underlying24 hv
  obtain ⟨c0, c1, c2, c3, c4, rfl⟩ := array5 (hsz.trans (by kernel_rfl))
  obtain ⟨fuel, hf⟩ := h
  obtain ⟨ys, n, _, _, _, hyl, hfl⟩ := DataW.trod_struct Tryd.underlying24 hf
  have hyl5 : ys.length = 5 := hyl
  have g0 := hfl 0 _ rfl
  have g1 := hfl 1 _ rfl
  have g2 := hfl 2 _ rfl
  have g3 := hfl 3 _ rfl
  have k5 : Tryd.prog.cellsOf 5 = 1 := by kernel_rfl
  have k9 : Tryd.prog.cellsOf 9 = 1 := by kernel_rfl
  have k22 : Tryd.prog.cellsOf 22 = 1 := by kernel_rfl
  have k3 : Tryd.prog.cellsOf 3 = 1 := by kernel_rfl
  have g4 := hfl 4 _ rfl
  have y0 : ys[0]? = some (ys[0]'(by omega)) := List.getElem?_eq_getElem (by omega)
  have y1 : ys[1]? = some (ys[1]'(by omega)) := List.getElem?_eq_getElem (by omega)
  have y2 : ys[2]? = some (ys[2]'(by omega)) := List.getElem?_eq_getElem (by omega)
  have y3 : ys[3]? = some (ys[3]'(by omega)) := List.getElem?_eq_getElem (by omega)
  have y4 : ys[4]? = some (ys[4]'(by omega)) := List.getElem?_eq_getElem (by omega)
  obtain ⟨a0, e0, _, w0⟩ := DataW.trod_int Tryd.underlying5 (g0.trans y0)
  obtain ⟨a1, e1, _, w1⟩ := DataW.trod_string Tryd.underlying9 (g1.trans y1)
  obtain ⟨a2, e2, _, w2⟩ := DataW.trod_string Tryd.underlying9 (g2.trans y2)
  obtain ⟨a3, e3, _, w3⟩ := DataW.trod_int Tryd.underlying22 (g3.trans y3)
  obtain ⟨a4, e4, _, w4⟩ := DataW.trod_int Tryd.underlying3 (g4.trans y4)
  simp [Value.cells, k5] at e0
  simp [Value.cells, k9] at e1 e2
  simp [Value.cells, k22] at e3
  simp [Value.cells, k3] at e4
  subst e0 e1 e2 e3 e4
  obtain ⟨x0, rfl⟩ := Int.eq_ofNat_of_zero_le (bounds_u8 w0).1
  obtain ⟨x3, rfl⟩ := Int.eq_ofNat_of_zero_le (bounds_u64 w3).1
  have h0 := (bounds_u8 w0).2
  have h3 := (bounds_u64 w3).2
  exact ⟨⟨x0, a1, a2, x3, a4⟩, rfl, w1, w2, by show x0 < 256; omega, by show x3 ≤ Name.top; unfold Name.top; omega⟩
end

/-- What the rows of this seat list. -/
abbrev laidVars : List (String × DataW Unit) := [("unicode/utf8.acceptRanges", Rows.laid_unicode_utf8_acceptRanges), ("unicode/utf8.first", Rows.laid_unicode_utf8_first)]
/-- The heap that holds what is listed meets the condition. -/
theorem laid_met (os : Os) (args : Array Value) : laidMetH Tryd.prog laidVars ((World.laidAll Tryd.prog os laidVars).forCall (fun _ _ => 0) ⟨#[], args, []⟩).memory := by
  rw [MakeChecks.laidMetH_plain _ _ _ (by kernel_rfl)]
  exact laidMet_laidAll _ (by kernel_rfl) (by kernel_rfl)

end Go.Proofs.YtaeiahkomdpcoaaDoor
end

section
/- Versions as an argument. -/
namespace Go.Proofs.YtaeiahkomdpcoaaDoor.Page
open Go Go.RowKit Go.ChangeShapes Go.WideShapes Go.Deep Go.Joins Go.Proofs.YtaeiahkomdpcoaaDoor.Seq

section
variable {H : Type} {enc : TypeId × Value → H} {P : Program} {w : World} {base : Nat} {spare : Nat → Bool} {held : Bool}
theorem open_slice_fields {t e : TypeId} {fs : Array Field} {fuel : Nat} {cs : List Value} {x : DataW H × List MemPlace} (ht : P.underlying t = some (.slice e)) (he : P.underlying e = some (.struct fs))
    (hone : oneCellFields P fs = true) (hC : P.cellsOf e = fs.size) (h : DataW.trod enc P w base spare held fuel t cs = some x) :
    (cs = [.slice none 0 0] ∧ x = (.nil, [])) ∨
    ∃ (a : Addr) (len cap m : Nat) (D : Nat → DataW H) (Pl : Nat → List MemPlace), cs = [.slice (some a) len cap] ∧ base ≤ a.block ∧ len ≤ cap ∧ cap ≤ maxLen ∧ m = (if spare a.block then cap else len) ∧
      x = (.slice ((List.range len).map D) ((List.range (m - len)).map fun j => D (len + j)), MemPlace.row a (m * fs.size) ++ (List.range m).flatMap Pl) ∧
      ∀ i, i < m → ∃ (ys : List (DataW H × List MemPlace)) (n : Nat), D i = .agg (ys.map (·.1)) ∧ Pl i = ys.flatMap (·.2) ∧ ys.length = fs.size ∧
        ∀ (j : Nat) (f : Field), fs[j]? = some f → ∃ (v : Value) (y : DataW H × List MemPlace), w.cell? (a.add (i * fs.size + j)) = some v ∧ ys[j]? = some y ∧ DataW.trod enc P w base spare held n f.type [v] = some y := by
  rcases open_slice ht h with h0 | ⟨a, len, cap, m, n, D, Pl, hcs, hb, hl, hm, hmm, hx, hi⟩
  · exact .inl h0
  · refine .inr ⟨a, len, cap, m, D, Pl, hcs, hb, hl, hm, hmm, by rw [hC] at hx; exact hx, fun i him => ?_⟩
    obtain ⟨cs', hc, ht'⟩ := hi i him
    rw [hC] at hc
    obtain ⟨ys, n', hn', hy, hlen, hyl, hf⟩ := DataW.trod_struct he ht'
    obtain ⟨_, hcl, hat⟩ := World.cells?_some hc
    simp only [Prod.mk.injEq] at hy
    refine ⟨ys, n', hy.1, hy.2, hyl, fun j f hj => ?_⟩
    obtain ⟨ho, hk⟩ := hone_of hone j f hj
    have hjl : j < fs.size := (Array.getElem?_eq_some_iff.1 hj).1
    have hcell := hat j hjl
    have hv : cs'[j]? = some (cs'[j]'(by omega)) := List.getElem?_eq_getElem (by omega)
    have h1 := hf j f hj
    rw [ho, hk] at h1
    have hone' : (cs'.drop j).take 1 = [cs'[j]'(by omega)] := by
      rw [List.drop_eq_getElem_cons (by omega)]
      rfl
    rw [hone'] at h1
    have hys : ys[j]? = some (ys[j]'(by omega)) := List.getElem?_eq_getElem (by omega)
    refine ⟨_, _, ?_, hys, h1.trans hys⟩
    rw [← Go.Deep.add_add, hcell, hv]
end

section
variable {H : Type} {enc : TypeId × Value → H} {W : World}
theorem open_vers (b : ByteArray) (hb : b.size ≤ 9223372036854775807) {fuel : Nat} {cs : List Value} {x : DataW H × List MemPlace} (h : DataW.trod enc Tryd.prog W 0 (fun _ => true) true fuel 46 cs = some x) :
    ∃ A c vs, cs = [.slice A vs.length c] ∧ VsAt W A vs ∧ ∀ v ∈ vs, v.bk = b := by
  rcases open_slice_fields Tryd.underlying46 Tryd.underlying67 (by kernel_rfl) (by kernel_rfl) h with ⟨rfl, _⟩ | ⟨a, len, cap, m, D, Pl, rfl, _, hl, hm, hmm, _, hel⟩
  · exact ⟨none, 0, [], rfl, fun i s hs => by simp at hs, fun v hv => by cases hv⟩
  · rw [if_pos rfl] at hmm
    have hex : ∀ i, ∃ s : Ver, i < len → s.bk = b ∧ VFit s ∧ W.cell? (a.add (i * 4)) = some (.string s.nm) ∧ W.cell? (a.add (i * 4 + 1)) = some (.int .u64 (s.n : Int)) ∧ W.cell? (a.add (i * 4 + 2)) = some (.string s.tx) ∧ W.cell? (a.add (i * 4 + 3)) = some (.bool s.gone) := fun i => by
      by_cases hi : i < len
      · obtain ⟨ys, n, _, _, _, hf⟩ := hel i (by omega)
        obtain ⟨v0, y0, hc0, _, ht0⟩ := hf 0 _ rfl
        obtain ⟨v1, y1, hc1, _, ht1⟩ := hf 1 _ rfl
        obtain ⟨v2, y2, hc2, _, ht2⟩ := hf 2 _ rfl
        obtain ⟨v3, y3, hc3, _, ht3⟩ := hf 3 _ rfl
        obtain ⟨k0, e0, _, w0⟩ := DataW.trod_string Tryd.underlying9 ht0
        obtain ⟨k1, e1, _, w1⟩ := DataW.trod_int Tryd.underlying22 ht1
        obtain ⟨k2, e2, _, _⟩ := DataW.trod_string Tryd.underlying9 ht2
        obtain ⟨k3, e3, _⟩ := DataW.trod_bool Tryd.underlying4 ht3
        simp at e0 e1 e2 e3
        subst e0 e1 e2 e3
        obtain ⟨x1, rfl⟩ := Int.eq_ofNat_of_zero_le (bounds_u64 w1).1
        have h1 := (bounds_u64 w1).2
        exact ⟨⟨b, k0, x1, k2, k3⟩, fun _ => ⟨rfl, ⟨hb, w0, by show x1 ≤ Name.top; unfold Name.top; omega⟩, hc0, hc1, hc2, hc3⟩⟩
      · exact ⟨⟨b, b, 0, b, true⟩, fun h => absurd h hi⟩
    obtain ⟨f, hf⟩ := Classical.skolem.1 hex
    refine ⟨some a, cap, (List.range len).map f, by simp, fun i s hs => ?_, fun v hv => ?_⟩
    · have hi : i < len := by
        rcases Nat.lt_or_ge i len with h | h
        · exact h
        · rw [List.getElem?_eq_none (by simpa using h)] at hs; cases hs
      have : s = f i := by
        rw [List.getElem?_map, List.getElem?_range hi] at hs
        exact (Option.some.inj hs).symm
      subst this
      obtain ⟨_, h0, h1, h2, h3, h4⟩ := hf i hi
      refine ⟨a, rfl, ?_, h1, h2, h3, h4, h0⟩
      have := World.block_lt_of_cell? _ _ h1
      rwa [block_of_add] at this
    · obtain ⟨i, hi, rfl⟩ := List.mem_map.1 hv
      exact (hf i (List.mem_range.1 hi)).1
set_option maxRecDepth 100000 in
theorem open_vers_arg (b : ByteArray) (hb : b.size ≤ 9223372036854775807) {r : Reach} {b0 : Nat} {v : Value} {d : DataW H} {p : List MemPlace} (hv : Value.okWide Tryd.prog W r b0 46 v) (h : DataW.Trod enc Tryd.prog W 0 (fun _ => true) true 46 v d p) :
    ∃ A c vs, v = .slice A vs.length c ∧ VsAt W A vs ∧ ∀ u ∈ vs, u.bk = b := by
  obtain ⟨a, len, cap, rfl⟩ := okWide_slice Tryd.underlying46 hv
  obtain ⟨fuel, hf⟩ := h
  obtain ⟨A, c, vs, e, h1, h2⟩ := open_vers b hb hf
  simp [Value.cells] at e
  obtain ⟨rfl, rfl, rfl⟩ := e
  exact ⟨_, _, vs, rfl, h1, h2⟩
end

end Go.Proofs.YtaeiahkomdpcoaaDoor.Page
end

section
/- For any versions, any prefix and any count hoardlaw24.PageWhole returns true: page after page tells each name once, in order, as one page of all would; the tied card. No condition on the input. -/
namespace Go.Proofs.YtaeiahkomdpcoaaDoor.PageWhole
open Go.RowKit Go.ChangeShapes Go.WideShapes Go.ChangeAt Go.Joins
open Go.ChangeMaps (open_string)

set_option maxRecDepth 100000 in
theorem lifted (os : Os) (started : os.Started) (H : Type) (enc : TypeId × Value → H) :
    ReturnsInHanded {} Tryd.checked os 7 .any (fun w args => (Rows.pageWholeSpec.pre enc Tryd.prog Tryd.f7 [] false w args ∧ laidMetH Tryd.prog laidVars w) ∧ sizedMet enc Tryd.prog Tryd.f7 (OpenSpec.ofChange Rows.pageWholeSpec) false w args)
      (Rows.pageWholeSpec.post enc Tryd.prog Tryd.f7 false true false false) := by
  refine returns_and_shaped (C := Tryd.checked) (X := fun w _ => laidMetH Tryd.prog laidVars w) own started (by kernel_rfl) Tryd.func7
    (ChangeSpec.witness_shaped (enc := enc) (C := Tryd.checked) (os := os) (X := fun w _ => laidMetH Tryd.prog laidVars w) false (World.laidAll Tryd.prog os laidVars) #[.slice none 0 0, .string ⟨#[]⟩, .int .u8 0] 8 (World.laidAll_os _ _ _) (World.shaped_of_ZipB (by kernel_rfl) (by kernel_rfl)) (by kernel_rfl) (by kernel_rfl) (by kernel_rfl) (laid_met os _)) ?_
  intro W base args ds gs before hval0 hW hsh
  have hval : ∀ (j : Nat) t v, Tryd.f7.params[j]? = some t → args[j]? = some v → Value.okWide Tryd.prog W .any base t v := hval0
  have hW' := hW
  obtain ⟨p, q, hA0, hV, rfl, _, _⟩ := hW'
  have hA : DataW.TrodAll enc Tryd.prog W 0 (fun _ => true) true Tryd.f7.params.toList args.toList ds p := hA0
  rw [Tryd.params7] at hA hval
  obtain ⟨v0, v1, v2, d0, d1, d2, p0, p1, p2, rfl, rfl, rfl, h0, h1, h2⟩ := trodAll_three hA
  obtain ⟨rfl, rfl⟩ := trodVars_none hV
  obtain ⟨A0, c0, l0, rfl, g0, e0⟩ := Page.open_vers_arg Page.kB (by decide) (hval 0 46 v0 rfl rfl) h0
  obtain ⟨s1, rfl, rfl, rfl, g1⟩ := open_string Tryd.underlying9 (hval 1 9 v1 rfl rfl) h1
  obtain ⟨a2, rfl, rfl, rfl, wf2⟩ := open_int Tryd.underlying5 (hval 2 5 v2 rfl rfl) h2
  obtain ⟨x2, rfl⟩ := Int.eq_ofNat_of_zero_le (bounds_u8 wf2).1
  have g2 : x2 < 256 := by have := (bounds_u8 wf2).2; omega
  refine (Page.whole_law A0 c0 l0 s1 x2 W g0 e0 g2 (var0 hsh) g1).mono fun e W' ⟨he, hbl⟩ => ⟨_, he, ?_⟩
  exact law_post (tb := 4) hW hbl laidOut (by kernel_rfl) (by kernel_rfl) Tryd.underlying4 rfl rfl

theorem row : Rows.PageWholeSaid :=
  OpenClaim.holds_of_wide 7 Tryd.f7 rfl rfl rfl rfl rfl rfl rfl ⟨rfl, rfl, rfl, rfl, rfl⟩ rfl rfl rfl rfl rfl (by kernel_rfl) Tryd.func7 (by kernel_rfl)
    (of_decide_eq_true (by kernel_rfl)) (by unfold Func.isWrapper; first | (rw [if_pos (by decide +kernel)]; kernel_rfl) | (rw [if_neg (by decide +kernel)]; exact ⟨rfl, rfl⟩))
    (fun os started H enc _ => lifted os started H enc)

theorem proved : Rows.PageWholeCardSaid :=
  Claim7.holds_tied_plain_at .later [] [.data, .pinned] true (true, "6cc19f968f7135cb6fb66fecfa91c3da54190d97e309536a7f2f3cb812c88f03") false
    row (fun _ h => by cases h) (by kernel_rfl) (fun _ h => by cases h) pageWhole_row_tie rfl ⟨rfl, rfl⟩ (by kernel_rfl) rfl
    (fun f fn hf hfn => by
      obtain rfl : f = 7 := Option.some.inj ((show Tryd.prog.funcNamed "hoard/hoardlaw24.PageWhole" = some 7 by kernel_rfl).symm.trans hf) |>.symm
      obtain rfl : fn = Tryd.f7 := (Option.some.inj (Tryd.func7.symm.trans hfn)).symm
      exact ⟨by kernel_rfl, fun j t ht => by
        rw [Tryd.params7] at ht
        have hm : t ∈ [46, 9, 5] := by simpa using Array.mem_of_getElem? ht
        have hall : ([46, 9, 5].all fun u => !Tryd.prog.wantsStandIn u) = true := by kernel_rfl
        exact (show Tryd.prog.wantsStandIn t = false by simpa using List.all_eq_true.1 hall t hm)⟩)
    (by kernel_rfl)

#print axioms proved
end Go.Proofs.YtaeiahkomdpcoaaDoor.PageWhole
end
