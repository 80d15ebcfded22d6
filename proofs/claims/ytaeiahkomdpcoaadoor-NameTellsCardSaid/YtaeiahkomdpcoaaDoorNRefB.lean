/- The walks of the document's answers for names: May, Compare, Name, number. -/
import Derived.Test.YtaeiahkomdpcoaaDoorNRefA
import Derived.Deep.Cut
namespace Go.Proofs.YtaeiahkomdpcoaaDoor.Name
open Go.RowKit Go.Shelf

/-- May, test by test. -/
theorem may_ref (k : Key) (h1 : 1 ≤ k.kind) (h6 : k.kind ≤ 6) (k3 k5 eb en l2 zn zp : Bool) (h3 : decide (k.kind = 3) = k3) (h5 : decide (k.kind = 5) = k5) (heb : decide (k.bucket = ⟨#[]⟩) = eb) (hen : decide (k.name = ⟨#[]⟩) = en)
    (hl : decide (k.name.size ≤ 200) = l2) (hzn : decide (k.n = 0) = zn) (hzp : decide (k.part = 0) = zp) :
    mayB k = (!((hasB k.kind != !eb) || (hasB k.kind && !bucketL k.bucket.data.toList)) && (!((k3 != !en) || !l2) && (!(!hasN k.kind && !zn) && ((k5 && decide (1 ≤ k.part) && decide (k.part ≤ 1000)) || (!k5 && zp))))) := by
  have hob : objectL k.name.data.toList = (!en && l2) := by
    unfold objectL
    have hsz := size_list k.name
    rw [← hen, ← hl, Bool.eq_iff_iff]
    simp only [decide_eq_true_eq, Bool.and_eq_true, Bool.not_eq_true', decide_eq_false_iff_not]
    constructor
    · rintro ⟨g1, g2⟩
      exact ⟨fun e => by rw [e] at g1; exact absurd g1 (by decide), by omega⟩
    · rintro ⟨g1, g2⟩
      refine ⟨?_, by omega⟩
      rcases Nat.eq_zero_or_pos k.name.data.toList.length with h | h
      · exact absurd (ba_ext (List.eq_nil_of_length_eq_zero h)) g1
      · exact h
  have hxb : eb = true → bucketL k.bucket.data.toList = false := fun e => by
    rw [← heb, decide_eq_true_eq] at e
    rw [e]; decide
  have hel : en = true → l2 = true := fun e => by
    rw [← hen, decide_eq_true_eq] at e
    rw [← hl, e]; decide
  have hp : decide (1 ≤ k.part ∧ k.part ≤ 1000) = (decide (1 ≤ k.part) && decide (k.part ≤ 1000)) := by simp
  have e3 : (if k.kind = 3 then objectL k.name.data.toList else decide (k.name = ⟨#[]⟩)) = (if k3 then (!en && l2) else en) := by
    rw [hob, hen, ← h3]; simp
  have e5 : (if k.kind = 5 then decide (1 ≤ k.part ∧ k.part ≤ 1000) else decide (k.part = 0)) = (if k5 then (decide (1 ≤ k.part) && decide (k.part ≤ 1000)) else zp) := by
    rw [hp, hzp, ← h5]; simp
  unfold mayB
  rw [decide_eq_true (show 1 ≤ k.kind ∧ k.kind ≤ 6 from ⟨h1, h6⟩), e3, e5, heb, hzn]
  rw [show (k5 && decide (1 ≤ k.part) && decide (k.part ≤ 1000)) = (k5 && (decide (1 ≤ k.part) && decide (k.part ≤ 1000))) from Bool.and_assoc _ _ _]
  generalize (decide (1 ≤ k.part) && decide (k.part ≤ 1000)) = pp
  generalize bucketL k.bucket.data.toList = xb at hxb ⊢
  generalize hasB k.kind = hb
  generalize hasN k.kind = hn
  clear h3 h5 heb hen hl hzn hzp hob hp e3 e5 h1 h6
  revert hxb hel
  revert hb hn k3 k5 eb en l2 zn zp xb pp
  decide +kernel

theorem key_one (w : World) (k : Key) : KeyAt (w.alloc (.cells k.cells 24)) w.heap.size k := (MapKept.heap_alloc w _).1

set_option maxHeartbeats 3200000 in
set_option maxRecDepth 100000 in
theorem refMay_calls (k : Key) (w : World) (hf : k.fits) : Calls Tryd.prog 23 #[k.val] w fun e w' => e = .returned (.bool (mayB k)) ∧ Below w.heap.size w w' := by
  by_cases ho : k.kind = 0 ∨ 6 < k.kind
  · rw [mayB_out ho]
    obtain ⟨kd, kb, kn, nn, pp⟩ := k
    unfold Key.val
    simp only at ho ⊢
    rcases ho with rfl | ho
    · go_enter Tryd.func23, Tryd.ntmps23
      go_wp2
      go_ret
      exact ⟨rfl, below_one _ _⟩
    · have i1 : ¬ (kd : Int) < 1 := by omega
      have i2 : (6 : Int) < (kd : Int) := by omega
      go_enter Tryd.func23, Tryd.ntmps23
      go_wp2
      go_ret
      exact ⟨rfl, below_one _ _⟩
  have hm := may_ref k (by omega) (by omega) _ _ _ _ _ _ _ rfl rfl rfl rfl rfl rfl rfl
  have hK := key_one w k
  have hb1 := below_one w (.cells k.cells 24)
  obtain ⟨kd, kb, kn, nn, pp⟩ := k
  obtain ⟨hb4, hn4, _, _⟩ := hf
  unfold Key.val
  simp only at ho hb4 hn4 hm ⊢
  rw [hm]
  clear hm
  have HB := fun W => refHasB_calls kd W
  have HN := fun W => refHasN_calls kd W
  have HBK := fun W => refBucket_calls kb W (by omega)
  have hbe := empty_iff kb
  have hne := empty_iff kn
  obtain ⟨hb, q1⟩ : ∃ x, x = hasB kd := ⟨_, rfl⟩
  obtain ⟨hn, q2⟩ : ∃ x, x = hasN kd := ⟨_, rfl⟩
  obtain ⟨xb, q3⟩ : ∃ x, x = bucketL kb.data.toList := ⟨_, rfl⟩
  obtain ⟨eb, q4⟩ : ∃ x, x = decide (kb = ⟨#[]⟩) := ⟨_, rfl⟩
  obtain ⟨en, q5⟩ : ∃ x, x = decide (kn = ⟨#[]⟩) := ⟨_, rfl⟩
  obtain ⟨k3, q6⟩ : ∃ x, x = decide (kd = 3) := ⟨_, rfl⟩
  obtain ⟨k5, q7⟩ : ∃ x, x = decide (kd = 5) := ⟨_, rfl⟩
  obtain ⟨l2, q8⟩ : ∃ x, x = decide (kn.size ≤ 200) := ⟨_, rfl⟩
  obtain ⟨zn, q9⟩ : ∃ x, x = decide (nn = 0) := ⟨_, rfl⟩
  obtain ⟨zp, qa⟩ : ∃ x, x = decide (pp = 0) := ⟨_, rfl⟩
  obtain ⟨p1, qb⟩ : ∃ x, x = decide (1 ≤ pp) := ⟨_, rfl⟩
  obtain ⟨p2, qc⟩ : ∃ x, x = decide (pp ≤ 1000) := ⟨_, rfl⟩
  simp only [← q1] at HB ⊢
  simp only [← q2] at HN ⊢
  simp only [← q3] at HBK ⊢
  rw [← q4] at hbe
  rw [← q5] at hne
  rw [← q4, ← q5, ← q6, ← q7, ← q8, ← q9, ← qa, ← qb, ← qc]
  have e3 : ((kd : Int) == 3) = k3 := by rw [q6, Bool.eq_iff_iff, beq_iff_eq, decide_eq_true_iff]; omega
  have e5 : ((kd : Int) == 5) = k5 := by rw [q7, Bool.eq_iff_iff, beq_iff_eq, decide_eq_true_iff]; omega
  have e5' : ((kd : Int) != 5) = !k5 := by rw [← e5]; rfl
  have el : decide ((200 : Int) < (kn.size : Int)) = !l2 := by rw [q8, Bool.eq_iff_iff, decide_eq_true_iff, Bool.not_eq_true', decide_eq_false_iff_not]; omega
  have ezn : ((nn : Int) != 0) = !zn := by rw [q9, Bool.eq_iff_iff, bne_iff_ne, Bool.not_eq_true', decide_eq_false_iff_not]; omega
  have ezp : (pp == 0) = zp := by rw [qa, Bool.eq_iff_iff, beq_iff_eq, decide_eq_true_iff]
  have i1 : ¬ (kd : Int) < 1 := by omega
  have i2 : ¬ (6 : Int) < (kd : Int) := by omega
  clear q1 q2 q3 q4 q5 q6 q7 q8 q9 qa
  have G1 := Lib.hid HB
  have G2 := Lib.hid HN
  have G3 := Lib.hid HBK
  have E1 := Lib.hid hbe
  have E2 := Lib.hid hne
  have E3 := Lib.hid e3
  have E5 := Lib.hid (And.intro e5 e5')
  have EL := Lib.hid el
  have EN := Lib.hid ezn
  have EP := Lib.hid (And.intro ezp (And.intro qb qc))
  clear HB HN HBK hbe hne e3 e5 e5' el ezn ezp qb qc ho
  obtain ⟨t28, q28⟩ : ∃ t, t = ((hb != !eb) || (hb && !xb)) := ⟨_, rfl⟩
  obtain ⟨t41, q41⟩ : ∃ t, t = ((k3 != !en) || !l2) := ⟨_, rfl⟩
  obtain ⟨t50, q50⟩ : ∃ t, t = (!hn && !zn) := ⟨_, rfl⟩
  obtain ⟨t73, q73⟩ : ∃ t, t = ((k5 && p1 && p2) || (!k5 && zp)) := ⟨_, rfl⟩
  rw [← q28, ← q41, ← q50, ← q73]
  have Q28 := Lib.hid q28
  have Q41 := Lib.hid q41
  have Q50 := Lib.hid q50
  have Q73 := Lib.hid q73
  clear q28 q41 q50 q73
  go_enter Tryd.func23, Tryd.ntmps23
  go_upto_region 3 with fail
  go_cut [28] from 3 (fun s28 wx => s28 = .bool t28 ∧ KeyAt wx w.heap.size ⟨kd, kb, kn, nn, pp⟩ ∧ Below w.heap.size w wx)
  case first =>
    have e1 := E1.out
    obtain ⟨p0, p1', p2', p3, p4⟩ := hK.c
    clear E1 E2 E3 E5 EL EN EP
    cases hb
    · cases eb
      all_goals
        go_wp2_with fail
        go_quiet ((go_at_call 46; exact Calls.quiet_of_same (G1.out _)))
        go_wp2_with fail
        go_meet
        case rel => exact ⟨by rw [Q28.out]; rfl, hK, below_drewN hb1 _⟩
    · cases eb
      · cases xb
        all_goals
          go_wp2_with fail
          go_quiet (first | (go_at_call 46; exact Calls.quiet_of_same (G1.out _)) | (go_at_call 19; exact Calls.quiet_of_same (G3.out _)))
          go_wp2_with fail
          go_meet
          case rel => exact ⟨by rw [Q28.out]; rfl, hK, below_drewN hb1 _⟩
      · go_wp2_with fail
        go_quiet ((go_at_call 46; exact Calls.quiet_of_same (G1.out _)))
        go_wp2_with fail
        go_meet
        case rel => exact ⟨by rw [Q28.out]; rfl, hK, below_drewN hb1 _⟩
  case rest =>
    obtain ⟨rfl, hA, hbw⟩ := hcut
    clear hK hb1 E1
    cases t28
    case true =>
      clear E2 E3 E5 EL EN EP
      go_wp2_with fail
      go_ret
      exact ⟨rfl, hbw⟩
    obtain ⟨p0, p1', p2', p3, p4⟩ := hA.c
    go_upto_region 5 with fail
    go_cut [41] from 3 (fun s41 wx => s41 = .bool t41 ∧ wx = wc)
    case first =>
      have e2 := E2.out
      have e3 := E3.out
      have el := EL.out
      clear E2 E3 E5 EL EN EP
      cases k3 <;> cases en <;> cases l2
      all_goals
        simp only [Bool.not_true, Bool.not_false, decide_eq_true_eq, decide_eq_false_iff_not] at el
        go_wp2_with fail
        go_meet
        case rel => exact ⟨by rw [Q41.out]; rfl, rfl⟩
    case rest =>
      obtain ⟨rfl, rfl⟩ := hcut
      cases t41
      case true =>
        clear E2 E3 E5 EL EN EP
        go_wp2_with fail
        go_ret
        exact ⟨rfl, hbw⟩
      go_upto_region 7 with fail
      go_cut [50] from 3 (fun s50 wx => s50 = .bool t50 ∧ wx = wc)
      case first =>
        have en' := EN.out
        clear E2 E3 E5 EL EN EP
        cases hn <;> cases zn
        all_goals
          go_wp2_with fail
          refine (G2.out _).mono ?_
          rintro e wN ⟨rfl, hwN⟩
          subst hwN
          go_wp2_with fail
          go_meet
          case rel => exact ⟨by rw [Q50.out]; rfl, rfl⟩
      case rest =>
        obtain ⟨rfl, rfl⟩ := hcut
        cases t50
        case true =>
          clear E2 E3 E5 EL EN EP
          go_wp2_with fail
          go_ret
          exact ⟨rfl, hbw⟩
        obtain ⟨e5, e5'⟩ := E5.out
        obtain ⟨ezp, ep1, ep2⟩ := EP.out
        have q := Q73.out
        clear E2 E3 E5 EL EN EP
        cases k5
        · cases zp
          all_goals
            clear ep1 ep2
            subst q
            go_wp2_with fail
            go_ret
            exact ⟨by simp, hbw⟩
        · clear ezp
          by_cases g1 : 1 ≤ pp
          · rw [decide_eq_true g1] at ep1
            by_cases g2 : pp ≤ 1000
            · rw [decide_eq_true g2] at ep2
              subst ep1 ep2 q
              go_wp2_with fail
              go_ret
              exact ⟨by simp, hbw⟩
            · rw [decide_eq_false g2] at ep2
              subst ep1 ep2 q
              go_wp2_with fail
              go_ret
              exact ⟨by simp, hbw⟩
          · rw [decide_eq_false g1] at ep1
            subst ep1 q
            clear ep2
            go_wp2_with fail
            go_ret
            exact ⟨by simp, hbw⟩

end Go.Proofs.YtaeiahkomdpcoaaDoor.Name
