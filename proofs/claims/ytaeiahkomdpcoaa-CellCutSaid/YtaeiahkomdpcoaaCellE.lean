/- The walk of package cell's May. -/
import Derived.Test.YtaeiahkomdpcoaaCellD
import Derived.Lib.QuietBelow
import Derived.BigQuiet
namespace Go.Proofs.Ytaeiahkomdpcoaa.Cell
open Go.RowKit Go.Proofs.Ytaeiahkomdpcoaa.Num Go.Proofs.Ytaeiahkomdpcoaa.Wire

def mayCB (c : Cel) : Bool := decide (1 ≤ c.kind ∧ c.kind ≤ 6) && celEq c (hasC c) && decide (c.n ≤ big) && decide (c.name.size ≤ 200) && mayBody c.body
theorem mayCB_iff (c : Cel) : mayCB c = true ↔ mayC c := by
  unfold mayCB mayC
  simp only [Bool.and_eq_true, decide_eq_true_eq, celEq_iff, and_assoc]

/-- A cell's memory in a world that only grew. -/
theorem cell_grow {w : World} {a : Addr} {v : Value} (h : w.cell? a = some v) : ∀ d os, (Go.Sort.grow (redrawn w d) os).cell? a = some v := fun d os => cell_regrown h d os

set_option maxHeartbeats 3200000 in
set_option maxRecDepth 100000 in
theorem mayC_calls (c : Cel) (A : Option Addr) (cp : Nat) (w : World) (hP : PcsAt w A c.body.pcs) (hl : c.body.pcs.length ≤ 100000) (hk : c.kind < 256) :
    Calls Try.prog 43 #[.agg (cvs c A cp)] w fun e w' => e = .returned (.bool (mayCB c)) ∧ Below w.heap.size w w' := by
  have hh : ∀ W, Calls Try.prog 51 #[.agg (cvs c A cp)] W fun e w' => e = .returned (.agg (cvs (hasC c) (hasA c A) (hasP c cp))) ∧ Below W.heap.size W w' := fun W => has_calls c A cp W
  have hp2 : ∀ W, PcsAt W A c.body.pcs → PcsAt W (hasA c A) (hasC c).body.pcs := fun W => has_pcs c A W
  have hs : ∀ W, Below w.heap.size w W → Calls Try.prog 50 #[.agg (cvs c A cp), .agg (cvs (hasC c) (hasA c A) (hasP c cp))] W fun e w' => e = .returned (.bool (celEq c (hasC c))) ∧ Below W.heap.size W w' := fun W hb =>
    same_calls c (hasC c) A (hasA c A) cp (hasP c cp) W (hP.below hb) (hp2 W (hP.below hb)) hl
  have hm : ∀ W, Below w.heap.size w W → Calls Try.prog 52 #[.agg #[.int .i64 c.body.len, .string c.body.inl, .slice A c.body.pcs.length cp]] W fun e w' => e = .returned (.bool (mayBody c.body)) ∧ Below W.heap.size W w' := fun W hb =>
    mayBody_calls c.body.len c.body.inl A cp c.body.pcs W (hP.below hb)
  unfold mayCB
  obtain ⟨hv, qh⟩ : ∃ v, v = (cvs (hasC c) (hasA c A) (hasP c cp)) := ⟨_, rfl⟩
  obtain ⟨se, qs⟩ : ∃ v, v = celEq c (hasC c) := ⟨_, rfl⟩
  obtain ⟨mb, qm⟩ : ∃ v, v = mayBody c.body := ⟨_, rfl⟩
  rw [← qh] at hh
  rw [← qh, ← qs] at hs
  rw [← qm] at hm
  rw [← qs, ← qm]
  clear qh qs qm hp2
  obtain ⟨ck, cn, cg, cm, cl, ci, cps⟩ := c
  unfold cvs at hh hs ⊢
  simp only at hP hl hk hh hs hm ⊢
  have HH := Lib.hid hh
  have HS := Lib.hid hs
  have HM := Lib.hid hm
  have b1 := below_one w (.cells #[.int .u8 (ck : Int), .int .u64 (cn : Int), .bool cg, .string cm, .int .i64 cl, .string ci, .slice A cps.length cp] 50)
  have R0 := row_new w #[.int .u8 (ck : Int), .int .u64 (cn : Int), .bool cg, .string cm, .int .i64 cl, .string ci, .slice A cps.length cp]
  have hbg : big = 281474976710656 := rfl
  clear hh hs hm hP hl
  by_cases k0 : ck = 0
  · subst k0
    clear HH HS HM R0
    go_enter Try.func43, Try.ntmps43
    go_wp2_with fail
    go_quiet (fail)
    go_wp2_with fail
    go_ret
    exact ⟨rfl, below_drewN b1 _⟩
  by_cases k7 : 6 < ck
  · have i1 : (1 : Int) ≤ (ck : Int) := by omega
    have i2 : decide ((ck : Int) ≤ 6) = false := decide_eq_false (by omega)
    rw [decide_eq_false (show ¬ (1 ≤ ck ∧ ck ≤ 6) by omega)]
    clear HH HS HM R0
    go_enter Try.func43, Try.ntmps43
    go_wp2_with fail
    go_quiet (fail)
    go_wp2_with fail
    go_ret
    exact ⟨by simp, below_drewN b1 _⟩
  have i1 : (1 : Int) ≤ (ck : Int) := by omega
  have i2 : (ck : Int) ≤ 6 := by omega
  rw [decide_eq_true (show 1 ≤ ck ∧ ck ≤ 6 by omega)]
  obtain ⟨p0, p1, p2, p3, p4, p5, p6⟩ := R0.c
  have c0 := cell_grow p0
  have c1 := cell_grow p1
  have c2 := cell_grow p2
  have c3 := cell_grow p3
  have c4 := cell_grow p4
  have c5 := cell_grow p5
  have c6 := cell_grow p6
  have B1 := Lib.hid b1
  clear p0 p1 p2 p3 p4 p5 p6 R0 k0 k7 b1
  cases se
  case false =>
    go_enter Try.func43, Try.ntmps43
    go_wp2_with fail
    refine wp_region_quiet_below (by kernel_rfl) (by kernel_rfl) ?_
    repeat (go_big_quiet_step (first | (go_at_call 51; exact Calls.regrown_of (HH.out _)) | (go_at_call 50; exact Calls.regrown_of (HS.out _ (below_of B1.out (below_regrown _ _ _)))) | (go_at_call 52; exact Calls.regrown_of (HM.out _ (below_of B1.out (below_regrown _ _ _))))))
    refine wpQuiet_nil ?_
    intro _ hw'
    obtain ⟨⟨dq, osq⟩, hw''⟩ := hw'
    subst hw''
    have hb6 := below_of B1.out (below_regrown _ dq osq)
    go_wp2_with fail
    go_ret
    exact ⟨rfl, hb6⟩
  by_cases kn : cn ≤ big
  case neg =>
    have i3 : decide ((cn : Int) ≤ 281474976710656) = false := decide_eq_false (by omega)
    rw [decide_eq_false kn]
    clear kn hbg
    go_enter Try.func43, Try.ntmps43
    go_wp2_with fail
    refine wp_region_quiet_below (by kernel_rfl) (by kernel_rfl) ?_
    repeat (go_big_quiet_step (first | (go_at_call 51; exact Calls.regrown_of (HH.out _)) | (go_at_call 50; exact Calls.regrown_of (HS.out _ (below_of B1.out (below_regrown _ _ _)))) | (go_at_call 52; exact Calls.regrown_of (HM.out _ (below_of B1.out (below_regrown _ _ _))))))
    refine wpQuiet_nil ?_
    intro _ hw'
    obtain ⟨⟨dq, osq⟩, hw''⟩ := hw'
    subst hw''
    have hb6 := below_of B1.out (below_regrown _ dq osq)
    go_wp2_with fail
    go_ret
    exact ⟨rfl, hb6⟩
  have i3 : (cn : Int) ≤ 281474976710656 := by omega
  rw [decide_eq_true kn]
  clear kn hbg
  by_cases km : cm.size ≤ 200
  case neg =>
    have i4 : decide ((cm.size : Int) ≤ 200) = false := decide_eq_false (by omega)
    rw [decide_eq_false km]
    clear km
    go_enter Try.func43, Try.ntmps43
    go_wp2_with fail
    refine wp_region_quiet_below (by kernel_rfl) (by kernel_rfl) ?_
    repeat (go_big_quiet_step (first | (go_at_call 51; exact Calls.regrown_of (HH.out _)) | (go_at_call 50; exact Calls.regrown_of (HS.out _ (below_of B1.out (below_regrown _ _ _)))) | (go_at_call 52; exact Calls.regrown_of (HM.out _ (below_of B1.out (below_regrown _ _ _))))))
    refine wpQuiet_nil ?_
    intro _ hw'
    obtain ⟨⟨dq, osq⟩, hw''⟩ := hw'
    subst hw''
    have hb6 := below_of B1.out (below_regrown _ dq osq)
    go_wp2_with fail
    go_ret
    exact ⟨rfl, hb6⟩
  have i4 : (cm.size : Int) ≤ 200 := by omega
  rw [decide_eq_true km]
  clear km
  go_enter Try.func43, Try.ntmps43
  go_wp2_with fail
  refine wp_region_quiet_below (by kernel_rfl) (by kernel_rfl) ?_
  repeat (go_big_quiet_step (first | (go_at_call 51; exact Calls.regrown_of (HH.out _)) | (go_at_call 50; exact Calls.regrown_of (HS.out _ (below_of B1.out (below_regrown _ _ _)))) | (go_at_call 52; exact Calls.regrown_of (HM.out _ (below_of B1.out (below_regrown _ _ _))))))
  refine wpQuiet_nil ?_
  intro _ hw'
  obtain ⟨⟨dq, osq⟩, hw''⟩ := hw'
  subst hw''
  have hb6 := below_of B1.out (below_regrown _ dq osq)
  go_wp2_with fail
  go_ret
  exact ⟨by simp, hb6⟩

end Go.Proofs.Ytaeiahkomdpcoaa.Cell
