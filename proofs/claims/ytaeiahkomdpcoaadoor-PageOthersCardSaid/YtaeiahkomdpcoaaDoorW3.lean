/- Texts merged into one: part 3 of 12. -/
import Derived.Lib.QuietBelow
import Derived.BigQuiet
import Derived.Deep.RegionHeld3
import Derived.Laws.AppendOwn
import Derived.Deep.AppendLies
import Derived.Test.YtaeiahkomdpcoaaDoorW2

section
/- The walk of package cell's has. -/
namespace Go.Proofs.YtaeiahkomdpcoaaDoor.Cell
open Go.RowKit Go.Proofs.YtaeiahkomdpcoaaDoor.Num Go.Proofs.YtaeiahkomdpcoaaDoor.Wire

/-- Seven values in a block. -/
def Row (w : World) (b : Nat) (cs : Array Value) : Prop := w.heap[b]? = some (.cells cs 99 (0, 0))
theorem Row.lt {w : World} {b : Nat} {cs : Array Value} (h : Row w b cs) : b < w.heap.size := (Array.getElem?_eq_some_iff.1 h).1
theorem Row.below {w w' : World} {b : Nat} {cs : Array Value} (h : Row w b cs) (hb : Below w.heap.size w w') : Row w' b cs := (hb.block _ h.lt).trans h
theorem Row.c {w : World} {b : Nat} {v0 v1 v2 v3 v4 v5 v6 : Value} (h : Row w b #[v0, v1, v2, v3, v4, v5, v6]) : w.cell? ⟨b, 0, none⟩ = some v0 ∧ w.cell? ⟨b, 1, none⟩ = some v1 ∧ w.cell? ⟨b, 2, none⟩ = some v2 ∧ w.cell? ⟨b, 3, none⟩ = some v3 ∧ w.cell? ⟨b, 4, none⟩ = some v4 ∧ w.cell? ⟨b, 5, none⟩ = some v5 ∧ w.cell? ⟨b, 6, none⟩ = some v6 := by
  refine ⟨?_, ?_, ?_, ?_, ?_, ?_, ?_⟩ <;> (rw [Joins.cell_of_block h]; rfl)
theorem Row.f {w : World} {b : Nat} {cs : Array Value} (h : Row w b cs) (i : Nat) : w.frozen? ⟨b, i, none⟩ = false := Lib.frozen_of_heap h i
theorem Row.set {w : World} {b : Nat} {cs : Array Value} (h : Row w b cs) (i : Nat) (v : Value) : Row (w.setCell ⟨b, i, none⟩ v) b (cs.setIfInBounds i v) := by
  unfold Row at h ⊢; simp [World.setCell, Array.getElem?_modify, h]
theorem Row.setAll {w : World} {b : Nat} {u0 u1 u2 u3 u4 u5 u6 : Value} (h : Row w b #[u0, u1, u2, u3, u4, u5, u6]) (v0 v1 v2 v3 v4 v5 v6 : Value) :
    Row (((((((w.setCell ⟨b, 0, none⟩ v0).setCell ⟨b, 1, none⟩ v1).setCell ⟨b, 2, none⟩ v2).setCell ⟨b, 3, none⟩ v3).setCell ⟨b, 4, none⟩ v4).setCell ⟨b, 5, none⟩ v5).setCell ⟨b, 6, none⟩ v6) b #[v0, v1, v2, v3, v4, v5, v6] := by
  have := ((((((h.set 0 v0).set 1 v1).set 2 v2).set 3 v3).set 4 v4).set 5 v5).set 6 v6
  simpa using this
theorem Row.other {w : World} {b : Nat} {cs : Array Value} (h : Row w b cs) (a : Addr) (ha : a.block ≠ b) (v : Value) : Row (w.setCell a v) b cs :=
  (Below.heap_setCell _ _ _ _ (fun e => ha e.symm)).trans h
theorem row_new (w : World) (cs : Array Value) : Row (w.alloc (.cells cs 99)) w.heap.size cs := (MapKept.heap_alloc w _).1
theorem below_all {w w1 : World} (hb : Below w.heap.size w w1) (b : Nat) (h : w.heap.size ≤ b) (v0 v1 v2 v3 v4 v5 v6 : Value) :
    Below w.heap.size w (((((((w1.setCell ⟨b, 0, none⟩ v0).setCell ⟨b, 1, none⟩ v1).setCell ⟨b, 2, none⟩ v2).setCell ⟨b, 3, none⟩ v3).setCell ⟨b, 4, none⟩ v4).setCell ⟨b, 5, none⟩ v5).setCell ⟨b, 6, none⟩ v6) :=
  below_set (below_set (below_set (below_set (below_set (below_set (below_set hb h _) h _) h _) h _) h _) h _) h _
def zvs : Array Value := cvs Cel.zero none 0
theorem zvs_eq : zvs = #[.int .u8 0, .int .u64 0, .bool false, .string ⟨#[]⟩, .int .i64 0, .string ⟨#[]⟩, .slice none 0 0] := rfl

/-- Has what a kind has a body? -/
def keepB (c : Cel) : Bool := decide (c.kind = 5) || (!decide (c.kind = 1 ∨ c.kind = 2 ∨ c.kind = 6) && !decide (c.kind = 4) && !c.gone)
def hasA (c : Cel) (A : Option Addr) : Option Addr := if keepB c then A else none
def hasP (c : Cel) (cp : Nat) : Nat := if keepB c then cp else 0
/-- What has hands back. -/
def HasOf (c : Cel) (A : Option Addr) (cp : Nat) (e : Ending) : Prop := e = .returned (.agg (cvs (hasC c) (hasA c A) (hasP c cp)))
theorem has_pcs (c : Cel) (A : Option Addr) (W : World) (h : PcsAt W A c.body.pcs) : PcsAt W (hasA c A) (hasC c).body.pcs := by
  have hk : (keepB c = true ∧ (hasC c).body = c.body) ∨ (keepB c = false ∧ (hasC c).body = Body.zero) := by
    unfold keepB hasC
    by_cases h1 : c.kind = 1 ∨ c.kind = 2 ∨ c.kind = 6
    · right
      rw [if_pos h1, decide_eq_true h1, decide_eq_false (by omega)]; exact ⟨rfl, rfl⟩
    · by_cases h4 : c.kind = 4
      · right
        rw [if_neg h1, if_pos h4, decide_eq_false h1, decide_eq_true h4, decide_eq_false (by omega)]; exact ⟨rfl, rfl⟩
      · by_cases h5 : c.kind = 5
        · left
          rw [if_neg h1, if_neg h4, if_pos h5, decide_eq_true h5]; exact ⟨rfl, rfl⟩
        · rw [if_neg h1, if_neg h4, if_neg h5, decide_eq_false h1, decide_eq_false h4, decide_eq_false h5]
          cases c.gone
          · left; exact ⟨rfl, rfl⟩
          · right; exact ⟨rfl, rfl⟩
  unfold hasA
  rcases hk with ⟨h1, h2⟩ | ⟨h1, h2⟩
  · rw [h1, h2]; exact h
  · rw [h2]; exact PcsAt.nil _ _

/-- Two blocks laid one behind the other. -/
theorem two_rows (w : World) (cs ds : Array Value) : Row ((w.alloc (.cells cs 99)).alloc (.cells ds 99)) w.heap.size cs ∧ Row ((w.alloc (.cells cs 99)).alloc (.cells ds 99)) (w.heap.size + 1) ds ∧ Below w.heap.size w ((w.alloc (.cells cs 99)).alloc (.cells ds 99)) := by
  refine ⟨Row.below (w := w.alloc (.cells cs 99)) (row_new w _) (below_one _ _), ?_, below_alloc (below_one w (.cells cs 99)) (.cells ds 99)⟩
  have := row_new (w.alloc (.cells cs 99)) ds
  rw [show (w.alloc (.cells cs 99)).heap.size = w.heap.size + 1 by simp] at this
  exact this

set_option maxHeartbeats 3200000 in
set_option maxRecDepth 100000 in
theorem has_calls (c : Cel) (A : Option Addr) (cp : Nat) (w : World) :
    Calls Tryd.prog 100 #[.agg (cvs c A cp)] w fun e w' => HasOf c A cp e ∧ Below w.heap.size w w' := by
  obtain ⟨ck, cn, cg, cm, cl, ci, cps⟩ := c
  obtain ⟨R0, R1, b1⟩ := two_rows w #[.int .u8 (ck : Int), .int .u64 (cn : Int), .bool cg, .string cm, .int .i64 cl, .string ci, .slice A cps.length cp] #[.int .u8 0, .int .u64 0, .bool false, .string ⟨#[]⟩, .int .i64 0, .string ⟨#[]⟩, .slice none 0 0]
  unfold cvs
  simp only
  go_enter Tryd.func100, Tryd.ntmps100
  go_upto_region 1 with fail
  go_cut [5] from 4 (fun s5 wx => s5 = .int .u8 (ck : Int) ∧ Row wx w.heap.size #[.int .u8 (ck : Int), .int .u64 (cn : Int), .bool cg, .string cm, .int .i64 cl, .string ci, .slice A cps.length cp] ∧ Row wx (w.heap.size + 1) #[.int .u8 0, .int .u64 0, .bool false, .string ⟨#[]⟩, .int .i64 0, .string ⟨#[]⟩, .slice none 0 0] ∧ Below w.heap.size w wx)
  case first =>
    go_wp2_with fail
    go_meet
    case rel => exact ⟨rfl, R0, R1, b1⟩
  case rest =>
    obtain ⟨rfl, H0, H1, hb⟩ := hcut
    clear R0 R1 b1
    obtain ⟨p0, p1, p2, p3, p4, p5, p6⟩ := H0.c
    obtain ⟨z0, z1, z2, z3, z4, z5, z6⟩ := H1.c
    have f0 := H1.f 0
    have f1 := H1.f 1
    have f2 := H1.f 2
    have f3 := H1.f 3
    have f4 := H1.f 4
    have f5 := H1.f 5
    have f6 := H1.f 6
    have hbg : w.heap.size ≤ w.heap.size + 1 := by omega
    by_cases k1 : ck = 1
    · subst k1
      have HE : Hid (hasC ⟨1, cn, cg, cm, cl, ci, cps⟩ = ⟨1, cn, false, ⟨#[]⟩, Body.zero⟩) := by
        show _ = _
        rfl
      have hG := H1.setAll (.int .u8 1) (.int .u64 (cn : Int)) (.bool false) (.string ⟨#[]⟩) (.int .i64 0) (.string ⟨#[]⟩) (.slice none 0 0)
      go_wp2_with fail
      refine bodyPost_ret (results_cell_row rfl _ _ (w.heap.size + 1) 99 _ (0, 0) _ rfl hG Tryd.underlying99 rfl (by kernel_rfl)) rfl ?_
      exact ⟨by unfold HasOf; rw [HE.out]; rfl, below_all hb _ hbg _ _ _ _ _ _ _⟩
    by_cases k2 : ck = 2
    · subst k2
      have HE : Hid (hasC ⟨2, cn, cg, cm, cl, ci, cps⟩ = ⟨2, cn, false, ⟨#[]⟩, Body.zero⟩) := by
        show _ = _
        rfl
      have hG := H1.setAll (.int .u8 2) (.int .u64 (cn : Int)) (.bool false) (.string ⟨#[]⟩) (.int .i64 0) (.string ⟨#[]⟩) (.slice none 0 0)
      go_wp2_with fail
      refine bodyPost_ret (results_cell_row rfl _ _ (w.heap.size + 1) 99 _ (0, 0) _ rfl hG Tryd.underlying99 rfl (by kernel_rfl)) rfl ?_
      exact ⟨by unfold HasOf; rw [HE.out]; rfl, below_all hb _ hbg _ _ _ _ _ _ _⟩
    by_cases k6 : ck = 6
    · subst k6
      have HE : Hid (hasC ⟨6, cn, cg, cm, cl, ci, cps⟩ = ⟨6, cn, false, ⟨#[]⟩, Body.zero⟩) := by
        show _ = _
        rfl
      have hG := H1.setAll (.int .u8 6) (.int .u64 (cn : Int)) (.bool false) (.string ⟨#[]⟩) (.int .i64 0) (.string ⟨#[]⟩) (.slice none 0 0)
      go_wp2_with fail
      refine bodyPost_ret (results_cell_row rfl _ _ (w.heap.size + 1) 99 _ (0, 0) _ rfl hG Tryd.underlying99 rfl (by kernel_rfl)) rfl ?_
      exact ⟨by unfold HasOf; rw [HE.out]; rfl, below_all hb _ hbg _ _ _ _ _ _ _⟩
    have n1 : ((ck : Int) == 1) = false := by rw [beq_eq_false_iff_ne]; omega
    have n2 : ((ck : Int) == 2) = false := by rw [beq_eq_false_iff_ne]; omega
    have n6 : ((ck : Int) == 6) = false := by rw [beq_eq_false_iff_ne]; omega
    by_cases k4 : ck = 4
    · subst k4
      have HE : Hid (hasC ⟨4, cn, cg, cm, cl, ci, cps⟩ = ⟨4, 0, false, cm, Body.zero⟩) := by
        show _ = _
        rfl
      have hG := H1.setAll (.int .u8 4) (.int .u64 0) (.bool false) (.string cm) (.int .i64 0) (.string ⟨#[]⟩) (.slice none 0 0)
      go_wp2_with fail
      refine bodyPost_ret (results_cell_row rfl _ _ (w.heap.size + 1) 99 _ (0, 0) _ rfl hG Tryd.underlying99 rfl (by kernel_rfl)) rfl ?_
      exact ⟨by unfold HasOf; rw [HE.out]; rfl, below_all hb _ hbg _ _ _ _ _ _ _⟩
    have n4 : ((ck : Int) == 4) = false := by rw [beq_eq_false_iff_ne]; omega
    by_cases k5 : ck = 5
    · subst k5
      have HE : Hid (hasC ⟨5, cn, cg, cm, cl, ci, cps⟩ = ⟨5, 0, false, ⟨#[]⟩, ⟨cl, ci, cps⟩⟩) := by
        show _ = _
        rfl
      have hG := H1.setAll (.int .u8 5) (.int .u64 0) (.bool false) (.string ⟨#[]⟩) (.int .i64 cl) (.string ci) (.slice A cps.length cp)
      go_wp2_with fail
      refine bodyPost_ret (results_cell_row rfl _ _ (w.heap.size + 1) 99 _ (0, 0) _ rfl hG Tryd.underlying99 rfl (by kernel_rfl)) rfl ?_
      exact ⟨by unfold HasOf; rw [HE.out]; rfl, below_all hb _ hbg _ _ _ _ _ _ _⟩
    have n5 : ((ck : Int) == 5) = false := by rw [beq_eq_false_iff_ne]; omega
    have hhas : ∀ g : Bool, hasC ⟨ck, cn, g, cm, cl, ci, cps⟩ = ⟨ck, 0, g, ⟨#[]⟩, if g = true then Body.zero else ⟨cl, ci, cps⟩⟩ := fun g => by
      unfold hasC
      simp only
      rw [if_neg (by omega), if_neg k4, if_neg k5]
      cases g <;> rfl
    have HH := Lib.hid hhas
    have hkeep : ∀ g : Bool, keepB ⟨ck, cn, g, cm, cl, ci, cps⟩ = !g := fun g => by
      unfold keepB
      simp only
      rw [decide_eq_false k5, decide_eq_false k4, decide_eq_false (show ¬ (ck = 1 ∨ ck = 2 ∨ ck = 6) by omega)]; simp
    have HKP := Lib.hid hkeep
    clear hhas hkeep
    go_upto_region 10 with fail
    go_cut [3] from 4 (fun s3 wx => ∃ g : Nat, s3 = .pointer (some ⟨g, 0, none⟩) ∧ g ≠ w.heap.size + 1 ∧ w.heap.size ≤ g ∧ Row wx g #[.int .u8 (ck : Int), .int .u64 0, .bool cg, .string ⟨#[]⟩, .int .i64 0, .string ⟨#[]⟩, .slice none 0 0] ∧ Row wx w.heap.size #[.int .u8 (ck : Int), .int .u64 (cn : Int), .bool cg, .string cm, .int .i64 cl, .string ci, .slice A cps.length cp] ∧ Row wx (w.heap.size + 1) #[.int .u8 0, .int .u64 0, .bool false, .string ⟨#[]⟩, .int .i64 0, .string ⟨#[]⟩, .slice none 0 0] ∧ Below w.heap.size w wx)
    case first =>
      have l1 := H1.lt
      have l0 := H0.lt
      have hR := row_new wc #[.int .u8 (ck : Int), .int .u64 0, .bool cg, .string ⟨#[]⟩, .int .i64 0, .string ⟨#[]⟩, .slice none 0 0]
      have b1 := below_one wc (.cells #[.int .u8 (ck : Int), .int .u64 0, .bool cg, .string ⟨#[]⟩, .int .i64 0, .string ⟨#[]⟩, .slice none 0 0] 99)
      go_wp2_with fail
      go_meet
      case rel => exact ⟨wc.heap.size, rfl, by omega, by omega, hR, H0.below b1, H1.below b1, below_of hb b1⟩
    case rest =>
      obtain ⟨g, rfl, hg1, hg0, HX, K0, K1, hb2⟩ := hcut
      clear H0 H1 hb p0 p1 p2 p3 p4 p5 p6 z0 z1 z2 z3 z4 z5 z6 f0 f1 f2 f3 f4 f5 f6
      obtain ⟨p0, p1, p2, p3, p4, p5, p6⟩ := K0.c
      go_upto_if 36 with fail
      go_cut [] from 4 (fun wx => ∃ (bl : Int) (bi : ByteArray) (A2 : Option Addr) (l2 c2 : Nat), (if cg = true then bl = 0 ∧ bi = ⟨#[]⟩ ∧ A2 = none ∧ l2 = 0 ∧ c2 = 0 else bl = cl ∧ bi = ci ∧ A2 = A ∧ l2 = cps.length ∧ c2 = cp) ∧ Row wx g #[.int .u8 (ck : Int), .int .u64 0, .bool cg, .string ⟨#[]⟩, .int .i64 bl, .string bi, .slice A2 l2 c2] ∧ Row wx (w.heap.size + 1) #[.int .u8 0, .int .u64 0, .bool false, .string ⟨#[]⟩, .int .i64 0, .string ⟨#[]⟩, .slice none 0 0] ∧ Below w.heap.size w wx)
      case first =>
        obtain ⟨x0, x1, x2, x3, x4, x5, x6⟩ := HX.c
        have f4 := HX.f 4
        have f5 := HX.f 5
        have f6 := HX.f 6
        have hX2 := ((HX.set 4 (.int .i64 cl)).set 5 (.string ci)).set 6 (.slice A cps.length cp)
        have hK2 := ((K1.other ⟨g, 4, none⟩ hg1 (.int .i64 cl)).other ⟨g, 5, none⟩ hg1 (.string ci)).other ⟨g, 6, none⟩ hg1 (.slice A cps.length cp)
        have hb3 := below_set (below_set (below_set hb2 (p := ⟨g, 4, none⟩) hg0 (.int .i64 cl)) (p := ⟨g, 5, none⟩) hg0 (.string ci)) (p := ⟨g, 6, none⟩) hg0 (.slice A cps.length cp)
        cases cg
        · go_wp2_with fail
          go_meet
          case rel => exact ⟨cl, ci, A, _, cp, ⟨rfl, rfl, rfl, rfl, rfl⟩, by simpa using hX2, hK2, hb3⟩
        · go_wp2_with fail
          go_meet
          case rel => exact ⟨0, ⟨#[]⟩, none, 0, 0, ⟨rfl, rfl, rfl, rfl, rfl⟩, HX, K1, hb2⟩
      case rest =>
        obtain ⟨bl, bi, A2, l2, c2, hq, HY, K2, hb3⟩ := hcut
        have HQ := Lib.hid hq
        clear HX K0 K1 hb2 hq p0 p1 p2 p3 p4 p5 p6
        obtain ⟨x0, x1, x2, x3, x4, x5, x6⟩ := HY.c
        obtain ⟨z0, z1, z2, z3, z4, z5, z6⟩ := K2.c
        have f0 := K2.f 0
        have f1 := K2.f 1
        have f2 := K2.f 2
        have f3 := K2.f 3
        have f4 := K2.f 4
        have f5 := K2.f 5
        have f6 := K2.f 6
        have hG := K2.setAll (.int .u8 (ck : Int)) (.int .u64 0) (.bool cg) (.string ⟨#[]⟩) (.int .i64 bl) (.string bi) (.slice A2 l2 c2)
        go_wp2_with fail
        refine bodyPost_ret (results_cell_row rfl _ _ (w.heap.size + 1) 99 _ (0, 0) _ rfl hG Tryd.underlying99 rfl (by kernel_rfl)) rfl ?_
        refine ⟨?_, below_all hb3 _ hbg _ _ _ _ _ _ _⟩
        have q := HQ.out
        cases cg
        · rw [if_neg (by decide)] at q
          obtain ⟨rfl, rfl, rfl, rfl, rfl⟩ := q
          unfold HasOf hasA hasP
          rw [HH.out, HKP.out]; rfl
        · rw [if_pos rfl] at q
          obtain ⟨rfl, rfl, rfl, rfl, rfl⟩ := q
          unfold HasOf hasA hasP
          rw [HH.out, HKP.out]; rfl

end Go.Proofs.YtaeiahkomdpcoaaDoor.Cell
end

section
/- The walk of package cell's May. -/
namespace Go.Proofs.YtaeiahkomdpcoaaDoor.Cell
open Go.RowKit Go.Proofs.YtaeiahkomdpcoaaDoor.Num Go.Proofs.YtaeiahkomdpcoaaDoor.Wire

def mayCB (c : Cel) : Bool := decide (1 ≤ c.kind ∧ c.kind ≤ 6) && celEq c (hasC c) && decide (c.n ≤ big) && decide (c.name.size ≤ 200) && mayBody c.body
theorem mayCB_iff (c : Cel) : mayCB c = true ↔ mayC c := by
  unfold mayCB mayC
  simp only [Bool.and_eq_true, decide_eq_true_eq, celEq_iff, and_assoc]

/-- A cell's memory in a world that only grew. -/
theorem cell_grow {w : World} {a : Addr} {v : Value} (h : w.cell? a = some v) : ∀ d os, (Go.Sort.grow (redrawn w d) os).cell? a = some v := fun d os => cell_regrown h d os

set_option maxHeartbeats 3200000 in
set_option maxRecDepth 100000 in
theorem mayC_calls (c : Cel) (A : Option Addr) (cp : Nat) (w : World) (hP : PcsAt w A c.body.pcs) (hl : c.body.pcs.length ≤ 100000) (hk : c.kind < 256) :
    Calls Tryd.prog 78 #[.agg (cvs c A cp)] w fun e w' => e = .returned (.bool (mayCB c)) ∧ Below w.heap.size w w' := by
  have hh : ∀ W, Calls Tryd.prog 100 #[.agg (cvs c A cp)] W fun e w' => e = .returned (.agg (cvs (hasC c) (hasA c A) (hasP c cp))) ∧ Below W.heap.size W w' := fun W => has_calls c A cp W
  have hp2 : ∀ W, PcsAt W A c.body.pcs → PcsAt W (hasA c A) (hasC c).body.pcs := fun W => has_pcs c A W
  have hs : ∀ W, Below w.heap.size w W → Calls Tryd.prog 99 #[.agg (cvs c A cp), .agg (cvs (hasC c) (hasA c A) (hasP c cp))] W fun e w' => e = .returned (.bool (celEq c (hasC c))) ∧ Below W.heap.size W w' := fun W hb =>
    same_calls c (hasC c) A (hasA c A) cp (hasP c cp) W (hP.below hb) (hp2 W (hP.below hb)) hl
  have hm : ∀ W, Below w.heap.size w W → Calls Tryd.prog 101 #[.agg #[.int .i64 c.body.len, .string c.body.inl, .slice A c.body.pcs.length cp]] W fun e w' => e = .returned (.bool (mayBody c.body)) ∧ Below W.heap.size W w' := fun W hb =>
    mayBody_calls c.body.len c.body.inl A cp c.body.pcs W (hP.below hb)
  unfold mayCB
  obtain ⟨hv, qh⟩ : ∃ v, v = (cvs (hasC c) (hasA c A) (hasP c cp)) := ⟨_, rfl⟩
  obtain ⟨se, qs⟩ : ∃ v, v = celEq c (hasC c) := ⟨_, rfl⟩
  obtain ⟨mb, qm⟩ : ∃ v, v = mayBody c.body := ⟨_, rfl⟩
  rw [← qh] at hh
  rw [← qh, ← qs] at hs
  rw [← qm] at hm
  rw [← qs, ← qm]
  clear qh qs qm hp2
  obtain ⟨ck, cn, cg, cm, cl, ci, cps⟩ := c
  unfold cvs at hh hs ⊢
  simp only at hP hl hk hh hs hm ⊢
  have HH := Lib.hid hh
  have HS := Lib.hid hs
  have HM := Lib.hid hm
  have b1 := below_one w (.cells #[.int .u8 (ck : Int), .int .u64 (cn : Int), .bool cg, .string cm, .int .i64 cl, .string ci, .slice A cps.length cp] 99)
  have R0 := row_new w #[.int .u8 (ck : Int), .int .u64 (cn : Int), .bool cg, .string cm, .int .i64 cl, .string ci, .slice A cps.length cp]
  have hbg : big = 281474976710656 := rfl
  clear hh hs hm hP hl
  by_cases k0 : ck = 0
  · subst k0
    clear HH HS HM R0
    go_enter Tryd.func78, Tryd.ntmps78
    go_wp2_with fail
    go_quiet (fail)
    go_wp2_with fail
    go_ret
    exact ⟨rfl, below_drewN b1 _⟩
  by_cases k7 : 6 < ck
  · have i1 : (1 : Int) ≤ (ck : Int) := by omega
    have i2 : decide ((ck : Int) ≤ 6) = false := decide_eq_false (by omega)
    rw [decide_eq_false (show ¬ (1 ≤ ck ∧ ck ≤ 6) by omega)]
    clear HH HS HM R0
    go_enter Tryd.func78, Tryd.ntmps78
    go_wp2_with fail
    go_quiet (fail)
    go_wp2_with fail
    go_ret
    exact ⟨by simp, below_drewN b1 _⟩
  have i1 : (1 : Int) ≤ (ck : Int) := by omega
  have i2 : (ck : Int) ≤ 6 := by omega
  rw [decide_eq_true (show 1 ≤ ck ∧ ck ≤ 6 by omega)]
  obtain ⟨p0, p1, p2, p3, p4, p5, p6⟩ := R0.c
  have c0 := cell_grow p0
  have c1 := cell_grow p1
  have c2 := cell_grow p2
  have c3 := cell_grow p3
  have c4 := cell_grow p4
  have c5 := cell_grow p5
  have c6 := cell_grow p6
  have B1 := Lib.hid b1
  clear p0 p1 p2 p3 p4 p5 p6 R0 k0 k7 b1
  cases se
  case false =>
    go_enter Tryd.func78, Tryd.ntmps78
    go_wp2_with fail
    refine wp_region_quiet_below (by kernel_rfl) (by kernel_rfl) ?_
    repeat (go_big_quiet_step (first | (go_at_call 100; exact Calls.regrown_of (HH.out _)) | (go_at_call 99; exact Calls.regrown_of (HS.out _ (below_of B1.out (below_regrown _ _ _)))) | (go_at_call 101; exact Calls.regrown_of (HM.out _ (below_of B1.out (below_regrown _ _ _))))))
    refine wpQuiet_nil ?_
    intro _ hw'
    obtain ⟨⟨dq, osq⟩, hw''⟩ := hw'
    subst hw''
    have hb6 := below_of B1.out (below_regrown _ dq osq)
    go_wp2_with fail
    go_ret
    exact ⟨rfl, hb6⟩
  by_cases kn : cn ≤ big
  case neg =>
    have i3 : decide ((cn : Int) ≤ 281474976710656) = false := decide_eq_false (by omega)
    rw [decide_eq_false kn]
    clear kn hbg
    go_enter Tryd.func78, Tryd.ntmps78
    go_wp2_with fail
    refine wp_region_quiet_below (by kernel_rfl) (by kernel_rfl) ?_
    repeat (go_big_quiet_step (first | (go_at_call 100; exact Calls.regrown_of (HH.out _)) | (go_at_call 99; exact Calls.regrown_of (HS.out _ (below_of B1.out (below_regrown _ _ _)))) | (go_at_call 101; exact Calls.regrown_of (HM.out _ (below_of B1.out (below_regrown _ _ _))))))
    refine wpQuiet_nil ?_
    intro _ hw'
    obtain ⟨⟨dq, osq⟩, hw''⟩ := hw'
    subst hw''
    have hb6 := below_of B1.out (below_regrown _ dq osq)
    go_wp2_with fail
    go_ret
    exact ⟨rfl, hb6⟩
  have i3 : (cn : Int) ≤ 281474976710656 := by omega
  rw [decide_eq_true kn]
  clear kn hbg
  by_cases km : cm.size ≤ 200
  case neg =>
    have i4 : decide ((cm.size : Int) ≤ 200) = false := decide_eq_false (by omega)
    rw [decide_eq_false km]
    clear km
    go_enter Tryd.func78, Tryd.ntmps78
    go_wp2_with fail
    refine wp_region_quiet_below (by kernel_rfl) (by kernel_rfl) ?_
    repeat (go_big_quiet_step (first | (go_at_call 100; exact Calls.regrown_of (HH.out _)) | (go_at_call 99; exact Calls.regrown_of (HS.out _ (below_of B1.out (below_regrown _ _ _)))) | (go_at_call 101; exact Calls.regrown_of (HM.out _ (below_of B1.out (below_regrown _ _ _))))))
    refine wpQuiet_nil ?_
    intro _ hw'
    obtain ⟨⟨dq, osq⟩, hw''⟩ := hw'
    subst hw''
    have hb6 := below_of B1.out (below_regrown _ dq osq)
    go_wp2_with fail
    go_ret
    exact ⟨rfl, hb6⟩
  have i4 : (cm.size : Int) ≤ 200 := by omega
  rw [decide_eq_true km]
  clear km
  go_enter Tryd.func78, Tryd.ntmps78
  go_wp2_with fail
  refine wp_region_quiet_below (by kernel_rfl) (by kernel_rfl) ?_
  repeat (go_big_quiet_step (first | (go_at_call 100; exact Calls.regrown_of (HH.out _)) | (go_at_call 99; exact Calls.regrown_of (HS.out _ (below_of B1.out (below_regrown _ _ _)))) | (go_at_call 101; exact Calls.regrown_of (HM.out _ (below_of B1.out (below_regrown _ _ _))))))
  refine wpQuiet_nil ?_
  intro _ hw'
  obtain ⟨⟨dq, osq⟩, hw''⟩ := hw'
  subst hw''
  have hb6 := below_of B1.out (below_regrown _ dq osq)
  go_wp2_with fail
  go_ret
  exact ⟨by simp, hb6⟩

end Go.Proofs.YtaeiahkomdpcoaaDoor.Cell
end

section
/- The walk of package cell's body. -/
namespace Go.Proofs.YtaeiahkomdpcoaaDoor.Cell
open Go.RowKit Go.Proofs.YtaeiahkomdpcoaaDoor.Num Go.Proofs.YtaeiahkomdpcoaaDoor.Wire

theorem listAt_lit (w : World) (vs : List Value) (t : TypeId) : ListAt (w.alloc (.cells vs.toArray t)) (some ⟨w.heap.size, 0, none⟩) vs := fun _ => by
  refine ⟨_, rfl, by simp, fun i v hv => ?_⟩
  have hb := (MapKept.heap_alloc w (.cells vs.toArray t)).1
  have e : (⟨w.heap.size, 0, none⟩ : Addr).add i = ⟨w.heap.size, i, none⟩ := by unfold Addr.add; split <;> simp_all
  rw [e, Joins.cell_of_block hb]
  simpa using hv
/-- A body in a block. -/
def BRow (w : World) (b : Nat) (l : Int) (i : ByteArray) (A : Option Addr) (n cp : Nat) : Prop := w.heap[b]? = some (.cells #[.int .i64 l, .string i, .slice A n cp] 97 (0, 0))
section
variable {w w' : World} {b : Nat} {l : Int} {i : ByteArray} {A : Option Addr} {n cp : Nat}
theorem BRow.lt (h : BRow w b l i A n cp) : b < w.heap.size := (Array.getElem?_eq_some_iff.1 h).1
theorem BRow.below (h : BRow w b l i A n cp) (hb : Below w.heap.size w w') : BRow w' b l i A n cp := (hb.block _ h.lt).trans h
theorem BRow.drew (h : BRow w b l i A n cp) : BRow w.drew b l i A n cp := h
theorem BRow.c (h : BRow w b l i A n cp) : w.cell? ⟨b, 0, none⟩ = some (.int .i64 l) ∧ w.cell? ⟨b, 1, none⟩ = some (.string i) ∧ w.cell? ⟨b, 2, none⟩ = some (.slice A n cp) := by
  refine ⟨?_, ?_, ?_⟩ <;> (rw [Joins.cell_of_block h]; rfl)
end
theorem pcsW_snoc (ps : List Piece) (p : Piece) : pcsW (ps ++ [p]) = pcsW ps ++ pcW p := by
  induction ps with
  | nil => simp [pcsW]
  | cons q ps ih => simp [pcsW, ih]
theorem pcW_len (p : Piece) : (pcW p).length ≤ 27 := numsW_len _
theorem pcsW_len (ps : List Piece) : (pcsW ps).length ≤ 27 * ps.length := by
  induction ps with
  | nil => simp [pcsW]
  | cons p ps ih =>
    have := pcW_len p
    simp only [pcsW, List.length_append, List.length_cons]; omega
theorem sumOk_all : ∀ (ps : List Piece) (left : Int), left ≤ 32768 → sumOk left ps = true → ∀ p ∈ ps, 0 ≤ p.row ∧ p.row < 4096 ∧ p.stamp ≤ big ∧ 1 ≤ p.len ∧ p.len ≤ 32768
  | [], _, _, _, p, hp => by simp at hp
  | q :: ps, left, hl, h, p, hp => by
    unfold sumOk pcOk at h
    simp only [Bool.and_eq_true, decide_eq_true_eq] at h
    rcases List.mem_cons.1 hp with rfl | hp
    · exact ⟨h.1.1.1.1, h.1.1.1.2, h.1.1.2, h.1.2.1, by omega⟩
    · exact sumOk_all ps _ (by omega) h.2 p hp
theorem mayBody_facts {b : Body} (h : mayBody b = true) : (0 ≤ b.len ∧ b.len ≤ 32768) ∧ b.inl.size ≤ 64 ∧ b.pcs.length ≤ 512 ∧ ∀ p ∈ b.pcs, 0 ≤ p.row ∧ p.row < 4096 ∧ p.stamp ≤ big ∧ 1 ≤ p.len ∧ p.len ≤ 32768 := by
  unfold mayBody at h
  simp only [Bool.and_eq_true, decide_eq_true_eq] at h
  obtain ⟨h1, h2⟩ := h
  split at h2
  · rename_i h0
    simp only [Bool.and_eq_true, decide_eq_true_eq] at h2
    have hp : b.pcs = [] := List.eq_nil_of_length_eq_zero h0
    exact ⟨h1, by omega, by omega, by rw [hp]; intro p hp; simp at hp⟩
  · simp only [Bool.and_eq_true, decide_eq_true_eq] at h2
    exact ⟨h1, by rw [h2.1.1]; decide, h2.1.2, sumOk_all _ _ h1.2 h2.2⟩

set_option maxHeartbeats 3200000 in
set_option maxRecDepth 100000 in
theorem body_calls (L : Nat) (inl : ByteArray) (A : Option Addr) (cp : Nat) (ps : List Piece) (w : World) (hP : PcsAt w A ps) (hm : mayBody ⟨(L : Int), inl, ps⟩ = true) :
    Calls Tryd.prog 81 #[.agg #[.int .i64 (L : Int), .string inl, .slice A ps.length cp]] w fun e w' => e = .returned (.string (bs (bodyW ⟨(L : Int), inl, ps⟩))) ∧ Below w.heap.size w w' := by
  obtain ⟨⟨_, hL⟩, hi, hn, hall⟩ := mayBody_facts hm
  simp only at hL hi hn hall
  have hb1 := below_one w (.cells #[.int .i64 (L : Int), .string inl, .slice A ps.length cp] 97)
  have hR : BRow (w.alloc (.cells #[.int .i64 (L : Int), .string inl, .slice A ps.length cp] 97)) w.heap.size (L : Int) inl A ps.length cp := (MapKept.heap_alloc w _).1
  have hP1 := hP.below hb1
  have hLw : IntKind.u64.wrap (L : Int) = (L : Int) := IntWalk.u64_in _ (by omega)
  have hnw : IntKind.u64.wrap (ps.length : Int) = (ps.length : Int) := IntWalk.u64_in _ (by omega)
  have H1 : Hid (∀ (x : Nat), x < 18446744073709551616 → ∀ W : World, Calls Tryd.prog 79 #[.slice (some ⟨W.heap.size, 0, none⟩) 1 1] (W.alloc (.cells #[.int .u64 (x : Int)] 22)) fun e w' => e = .returned (.string (bs (numsW [x]))) ∧ Below (W.alloc (.cells #[.int .u64 (x : Int)] 22)).heap.size (W.alloc (.cells #[.int .u64 (x : Int)] 22)) w') := fun x hx W =>
    nums_calls (some ⟨W.heap.size, 0, none⟩) 1 [x] _ (listAt_lit W [.int .u64 (x : Int)] 22) (by simpa using hx) (by simp)
  have H1d : Hid (∀ (x : Nat), x < 18446744073709551616 → ∀ W : World, Calls Tryd.prog 79 #[.slice (some ⟨W.heap.size, 0, none⟩) 1 1] (W.alloc (.cells #[.int .u64 (x : Int)] 22)).drew fun e w' => e = .returned (.string (bs (numsW [x]))) ∧ Below (W.alloc (.cells #[.int .u64 (x : Int)] 22)).drew.heap.size (W.alloc (.cells #[.int .u64 (x : Int)] 22)).drew w') := fun x hx W =>
    nums_calls (some ⟨W.heap.size, 0, none⟩) 1 [x] _ (listAt_lit W [.int .u64 (x : Int)] 22) (by simpa using hx) (by simp)
  obtain ⟨out, qo⟩ : ∃ x, x = bs (bodyW ⟨(L : Int), inl, ps⟩) := ⟨_, rfl⟩
  rw [← qo]
  have QO := Lib.hid qo
  have HALL := Lib.hid hall
  clear hm hP qo hall
  go_enter Tryd.func81, Tryd.ntmps81
  go_upto_region 1 with fail
  go_cut [3] from 6 (fun s3 wx => s3 = .string (bs (numsW [L]) ++ bs (boolW (decide (0 < ps.length)))) ∧ BRow wx w.heap.size (L : Int) inl A ps.length cp ∧ PcsAt wx A ps ∧ Below w.heap.size w wx)
  case first =>
    have hLt : L < 18446744073709551616 := by omega
    have HN := Lib.hid (H1d.out L hLt)
    clear HALL QO H1 H1d hnw hLt hi hn
    generalize w.alloc (.cells #[.int .i64 (L : Int), .string inl, .slice A ps.length cp] 97) = W1 at hR hP1 hb1 ⊢
    have hb2 := below_drew (below_alloc hb1 (.cells #[.int .u64 (L : Int)] 22))
    have hR2 : BRow (W1.alloc (.cells #[.int .u64 (L : Int)] 22)).drew w.heap.size (L : Int) inl A ps.length cp := (hR.below (below_one W1 _)).drew
    have hP2 : PcsAt (W1.alloc (.cells #[.int .u64 (L : Int)] 22)).drew A ps := hP1.below (below_drew (below_one W1 (.cells #[.int .u64 (L : Int)] 22)))
    have K0 := Lib.hid (And.intro hR.c.1 hR.c.2.2)
    have K1 := Lib.hid (And.intro hR2.c.1 hR2.c.2.2)
    have hsz : (bs (numsW [L])).size ≤ 9 := by rw [bs_size]; exact numsW_len [L]
    obtain ⟨S1, q1⟩ : ∃ x, x = bs (numsW [L]) := ⟨_, rfl⟩
    obtain ⟨S2, q2⟩ : ∃ x, x = bs (boolW (decide (0 < ps.length))) := ⟨_, rfl⟩
    have hB : Hid (∀ W, Calls Tryd.prog 82 #[.bool (decide (0 < ps.length))] W fun e w' => e = .returned (.string S2) ∧ Below W.heap.size W w') := fun W => by
      rw [q2]; exact bool_calls _ W
    have y2 : S2.size = 1 := by rw [q2]; rfl
    rw [← q1] at hsz HN
    have Q1 := Lib.hid q1
    have Q2 := Lib.hid q2
    have z1 : ¬ 9223372036854775807 < S1.size + S2.size := by omega
    clear q1 q2 y2 hsz hR
    go_wp2_with fail
    go_region_held3 (fun W => W.cell? ⟨w.heap.size, 0, none⟩ = some (.int .i64 (L : Int)) ∧ W.cell? ⟨w.heap.size, 2, none⟩ = some (.slice A ps.length cp)) (first | assumption | exact K0.out | exact K1.out) (first
      | (go_at_call 79; refine (HN.out _).mono ?_; rintro e w2 ⟨rfl, hb3⟩; have hR3 := hR2.below hb3; have hP3 := hP2.below hb3; have hb4 := below_of hb2 hb3; have hS3 := And.intro hR3.c.1 hR3.c.2.2)
      | (go_at_call 82; refine (hB.out _).mono ?_; rintro e w3 ⟨rfl, hb5⟩; have hR5 := hR3.below hb5; have hP5 := hP3.below hb5; have hb6 := below_of hb4 hb5; have hS5 := And.intro hR5.c.1 hR5.c.2.2))
    all_goals
      go_wp2_with fail
      go_meet
      case rel => exact ⟨by rw [Q1.out, Q2.out], hR5, hP5, hb6⟩
  case rest =>
    obtain ⟨rfl, hR1, hP2, hb2⟩ := hcut
    clear hR hP1 hb1 hLw
    obtain ⟨p0, p1, p2⟩ := hR1.c
    obtain ⟨S1, q1⟩ : ∃ x, x = bs (numsW [L]) ++ bs (boolW (decide (0 < ps.length))) := ⟨_, rfl⟩
    have y1 : S1.size ≤ 10 := by
      rw [q1, ByteArray.size_append, bs_size, bs_size]
      have h1 := numsW_len [L]
      have h2 : (boolW (decide (0 < ps.length))).length = 1 := rfl
      simp only [List.length_singleton] at h1
      omega
    have Q1 := Lib.hid q1
    rw [← q1]
    clear q1
    by_cases h0 : ps.length = 0
    · have i0 : ((ps.length : Int) == 0) = true := by rw [beq_iff_eq]; omega
      have hT : Hid (∀ W : World, Calls Tryd.prog 80 #[.slice (some ⟨W.heap.size, 0, none⟩) 1 1] (W.alloc (.cells #[.string inl] 9)) fun e w' => e = .returned (.string (bs (textsW [inl.data.toList]))) ∧ Below (W.alloc (.cells #[.string inl] 9)).heap.size (W.alloc (.cells #[.string inl] 9)) w') := fun W =>
        texts_calls (some ⟨W.heap.size, 0, none⟩) 1 [inl] _ (listAt_lit W [.string inl] 9) (by intro s hs; simp at hs; subst hs; omega) (by simp)
      obtain ⟨S2, q2⟩ : ∃ x, x = bs (textsW [inl.data.toList]) := ⟨_, rfl⟩
      have HO := Lib.hid (show out = S1 ++ S2 by
        rw [QO.out, Q1.out, q2, bs_append, bs_append]
        unfold bodyW
        simp only [Int.toNat_natCast]
        rw [if_pos h0])
      have y2 : S2.size ≤ 73 := by
        rw [q2, bs_size]
        have h1 := textsW_len [inl.data.toList] 64 (by intro s hs; simp at hs; subst hs; rw [size_list]; exact hi)
        simp only [List.length_singleton] at h1
        omega
      rw [← q2] at hT
      have z1 : ¬ 9223372036854775807 < S1.size + S2.size := by omega
      clear q2 y2 y1 QO Q1 HALL H1 H1d h0
      go_wp2_with fail
      refine (hT.out _).mono ?_
      rintro e w3 ⟨rfl, hb3⟩
      have hb4 := below_of (below_alloc hb2 (.cells #[.string inl] 9)) hb3
      go_wp2_with fail
      go_ret
      exact ⟨by rw [HO.out]; rfl, hb4⟩
    · have i0 : ((ps.length : Int) == 0) = false := by rw [beq_eq_false_iff_ne]; omega
      have hNn := Lib.hid (H1.out ps.length (by omega))
      obtain ⟨S2, q2⟩ : ∃ x, x = bs (numsW [ps.length]) := ⟨_, rfl⟩
      have HO := Lib.hid (show out = S1 ++ S2 ++ bs (pcsW ps) by
        rw [QO.out, Q1.out, q2, bs_append, bs_append, bs_append]
        unfold bodyW
        simp only [Int.toNat_natCast]
        rw [if_neg h0]
        simp)
      have y2 : S2.size ≤ 9 := by rw [q2, bs_size]; exact numsW_len [ps.length]
      rw [← q2] at hNn
      have z1 : ¬ 9223372036854775807 < S1.size + S2.size := by omega
      have H3 : Hid (∀ (x y z : Nat), x < 18446744073709551616 → y < 18446744073709551616 → z < 18446744073709551616 → ∀ (W : World) (g : Nat), W.heap.size = g → Calls Tryd.prog 79 #[.slice (some ⟨g, 0, none⟩) 3 3] (W.alloc (.cells #[.int .u64 (x : Int), .int .u64 (y : Int), .int .u64 (z : Int)] 22)) fun e w' => e = .returned (.string (bs (numsW [x, y, z]))) ∧ Below (W.alloc (.cells #[.int .u64 (x : Int), .int .u64 (y : Int), .int .u64 (z : Int)] 22)).heap.size (W.alloc (.cells #[.int .u64 (x : Int), .int .u64 (y : Int), .int .u64 (z : Int)] 22)) w') := fun x y z hx hy hz W g hg => by
        subst hg
        exact nums_calls (some ⟨W.heap.size, 0, none⟩) 3 [x, y, z] _ (listAt_lit W [.int .u64 (x : Int), .int .u64 (y : Int), .int .u64 (z : Int)] 22) (by intro t ht; simp at ht; rcases ht with rfl | rfl | rfl <;> assumption) (by simp)
      clear q2 QO Q1 H1 H1d h0
      go_wp2_with fail
      refine (hNn.out _).mono ?_
      rintro e w3 ⟨rfl, hb3⟩
      have hb4 := below_of (below_alloc hb2 (.cells #[.int .u64 (ps.length : Int)] 22)) hb3
      have hR4 := (hR1.below (below_one wc (.cells #[.int .u64 (ps.length : Int)] 22))).below hb3
      have hP4 := (hP2.below (below_one wc (.cells #[.int .u64 (ps.length : Int)] 22))).below hb3
      have hy : (S1 ++ S2).size ≤ 19 := by rw [ByteArray.size_append]; omega
      obtain ⟨S3, q3⟩ : ∃ x, x = S1 ++ S2 := ⟨_, rfl⟩
      rw [← q3] at hy HO
      have Q3 := Lib.hid q3.symm
      clear p0 p1 p2 hb3 hR1 hP2 hb2 y1 y2 q3 hNn
      obtain ⟨p0, p1, p2⟩ := hR4.c
      go_wp2_with fail
      rw [Q3.out]
      clear z1 Q3
      go_loopw [3, 38] (fun sv iv wr => ∃ (k : Nat) (S : ByteArray), k ≤ ps.length ∧ S.size ≤ 19 + 27 * k ∧ sv = .string S ∧ iv = .int .i64 (k : Int) ∧ Hid (S = S3 ++ bs (pcsW (ps.take k))) ∧ PcsAt wr A ps ∧ Below w.heap.size w wr) (fun _ iv _ => ps.length - (intOf iv).toNat)
      case atStart => exact ⟨0, S3, by omega, by omega, rfl, rfl, Lib.hid (by rw [List.take_zero]; show S3 = S3 ++ bs []; rw [show bs [] = ByteArray.empty from rfl]; simp), hP4, hb4⟩
      case round =>
        obtain ⟨k, S, hk, hS, rfl, rfl, hE, hPr, hbr⟩ := hrel
        by_cases hlt : k < ps.length
        · obtain ⟨ad, rfl, had, c0, c1, c2⟩ := hPr.at_ hlt
          have hbd := HALL.out ps[k] (List.getElem_mem hlt)
          have hT := Lib.hid (List.take_succ_eq_append_getElem hlt)
          obtain ⟨p, hp⟩ : ∃ p, p = ps[k] := ⟨_, rfl⟩
          rw [← hp] at c0 c1 c2 hbd hT
          clear hp
          obtain ⟨row, stamp, ln⟩ := p
          simp only at c0 c1 c2 hbd
          obtain ⟨r, rfl⟩ := Int.eq_ofNat_of_zero_le hbd.1
          obtain ⟨l, rfl⟩ := Int.eq_ofNat_of_zero_le (show 0 ≤ ln by omega)
          have hbg : big = 281474976710656 := rfl
          have hCall := fun W g hg => H3.out r stamp l (by omega) (by omega) (by omega) W g hg
          obtain ⟨N3, q3⟩ : ∃ x, x = bs (numsW [r, stamp, l]) := ⟨_, rfl⟩
          have HS := Lib.hid (show S ++ N3 = S3 ++ bs (pcsW (ps.take (k + 1))) by
            rw [hE.out, hT.out, pcsW_snoc, q3, ← bs_append, ← ByteArray.append_assoc]
            unfold pcW
            simp only [Int.toNat_natCast])
          have yN : N3.size ≤ 27 := by rw [q3, bs_size]; exact numsW_len [r, stamp, l]
          rw [← q3] at hCall
          have HC := Lib.hid hCall
          have z1 : ¬ 9223372036854775807 < S.size + N3.size := by omega
          have HZ := Lib.hid (show (S ++ N3).size ≤ 19 + 27 * (k + 1) by rw [ByteArray.size_append]; omega)
          have wr1 : IntKind.u64.wrap (r : Int) = (r : Int) := IntWalk.u64_in _ (by omega)
          have wl1 : IntKind.u64.wrap (l : Int) = (l : Int) := IntWalk.u64_in _ (by omega)
          have b1 := below_one wr (.cells #[.int .i64 (r : Int), .int .u64 (stamp : Int), .int .i64 (l : Int)] 144)
          have b2 := below_alloc b1 (.cells #[.int .u64 (r : Int), .int .u64 (stamp : Int), .int .u64 (l : Int)] 22)
          clear hCall q3 yN hbd hT hE hbg
          go_wp2_with fail
          refine (HC.out _ _ (by simp)).mono ?_
          rintro e w5 ⟨rfl, hb5⟩
          have b3 := below_of b2 hb5
          have hP5 := hPr.below b3
          have hb6 := below_of hbr b3
          go_wp2_with fail
          go_roundw
          case rel => exact ⟨k + 1, S ++ N3, by omega, HZ.out, rfl, by go_num, HS, hP5, hb6⟩
          case measure => simp [intOf]; omega
        · obtain rfl : k = ps.length := by omega
          have HO2 := Lib.hid (show out = S by rw [HO.out, hE.out, List.take_length])
          go_wp2_with fail
          go_ret
          exact ⟨by rw [HO2.out]; rfl, hbr⟩

end Go.Proofs.YtaeiahkomdpcoaaDoor.Cell
end

section
/- The walk of package cell's Encode. -/
namespace Go.Proofs.YtaeiahkomdpcoaaDoor.Cell
open Go.RowKit Go.Proofs.YtaeiahkomdpcoaaDoor.Num Go.Proofs.YtaeiahkomdpcoaaDoor.Wire

def encV (c : Cel) : Value := if mayCB c = true then .tuple #[.string (bs (cellW c)), .int .i64 0] else .tuple #[.string ⟨#[]⟩, .int .i64 2]
theorem bodyW_len {b : Body} (h : mayBody b = true) : (bodyW b).length ≤ 14000 := by
  obtain ⟨_, h2, h3, _⟩ := mayBody_facts h
  have h4 := pcsW_len b.pcs
  have h5 := numsW_len [b.len.toNat]
  have h6 := numsW_len [b.pcs.length]
  have h7 := textsW_len [b.inl.data.toList] 64 (by intro s hs; simp at hs; subst hs; rw [size_list]; exact h2)
  unfold bodyW
  rw [List.length_append, List.length_append]
  have h8 : (boolW (decide (0 < b.pcs.length))).length = 1 := rfl
  simp only [List.length_singleton] at h5 h6 h7
  split
  · omega
  · rw [List.length_append]; omega
theorem nums_one (x : Nat) (hx : x < 18446744073709551616) (W : World) : Calls Tryd.prog 79 #[.slice (some ⟨W.heap.size, 0, none⟩) 1 1] (W.alloc (.cells #[.int .u64 (x : Int)] 22)) fun e w' => e = .returned (.string (bs (numsW [x]))) ∧ Below (W.alloc (.cells #[.int .u64 (x : Int)] 22)).heap.size (W.alloc (.cells #[.int .u64 (x : Int)] 22)) w' :=
  nums_calls (some ⟨W.heap.size, 0, none⟩) 1 [x] _ (listAt_lit W [.int .u64 (x : Int)] 22) (by simpa using hx) (by simp)
theorem texts_one (s : ByteArray) (hs : s.size ≤ 4096) (W : World) : Calls Tryd.prog 80 #[.slice (some ⟨W.heap.size, 0, none⟩) 1 1] (W.alloc (.cells #[.string s] 9)) fun e w' => e = .returned (.string (bs (textsW [s.data.toList]))) ∧ Below (W.alloc (.cells #[.string s] 9)).heap.size (W.alloc (.cells #[.string s] 9)) w' :=
  texts_calls (some ⟨W.heap.size, 0, none⟩) 1 [s] _ (listAt_lit W [.string s] 9) (by intro t ht; simp at ht; subst ht; exact hs) (by simp)

set_option maxHeartbeats 3200000 in
set_option maxRecDepth 100000 in
theorem encode_calls (c : Cel) (A : Option Addr) (cp : Nat) (w : World) (hP : PcsAt w A c.body.pcs) (hl : c.body.pcs.length ≤ 100000) (hk : c.kind < 256) :
    Calls Tryd.prog 61 #[.agg (cvs c A cp)] w fun e w' => e = .returned (encV c) ∧ Below w.heap.size w w' := by
  have b0 := below_one w (.cells (cvs c A cp) 99)
  have R0 := row_new w (cvs c A cp)
  have P0 := hP.below b0
  have HM := fun (W : World) (h : PcsAt W A c.body.pcs) => mayC_calls c A cp W h hl hk
  unfold encV
  cases hm : mayCB c
  · rw [if_neg (by decide)]
    rw [hm] at HM
    have HM1 := Lib.hid (HM _ P0)
    obtain ⟨ck, cn, cg, cm, ⟨cl, ci, cps⟩⟩ := c
    unfold cvs at HM1 b0 R0 ⊢
    simp only at HM1 b0 R0 ⊢
    clear hm HM hP hl hk P0
    obtain ⟨p0, p1, p2, p3, p4, p5, p6⟩ := R0.c
    go_enter Tryd.func61, Tryd.ntmps61
    go_wp2_with fail
    refine HM1.out.mono ?_
    rintro e w2 ⟨rfl, hb2⟩
    go_wp2_with fail
    go_ret2
    exact ⟨rfl, below_of b0 hb2⟩
  rw [if_pos rfl]
  rw [hm] at HM
  obtain ⟨⟨k1, k6⟩, hh, hn, hnm, hb⟩ := (mayCB_iff c).1 hm
  have hbf := mayBody_facts hb
  have hBl := bodyW_len hb
  have HM1 := Lib.hid (HM _ P0)
  have HBo := fun (L : Nat) (hL : c.body.len = (L : Int)) (W : World) (h : PcsAt W A c.body.pcs) => body_calls L c.body.inl A cp c.body.pcs W h (by rw [← hL]; exact hb)
  obtain ⟨out, qo⟩ : ∃ x, x = bs (cellW c) := ⟨_, rfl⟩
  rw [← qo]
  unfold cellW at qo
  obtain ⟨ck, cn, cg, cm, ⟨cl, ci, cps⟩⟩ := c
  simp only at k1 k6 hn hnm hbf hBl HBo qo P0
  obtain ⟨L, rfl⟩ := Int.eq_ofNat_of_zero_le hbf.1.1
  have HBo2 := Lib.hid (HBo L rfl)
  unfold cvs at HM1 b0 R0 P0 ⊢
  simp only at HM1 b0 R0 P0 ⊢
  have hbg : big = 281474976710656 := rfl
  have hN1 := Lib.hid (nums_one ck (by omega))
  have hN2 := Lib.hid (nums_one cn (by omega))
  have hT1 := Lib.hid (texts_one cm (by omega))
  have QO := Lib.hid qo
  have hkw : IntKind.u64.wrap (ck : Int) = (ck : Int) := IntWalk.u64_in _ (by omega)
  clear hm HM hP hl hk hh hb hbf HBo qo
  obtain ⟨p0, p1, p2, p3, p4, p5, p6⟩ := R0.c
  go_enter Tryd.func61, Tryd.ntmps61
  go_wp2_with fail
  refine HM1.out.mono ?_
  rintro e w2 ⟨rfl, hb2⟩
  have R2 := R0.below hb2
  have P2 := P0.below hb2
  have b2 := below_of b0 hb2
  clear p0 p1 p2 p3 p4 p5 p6 R0 P0 b0 hb2 HM1
  obtain ⟨p0, p1, p2, p3, p4, p5, p6⟩ := R2.c
  go_wp2_with fail
  refine (hN1.out _).mono ?_
  rintro e w3 ⟨rfl, hb3⟩
  have b3 := below_of (below_alloc b2 (.cells #[.int .u64 (ck : Int)] 22)) hb3
  have R3 := (R2.below (below_one w2 (.cells #[.int .u64 (ck : Int)] 22))).below hb3
  have P3 := (P2.below (below_one w2 (.cells #[.int .u64 (ck : Int)] 22))).below hb3
  clear p0 p1 p2 p3 p4 p5 p6 R2 P2 b2 hb3 hN1
  obtain ⟨p0, p1, p2, p3, p4, p5, p6⟩ := R3.c
  obtain ⟨S1, q1⟩ : ∃ x, x = bs (numsW [ck]) := ⟨_, rfl⟩
  have y1 : S1.size ≤ 9 := by rw [q1, bs_size]; exact numsW_len [ck]
  have Q1 := Lib.hid q1
  rw [← q1]
  clear q1
  have hk : ck = 1 ∨ ck = 2 ∨ ck = 6 ∨ ck = 4 ∨ ck = 5 ∨ ck = 3 := by omega
  rcases hk with rfl | rfl | rfl | rfl | rfl | rfl
  · obtain ⟨S2, q2⟩ : ∃ x, x = bs (numsW [cn]) := ⟨_, rfl⟩
    have y2 : S2.size ≤ 9 := by rw [q2, bs_size]; exact numsW_len [cn]
    have HO := Lib.hid (show out = S1 ++ S2 by rw [QO.out, Q1.out, q2, bs_append]; rfl)
    rw [← q2] at hN2
    have z1 : ¬ 9223372036854775807 < S1.size + S2.size := by omega
    clear q2 y1 y2 QO Q1 HBo2 hT1 hBl
    go_wp2_with fail
    refine (hN2.out _).mono ?_
    rintro e w4 ⟨rfl, hb4⟩
    have b4 := below_of (below_alloc b3 (.cells #[.int .u64 (cn : Int)] 22)) hb4
    go_wp2_with fail
    go_ret2
    exact ⟨by rw [HO.out]; rfl, b4⟩
  · obtain ⟨S2, q2⟩ : ∃ x, x = bs (numsW [cn]) := ⟨_, rfl⟩
    have y2 : S2.size ≤ 9 := by rw [q2, bs_size]; exact numsW_len [cn]
    have HO := Lib.hid (show out = S1 ++ S2 by rw [QO.out, Q1.out, q2, bs_append]; rfl)
    rw [← q2] at hN2
    have z1 : ¬ 9223372036854775807 < S1.size + S2.size := by omega
    clear q2 y1 y2 QO Q1 HBo2 hT1 hBl
    go_wp2_with fail
    refine (hN2.out _).mono ?_
    rintro e w4 ⟨rfl, hb4⟩
    have b4 := below_of (below_alloc b3 (.cells #[.int .u64 (cn : Int)] 22)) hb4
    go_wp2_with fail
    go_ret2
    exact ⟨by rw [HO.out]; rfl, b4⟩
  · obtain ⟨S2, q2⟩ : ∃ x, x = bs (numsW [cn]) := ⟨_, rfl⟩
    have y2 : S2.size ≤ 9 := by rw [q2, bs_size]; exact numsW_len [cn]
    have HO := Lib.hid (show out = S1 ++ S2 by rw [QO.out, Q1.out, q2, bs_append]; rfl)
    rw [← q2] at hN2
    have z1 : ¬ 9223372036854775807 < S1.size + S2.size := by omega
    clear q2 y1 y2 QO Q1 HBo2 hT1 hBl
    go_wp2_with fail
    refine (hN2.out _).mono ?_
    rintro e w4 ⟨rfl, hb4⟩
    have b4 := below_of (below_alloc b3 (.cells #[.int .u64 (cn : Int)] 22)) hb4
    go_wp2_with fail
    go_ret2
    exact ⟨by rw [HO.out]; rfl, b4⟩
  · obtain ⟨S2, q2⟩ : ∃ x, x = bs (textsW [cm.data.toList]) := ⟨_, rfl⟩
    have y2 : S2.size ≤ 300 := by
      rw [q2, bs_size]
      have := textsW_len [cm.data.toList] 200 (by intro s hs; simp at hs; subst hs; rw [size_list]; exact hnm)
      simp only [List.length_singleton] at this
      omega
    have HO := Lib.hid (show out = S1 ++ S2 by rw [QO.out, Q1.out, q2, bs_append]; rfl)
    rw [← q2] at hT1
    have z1 : ¬ 9223372036854775807 < S1.size + S2.size := by omega
    clear q2 y1 y2 QO Q1 HBo2 hN2 hBl
    go_wp2_with fail
    refine (hT1.out _).mono ?_
    rintro e w4 ⟨rfl, hb4⟩
    have b4 := below_of (below_alloc b3 (.cells #[.string cm] 9)) hb4
    go_wp2_with fail
    go_ret2
    exact ⟨by rw [HO.out]; rfl, b4⟩
  · obtain ⟨S2, q2⟩ : ∃ x, x = bs (bodyW ⟨(L : Int), ci, cps⟩) := ⟨_, rfl⟩
    have y2 : S2.size ≤ 14000 := by rw [q2, bs_size]; exact hBl
    have HO := Lib.hid (show out = S1 ++ S2 by rw [QO.out, Q1.out, q2, bs_append]; rfl)
    rw [← q2] at HBo2
    have z1 : ¬ 9223372036854775807 < S1.size + S2.size := by omega
    clear q2 y1 y2 QO Q1 hT1 hN2 hBl
    go_wp2_with fail
    refine (HBo2.out _ P3).mono ?_
    rintro e w4 ⟨rfl, hb4⟩
    have b4 := below_of b3 hb4
    go_wp2_with fail
    go_ret2
    exact ⟨by rw [HO.out]; rfl, b4⟩
  · obtain ⟨S2, q2⟩ : ∃ x, x = bs (boolW cg) := ⟨_, rfl⟩
    have y2 : S2.size = 1 := by rw [q2]; rfl
    have hB : Hid (∀ W, Calls Tryd.prog 82 #[.bool cg] W fun e w' => e = .returned (.string S2) ∧ Below W.heap.size W w') := fun W => by rw [q2]; exact bool_calls cg W
    have z1 : ¬ 9223372036854775807 < S1.size + S2.size := by omega
    have Q2 := Lib.hid q2
    clear q2 hT1 hN2
    go_wp2_with fail
    refine (hB.out _).mono ?_
    rintro e w4 ⟨rfl, hb4⟩
    have R4 := R3.below hb4
    have P4 := P3.below hb4
    have b4 := below_of b3 hb4
    clear p0 p1 p2 p3 p4 p5 p6 R3 P3 b3 hb4 hB
    obtain ⟨p0, p1, p2, p3, p4, p5, p6⟩ := R4.c
    cases cg
    · obtain ⟨S3, q3⟩ : ∃ x, x = bs (bodyW ⟨(L : Int), ci, cps⟩) := ⟨_, rfl⟩
      have y3 : S3.size ≤ 14000 := by rw [q3, bs_size]; exact hBl
      have HO := Lib.hid (show out = S1 ++ S2 ++ S3 by rw [QO.out, Q1.out, Q2.out, q3, bs_append, bs_append, List.append_assoc]; rfl)
      rw [← q3] at HBo2
      have z2 : ¬ 9223372036854775807 < (S1 ++ S2).size + S3.size := by rw [ByteArray.size_append]; omega
      clear q3 y1 y2 y3 QO Q1 Q2 hBl
      go_wp2_with fail
      refine (HBo2.out _ P4).mono ?_
      rintro e w5 ⟨rfl, hb5⟩
      have b5 := below_of b4 hb5
      go_wp2_with fail
      go_ret2
      exact ⟨by rw [HO.out]; rfl, b5⟩
    · have HO := Lib.hid (show out = S1 ++ S2 by rw [QO.out, Q1.out, Q2.out, bs_append]; rfl)
      clear y1 y2 QO Q1 Q2 hBl HBo2
      go_wp2_with fail
      go_ret2
      exact ⟨by rw [HO.out]; rfl, b4⟩

end Go.Proofs.YtaeiahkomdpcoaaDoor.Cell
end

section
/- Readers and what a call has made; the walk of package cell's unbody. -/
namespace Go.Proofs.YtaeiahkomdpcoaaDoor.Cell
open Go.RowKit Go.Proofs.YtaeiahkomdpcoaaDoor.Num Go.Proofs.YtaeiahkomdpcoaaDoor.Wire

theorem numR_len (m : Nat) (st : St) : (numR m st).2.1.length ≤ st.1.length ∧ (numR m st).1 ≤ m := by
  unfold numR
  split
  · exact ⟨Nat.le_refl _, Nat.zero_le _⟩
  · split
    · exact ⟨Nat.le_refl _, Nat.zero_le _⟩
    · split
      · exact ⟨Nat.le_refl _, Nat.zero_le _⟩
      · exact ⟨by simp only [List.length_drop]; omega, by simp only; omega⟩
theorem boolR_len (st : St) : (boolR st).2.1.length ≤ st.1.length := by
  obtain ⟨l, e⟩ := st
  unfold boolR
  split
  · exact Nat.le_refl _
  · cases l with
    | nil => exact Nat.le_refl _
    | cons c l =>
      simp only
      split
      · exact Nat.le_refl _
      · simp only [List.length_cons]; omega
theorem textR_len (m : Int) (st : St) : (textR m st).2.1.length ≤ st.1.length ∧ (textR m st).1.length ≤ st.1.length := by
  unfold textR
  split
  · exact ⟨Nat.le_refl _, Nat.zero_le _⟩
  · split
    · exact ⟨Nat.le_refl _, Nat.zero_le _⟩
    · exact ⟨by simp only [List.length_drop]; omega, by simp only [List.length_take, List.length_drop]; omega⟩

def pcCells (ps : List Piece) : List Value := ps.flatMap fun p => [.int .i64 p.row, .int .u64 (p.stamp : Int), .int .i64 p.len]
theorem pcCells_len (ps : List Piece) : (pcCells ps).length = ps.length * 3 := by
  induction ps with
  | nil => rfl
  | cons p ps ih => simp only [pcCells, List.flatMap_cons, List.length_append, List.length_cons, List.length_nil] at ih ⊢; omega
theorem pcCells_get : ∀ (ps : List Piece) (i : Nat) (p : Piece), ps[i]? = some p → (pcCells ps)[i * 3]? = some (.int .i64 p.row) ∧ (pcCells ps)[i * 3 + 1]? = some (.int .u64 (p.stamp : Int)) ∧ (pcCells ps)[i * 3 + 2]? = some (.int .i64 p.len)
  | [], _, _, h => by simp at h
  | q :: ps, 0, p, h => by
    simp at h; subst h
    exact ⟨rfl, rfl, rfl⟩
  | q :: ps, i + 1, p, h => by
    have ih := pcCells_get ps i p (by simpa using h)
    have e : ∀ n, (pcCells (q :: ps))[n + 3]? = (pcCells ps)[n]? := fun n => by
      show ([.int .i64 q.row, .int .u64 (q.stamp : Int), .int .i64 q.len] ++ pcCells ps)[n + 3]? = _
      rw [List.getElem?_append_right (by simp)]; rfl
    refine ⟨?_, ?_, ?_⟩
    · rw [show (i + 1) * 3 = i * 3 + 3 by omega, e]; exact ih.1
    · rw [show (i + 1) * 3 + 1 = (i * 3 + 1) + 3 by omega, e]; exact ih.2.1
    · rw [show (i + 1) * 3 + 2 = (i * 3 + 2) + 3 by omega, e]; exact ih.2.2
theorem pcCells_snoc (ps : List Piece) (p : Piece) : pcCells (ps ++ [p]) = pcCells ps ++ [.int .i64 p.row, .int .u64 (p.stamp : Int), .int .i64 p.len] := by
  simp [pcCells]
theorem pcs_of_own {w' : World} {base : Nat} {v : Value} {ps : List Piece} (h : w'.ownsRow base 144 3 v ps.length (pcCells ps)) :
    ∃ A c, v = .slice A ps.length c ∧ PcsAt w' A ps ∧ ∀ ad, A = some ad → base ≤ ad.block := by
  rcases h.2 with ⟨hv, hn⟩ | ⟨g, cap, cur, hv, hg, hh, hle, _, _, hcur⟩
  · have hp : ps = [] := List.eq_nil_of_length_eq_zero hn
    exact ⟨none, 0, by rw [hv, hn], by rw [hp]; exact PcsAt.nil _ _, fun ad h => by cases h⟩
  · subst hv
    refine ⟨_, _, rfl, fun i p hp => ⟨_, rfl, (Array.getElem?_eq_some_iff.1 hh).1, ?_, ?_, ?_⟩, fun ad h => by cases h; exact hg⟩
    · exact h.cells (g := g) rfl _ _ (pcCells_get ps i p hp).1
    · exact h.cells (g := g) rfl _ _ (pcCells_get ps i p hp).2.1
    · exact h.cells (g := g) rfl _ _ (pcCells_get ps i p hp).2.2
theorem PcsAt.grown {w w' : World} {A : Option Addr} {ps : List Piece} {p : Nat} (h : PcsAt w A ps) (hne : ∀ ad, A = some ad → ad.block ≠ p) (hg : w.grownBy w' (some p)) : PcsAt w' A ps := fun i s hs => by
  obtain ⟨ad, h0, h1, h2, h3, h4⟩ := h i s hs
  have hk : ∀ n, w'.cell? (ad.add n) = w.cell? (ad.add n) := fun n => World.cell?_of_block (by rw [block_of_add]; exact hg.block _ h1 (by simpa using fun e => hne ad h0 e))
  exact ⟨ad, h0, Nat.lt_of_lt_of_le h1 hg.size, (hk _).trans h2, (hk _).trans h3, (hk _).trans h4⟩
theorem BRow.grown {w w' : World} {b : Nat} {l : Int} {i : ByteArray} {A : Option Addr} {n cp p : Nat} (h : BRow w b l i A n cp) (hne : b ≠ p) (hg : w.grownBy w' (some p)) : BRow w' b l i A n cp :=
  (hg.block _ h.lt (by simpa using hne)).trans h
theorem infoPiece : (Tryd.prog.info? 144).map (fun i => (i.zero, i.size, i.bytes)) = some (some (.agg #[.int .i64 0, .int .u64 0, .int .i64 0]), 3, 24) := by kernel_rfl

end Go.Proofs.YtaeiahkomdpcoaaDoor.Cell
end
