/- The walk of package cell's has. -/
import Derived.Test.YtaeiahkomdpcoaaCellC
namespace Go.Proofs.Ytaeiahkomdpcoaa.Cell
open Go.RowKit Go.Proofs.Ytaeiahkomdpcoaa.Num Go.Proofs.Ytaeiahkomdpcoaa.Wire

/-- Seven values in a block. -/
def Row (w : World) (b : Nat) (cs : Array Value) : Prop := w.heap[b]? = some (.cells cs 50 (0, 0))
theorem Row.lt {w : World} {b : Nat} {cs : Array Value} (h : Row w b cs) : b < w.heap.size := (Array.getElem?_eq_some_iff.1 h).1
theorem Row.below {w w' : World} {b : Nat} {cs : Array Value} (h : Row w b cs) (hb : Below w.heap.size w w') : Row w' b cs := (hb.block _ h.lt).trans h
theorem Row.c {w : World} {b : Nat} {v0 v1 v2 v3 v4 v5 v6 : Value} (h : Row w b #[v0, v1, v2, v3, v4, v5, v6]) : w.cell? ⟨b, 0, none⟩ = some v0 ∧ w.cell? ⟨b, 1, none⟩ = some v1 ∧ w.cell? ⟨b, 2, none⟩ = some v2 ∧ w.cell? ⟨b, 3, none⟩ = some v3 ∧ w.cell? ⟨b, 4, none⟩ = some v4 ∧ w.cell? ⟨b, 5, none⟩ = some v5 ∧ w.cell? ⟨b, 6, none⟩ = some v6 := by
  refine ⟨?_, ?_, ?_, ?_, ?_, ?_, ?_⟩ <;> (rw [Joins.cell_of_block h]; rfl)
theorem Row.f {w : World} {b : Nat} {cs : Array Value} (h : Row w b cs) (i : Nat) : w.frozen? ⟨b, i, none⟩ = false := Lib.frozen_of_heap h i
theorem Row.set {w : World} {b : Nat} {cs : Array Value} (h : Row w b cs) (i : Nat) (v : Value) : Row (w.setCell ⟨b, i, none⟩ v) b (cs.setIfInBounds i v) := by
  unfold Row at h ⊢; simp [World.setCell, Array.getElem?_modify, h]
theorem Row.setAll {w : World} {b : Nat} {u0 u1 u2 u3 u4 u5 u6 : Value} (h : Row w b #[u0, u1, u2, u3, u4, u5, u6]) (v0 v1 v2 v3 v4 v5 v6 : Value) :
    Row (((((((w.setCell ⟨b, 0, none⟩ v0).setCell ⟨b, 1, none⟩ v1).setCell ⟨b, 2, none⟩ v2).setCell ⟨b, 3, none⟩ v3).setCell ⟨b, 4, none⟩ v4).setCell ⟨b, 5, none⟩ v5).setCell ⟨b, 6, none⟩ v6) b #[v0, v1, v2, v3, v4, v5, v6] := by
  have := ((((((h.set 0 v0).set 1 v1).set 2 v2).set 3 v3).set 4 v4).set 5 v5).set 6 v6
  simpa using this
theorem Row.other {w : World} {b : Nat} {cs : Array Value} (h : Row w b cs) (a : Addr) (ha : a.block ≠ b) (v : Value) : Row (w.setCell a v) b cs :=
  (Below.heap_setCell _ _ _ _ (fun e => ha e.symm)).trans h
theorem row_new (w : World) (cs : Array Value) : Row (w.alloc (.cells cs 50)) w.heap.size cs := (MapKept.heap_alloc w _).1
theorem below_all {w w1 : World} (hb : Below w.heap.size w w1) (b : Nat) (h : w.heap.size ≤ b) (v0 v1 v2 v3 v4 v5 v6 : Value) :
    Below w.heap.size w (((((((w1.setCell ⟨b, 0, none⟩ v0).setCell ⟨b, 1, none⟩ v1).setCell ⟨b, 2, none⟩ v2).setCell ⟨b, 3, none⟩ v3).setCell ⟨b, 4, none⟩ v4).setCell ⟨b, 5, none⟩ v5).setCell ⟨b, 6, none⟩ v6) :=
  below_set (below_set (below_set (below_set (below_set (below_set (below_set hb h _) h _) h _) h _) h _) h _) h _
def zvs : Array Value := cvs Cel.zero none 0
theorem zvs_eq : zvs = #[.int .u8 0, .int .u64 0, .bool false, .string ⟨#[]⟩, .int .i64 0, .string ⟨#[]⟩, .slice none 0 0] := rfl

/-- Has what a kind has a body? -/
def keepB (c : Cel) : Bool := decide (c.kind = 5) || (!decide (c.kind = 1 ∨ c.kind = 2 ∨ c.kind = 6) && !decide (c.kind = 4) && !c.gone)
def hasA (c : Cel) (A : Option Addr) : Option Addr := if keepB c then A else none
def hasP (c : Cel) (cp : Nat) : Nat := if keepB c then cp else 0
/-- What has hands back. -/
def HasOf (c : Cel) (A : Option Addr) (cp : Nat) (e : Ending) : Prop := e = .returned (.agg (cvs (hasC c) (hasA c A) (hasP c cp)))
theorem has_pcs (c : Cel) (A : Option Addr) (W : World) (h : PcsAt W A c.body.pcs) : PcsAt W (hasA c A) (hasC c).body.pcs := by
  have hk : (keepB c = true ∧ (hasC c).body = c.body) ∨ (keepB c = false ∧ (hasC c).body = Body.zero) := by
    unfold keepB hasC
    by_cases h1 : c.kind = 1 ∨ c.kind = 2 ∨ c.kind = 6
    · right
      rw [if_pos h1, decide_eq_true h1, decide_eq_false (by omega)]; exact ⟨rfl, rfl⟩
    · by_cases h4 : c.kind = 4
      · right
        rw [if_neg h1, if_pos h4, decide_eq_false h1, decide_eq_true h4, decide_eq_false (by omega)]; exact ⟨rfl, rfl⟩
      · by_cases h5 : c.kind = 5
        · left
          rw [if_neg h1, if_neg h4, if_pos h5, decide_eq_true h5]; exact ⟨rfl, rfl⟩
        · rw [if_neg h1, if_neg h4, if_neg h5, decide_eq_false h1, decide_eq_false h4, decide_eq_false h5]
          cases c.gone
          · left; exact ⟨rfl, rfl⟩
          · right; exact ⟨rfl, rfl⟩
  unfold hasA
  rcases hk with ⟨h1, h2⟩ | ⟨h1, h2⟩
  · rw [h1, h2]; exact h
  · rw [h2]; exact PcsAt.nil _ _

/-- Two blocks laid one behind the other. -/
theorem two_rows (w : World) (cs ds : Array Value) : Row ((w.alloc (.cells cs 50)).alloc (.cells ds 50)) w.heap.size cs ∧ Row ((w.alloc (.cells cs 50)).alloc (.cells ds 50)) (w.heap.size + 1) ds ∧ Below w.heap.size w ((w.alloc (.cells cs 50)).alloc (.cells ds 50)) := by
  refine ⟨Row.below (w := w.alloc (.cells cs 50)) (row_new w _) (below_one _ _), ?_, below_alloc (below_one w (.cells cs 50)) (.cells ds 50)⟩
  have := row_new (w.alloc (.cells cs 50)) ds
  rw [show (w.alloc (.cells cs 50)).heap.size = w.heap.size + 1 by simp] at this
  exact this

set_option maxHeartbeats 3200000 in
set_option maxRecDepth 100000 in
theorem has_calls (c : Cel) (A : Option Addr) (cp : Nat) (w : World) :
    Calls Try.prog 51 #[.agg (cvs c A cp)] w fun e w' => HasOf c A cp e ∧ Below w.heap.size w w' := by
  obtain ⟨ck, cn, cg, cm, cl, ci, cps⟩ := c
  obtain ⟨R0, R1, b1⟩ := two_rows w #[.int .u8 (ck : Int), .int .u64 (cn : Int), .bool cg, .string cm, .int .i64 cl, .string ci, .slice A cps.length cp] #[.int .u8 0, .int .u64 0, .bool false, .string ⟨#[]⟩, .int .i64 0, .string ⟨#[]⟩, .slice none 0 0]
  unfold cvs
  simp only
  go_enter Try.func51, Try.ntmps51
  go_upto_region 1 with fail
  go_cut [5] from 4 (fun s5 wx => s5 = .int .u8 (ck : Int) ∧ Row wx w.heap.size #[.int .u8 (ck : Int), .int .u64 (cn : Int), .bool cg, .string cm, .int .i64 cl, .string ci, .slice A cps.length cp] ∧ Row wx (w.heap.size + 1) #[.int .u8 0, .int .u64 0, .bool false, .string ⟨#[]⟩, .int .i64 0, .string ⟨#[]⟩, .slice none 0 0] ∧ Below w.heap.size w wx)
  case first =>
    go_wp2_with fail
    go_meet
    case rel => exact ⟨rfl, R0, R1, b1⟩
  case rest =>
    obtain ⟨rfl, H0, H1, hb⟩ := hcut
    clear R0 R1 b1
    obtain ⟨p0, p1, p2, p3, p4, p5, p6⟩ := H0.c
    obtain ⟨z0, z1, z2, z3, z4, z5, z6⟩ := H1.c
    have f0 := H1.f 0
    have f1 := H1.f 1
    have f2 := H1.f 2
    have f3 := H1.f 3
    have f4 := H1.f 4
    have f5 := H1.f 5
    have f6 := H1.f 6
    have hbg : w.heap.size ≤ w.heap.size + 1 := by omega
    by_cases k1 : ck = 1
    · subst k1
      have HE : Hid (hasC ⟨1, cn, cg, cm, cl, ci, cps⟩ = ⟨1, cn, false, ⟨#[]⟩, Body.zero⟩) := by
        show _ = _
        rfl
      have hG := H1.setAll (.int .u8 1) (.int .u64 (cn : Int)) (.bool false) (.string ⟨#[]⟩) (.int .i64 0) (.string ⟨#[]⟩) (.slice none 0 0)
      go_wp2_with fail
      refine bodyPost_ret (results_cell_row rfl _ _ (w.heap.size + 1) 50 _ (0, 0) _ rfl hG Try.underlying50 rfl (by kernel_rfl)) rfl ?_
      exact ⟨by unfold HasOf; rw [HE.out]; rfl, below_all hb _ hbg _ _ _ _ _ _ _⟩
    by_cases k2 : ck = 2
    · subst k2
      have HE : Hid (hasC ⟨2, cn, cg, cm, cl, ci, cps⟩ = ⟨2, cn, false, ⟨#[]⟩, Body.zero⟩) := by
        show _ = _
        rfl
      have hG := H1.setAll (.int .u8 2) (.int .u64 (cn : Int)) (.bool false) (.string ⟨#[]⟩) (.int .i64 0) (.string ⟨#[]⟩) (.slice none 0 0)
      go_wp2_with fail
      refine bodyPost_ret (results_cell_row rfl _ _ (w.heap.size + 1) 50 _ (0, 0) _ rfl hG Try.underlying50 rfl (by kernel_rfl)) rfl ?_
      exact ⟨by unfold HasOf; rw [HE.out]; rfl, below_all hb _ hbg _ _ _ _ _ _ _⟩
    by_cases k6 : ck = 6
    · subst k6
      have HE : Hid (hasC ⟨6, cn, cg, cm, cl, ci, cps⟩ = ⟨6, cn, false, ⟨#[]⟩, Body.zero⟩) := by
        show _ = _
        rfl
      have hG := H1.setAll (.int .u8 6) (.int .u64 (cn : Int)) (.bool false) (.string ⟨#[]⟩) (.int .i64 0) (.string ⟨#[]⟩) (.slice none 0 0)
      go_wp2_with fail
      refine bodyPost_ret (results_cell_row rfl _ _ (w.heap.size + 1) 50 _ (0, 0) _ rfl hG Try.underlying50 rfl (by kernel_rfl)) rfl ?_
      exact ⟨by unfold HasOf; rw [HE.out]; rfl, below_all hb _ hbg _ _ _ _ _ _ _⟩
    have n1 : ((ck : Int) == 1) = false := by rw [beq_eq_false_iff_ne]; omega
    have n2 : ((ck : Int) == 2) = false := by rw [beq_eq_false_iff_ne]; omega
    have n6 : ((ck : Int) == 6) = false := by rw [beq_eq_false_iff_ne]; omega
    by_cases k4 : ck = 4
    · subst k4
      have HE : Hid (hasC ⟨4, cn, cg, cm, cl, ci, cps⟩ = ⟨4, 0, false, cm, Body.zero⟩) := by
        show _ = _
        rfl
      have hG := H1.setAll (.int .u8 4) (.int .u64 0) (.bool false) (.string cm) (.int .i64 0) (.string ⟨#[]⟩) (.slice none 0 0)
      go_wp2_with fail
      refine bodyPost_ret (results_cell_row rfl _ _ (w.heap.size + 1) 50 _ (0, 0) _ rfl hG Try.underlying50 rfl (by kernel_rfl)) rfl ?_
      exact ⟨by unfold HasOf; rw [HE.out]; rfl, below_all hb _ hbg _ _ _ _ _ _ _⟩
    have n4 : ((ck : Int) == 4) = false := by rw [beq_eq_false_iff_ne]; omega
    by_cases k5 : ck = 5
    · subst k5
      have HE : Hid (hasC ⟨5, cn, cg, cm, cl, ci, cps⟩ = ⟨5, 0, false, ⟨#[]⟩, ⟨cl, ci, cps⟩⟩) := by
        show _ = _
        rfl
      have hG := H1.setAll (.int .u8 5) (.int .u64 0) (.bool false) (.string ⟨#[]⟩) (.int .i64 cl) (.string ci) (.slice A cps.length cp)
      go_wp2_with fail
      refine bodyPost_ret (results_cell_row rfl _ _ (w.heap.size + 1) 50 _ (0, 0) _ rfl hG Try.underlying50 rfl (by kernel_rfl)) rfl ?_
      exact ⟨by unfold HasOf; rw [HE.out]; rfl, below_all hb _ hbg _ _ _ _ _ _ _⟩
    have n5 : ((ck : Int) == 5) = false := by rw [beq_eq_false_iff_ne]; omega
    have hhas : ∀ g : Bool, hasC ⟨ck, cn, g, cm, cl, ci, cps⟩ = ⟨ck, 0, g, ⟨#[]⟩, if g = true then Body.zero else ⟨cl, ci, cps⟩⟩ := fun g => by
      unfold hasC
      simp only
      rw [if_neg (by omega), if_neg k4, if_neg k5]
      cases g <;> rfl
    have HH := Lib.hid hhas
    have hkeep : ∀ g : Bool, keepB ⟨ck, cn, g, cm, cl, ci, cps⟩ = !g := fun g => by
      unfold keepB
      simp only
      rw [decide_eq_false k5, decide_eq_false k4, decide_eq_false (show ¬ (ck = 1 ∨ ck = 2 ∨ ck = 6) by omega)]; simp
    have HKP := Lib.hid hkeep
    clear hhas hkeep
    go_upto_region 10 with fail
    go_cut [3] from 4 (fun s3 wx => ∃ g : Nat, s3 = .pointer (some ⟨g, 0, none⟩) ∧ g ≠ w.heap.size + 1 ∧ w.heap.size ≤ g ∧ Row wx g #[.int .u8 (ck : Int), .int .u64 0, .bool cg, .string ⟨#[]⟩, .int .i64 0, .string ⟨#[]⟩, .slice none 0 0] ∧ Row wx w.heap.size #[.int .u8 (ck : Int), .int .u64 (cn : Int), .bool cg, .string cm, .int .i64 cl, .string ci, .slice A cps.length cp] ∧ Row wx (w.heap.size + 1) #[.int .u8 0, .int .u64 0, .bool false, .string ⟨#[]⟩, .int .i64 0, .string ⟨#[]⟩, .slice none 0 0] ∧ Below w.heap.size w wx)
    case first =>
      have l1 := H1.lt
      have l0 := H0.lt
      have hR := row_new wc #[.int .u8 (ck : Int), .int .u64 0, .bool cg, .string ⟨#[]⟩, .int .i64 0, .string ⟨#[]⟩, .slice none 0 0]
      have b1 := below_one wc (.cells #[.int .u8 (ck : Int), .int .u64 0, .bool cg, .string ⟨#[]⟩, .int .i64 0, .string ⟨#[]⟩, .slice none 0 0] 50)
      go_wp2_with fail
      go_meet
      case rel => exact ⟨wc.heap.size, rfl, by omega, by omega, hR, H0.below b1, H1.below b1, below_of hb b1⟩
    case rest =>
      obtain ⟨g, rfl, hg1, hg0, HX, K0, K1, hb2⟩ := hcut
      clear H0 H1 hb p0 p1 p2 p3 p4 p5 p6 z0 z1 z2 z3 z4 z5 z6 f0 f1 f2 f3 f4 f5 f6
      obtain ⟨p0, p1, p2, p3, p4, p5, p6⟩ := K0.c
      go_upto_if 36 with fail
      go_cut [] from 4 (fun wx => ∃ (bl : Int) (bi : ByteArray) (A2 : Option Addr) (l2 c2 : Nat), (if cg = true then bl = 0 ∧ bi = ⟨#[]⟩ ∧ A2 = none ∧ l2 = 0 ∧ c2 = 0 else bl = cl ∧ bi = ci ∧ A2 = A ∧ l2 = cps.length ∧ c2 = cp) ∧ Row wx g #[.int .u8 (ck : Int), .int .u64 0, .bool cg, .string ⟨#[]⟩, .int .i64 bl, .string bi, .slice A2 l2 c2] ∧ Row wx (w.heap.size + 1) #[.int .u8 0, .int .u64 0, .bool false, .string ⟨#[]⟩, .int .i64 0, .string ⟨#[]⟩, .slice none 0 0] ∧ Below w.heap.size w wx)
      case first =>
        obtain ⟨x0, x1, x2, x3, x4, x5, x6⟩ := HX.c
        have f4 := HX.f 4
        have f5 := HX.f 5
        have f6 := HX.f 6
        have hX2 := ((HX.set 4 (.int .i64 cl)).set 5 (.string ci)).set 6 (.slice A cps.length cp)
        have hK2 := ((K1.other ⟨g, 4, none⟩ hg1 (.int .i64 cl)).other ⟨g, 5, none⟩ hg1 (.string ci)).other ⟨g, 6, none⟩ hg1 (.slice A cps.length cp)
        have hb3 := below_set (below_set (below_set hb2 (p := ⟨g, 4, none⟩) hg0 (.int .i64 cl)) (p := ⟨g, 5, none⟩) hg0 (.string ci)) (p := ⟨g, 6, none⟩) hg0 (.slice A cps.length cp)
        cases cg
        · go_wp2_with fail
          go_meet
          case rel => exact ⟨cl, ci, A, _, cp, ⟨rfl, rfl, rfl, rfl, rfl⟩, by simpa using hX2, hK2, hb3⟩
        · go_wp2_with fail
          go_meet
          case rel => exact ⟨0, ⟨#[]⟩, none, 0, 0, ⟨rfl, rfl, rfl, rfl, rfl⟩, HX, K1, hb2⟩
      case rest =>
        obtain ⟨bl, bi, A2, l2, c2, hq, HY, K2, hb3⟩ := hcut
        have HQ := Lib.hid hq
        clear HX K0 K1 hb2 hq p0 p1 p2 p3 p4 p5 p6
        obtain ⟨x0, x1, x2, x3, x4, x5, x6⟩ := HY.c
        obtain ⟨z0, z1, z2, z3, z4, z5, z6⟩ := K2.c
        have f0 := K2.f 0
        have f1 := K2.f 1
        have f2 := K2.f 2
        have f3 := K2.f 3
        have f4 := K2.f 4
        have f5 := K2.f 5
        have f6 := K2.f 6
        have hG := K2.setAll (.int .u8 (ck : Int)) (.int .u64 0) (.bool cg) (.string ⟨#[]⟩) (.int .i64 bl) (.string bi) (.slice A2 l2 c2)
        go_wp2_with fail
        refine bodyPost_ret (results_cell_row rfl _ _ (w.heap.size + 1) 50 _ (0, 0) _ rfl hG Try.underlying50 rfl (by kernel_rfl)) rfl ?_
        refine ⟨?_, below_all hb3 _ hbg _ _ _ _ _ _ _⟩
        have q := HQ.out
        cases cg
        · rw [if_neg (by decide)] at q
          obtain ⟨rfl, rfl, rfl, rfl, rfl⟩ := q
          unfold HasOf hasA hasP
          rw [HH.out, HKP.out]; rfl
        · rw [if_pos rfl] at q
          obtain ⟨rfl, rfl, rfl, rfl, rfl⟩ := q
          unfold HasOf hasA hasP
          rw [HH.out, HKP.out]; rfl

end Go.Proofs.Ytaeiahkomdpcoaa.Cell
