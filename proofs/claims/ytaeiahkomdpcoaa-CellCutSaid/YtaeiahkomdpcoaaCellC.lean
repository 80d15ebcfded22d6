/- Cells in memory; the walks of package cell's has and Same. -/
import Derived.Test.YtaeiahkomdpcoaaCellB
namespace Go.Proofs.Ytaeiahkomdpcoaa.Cell
open Go.RowKit Go.Proofs.Ytaeiahkomdpcoaa.Num Go.Proofs.Ytaeiahkomdpcoaa.Wire

/-- A cell's values, its pieces at A. -/
def cvs (c : Cel) (A : Option Addr) (cp : Nat) : Array Value := #[.int .u8 (c.kind : Int), .int .u64 (c.n : Int), .bool c.gone, .string c.name, .int .i64 c.body.len, .string c.body.inl, .slice A c.body.pcs.length cp]
def celEq (c d : Cel) : Bool := (c.kind == d.kind) && (c.n == d.n) && (c.gone == d.gone) && (c.name.toList == d.name.toList) && (c.body.len == d.body.len) && (c.body.inl.toList == d.body.inl.toList) && pcsEq c.body.pcs d.body.pcs
theorem str_beq (x y : ByteArray) : (x.toList == y.toList) = decide (x = y) := by
  rw [ByteArray.toList_eq, ByteArray.toList_eq]
  by_cases h : x = y
  · subst h; simp
  · rw [decide_eq_false h, beq_eq_false_iff_ne]
    intro e
    exact h (ByteArray.ext (Array.toList_inj.1 e))
theorem celEq_iff (c d : Cel) : celEq c d = true ↔ c = d := by
  obtain ⟨a1, a2, a3, a4, a5, a6, a7⟩ := c
  obtain ⟨b1, b2, b3, b4, b5, b6, b7⟩ := d
  unfold celEq
  rw [str_beq, str_beq]
  simp only [Bool.and_eq_true, beq_iff_eq, decide_eq_true_eq, Cel.mk.injEq, Body.mk.injEq, and_assoc, pcsEq_iff]
theorem nat_beq (a b : Nat) : ((a : Int) == (b : Int)) = (a == b) := by
  by_cases h : a = b
  · subst h; simp
  · rw [beq_eq_false_iff_ne.2 h, beq_eq_false_iff_ne]; omega

set_option maxHeartbeats 3200000 in
set_option maxRecDepth 100000 in
theorem same_calls (c d : Cel) (A B : Option Addr) (cp dp : Nat) (w : World) (hA : PcsAt w A c.body.pcs) (hB : PcsAt w B d.body.pcs) (hl : c.body.pcs.length ≤ 100000) :
    Calls Try.prog 50 #[.agg (cvs c A cp), .agg (cvs d B dp)] w fun e w' => e = .returned (.bool (celEq c d)) ∧ Below w.heap.size w w' := by
  have HE := fun (W : World) (hb : Below w.heap.size w W) => equal_calls A B cp dp c.body.pcs d.body.pcs W (hA.below hb) (hB.below hb) hl
  have b1 := below_alloc (below_one w (.cells (cvs c A cp) 50)) (.cells (cvs d B dp) 50)
  obtain ⟨a1, a2, a3, a4, a5, a6, a7⟩ := c
  obtain ⟨d1, d2, d3, d4, d5, d6, d7⟩ := d
  unfold cvs celEq at *
  simp only at HE b1 ⊢
  have e1 := nat_beq a1 d1
  have e2 := nat_beq a2 d2
  obtain ⟨x1, q1⟩ : ∃ x, x = (a1 == d1) := ⟨_, rfl⟩
  obtain ⟨x2, q2⟩ : ∃ x, x = (a2 == d2) := ⟨_, rfl⟩
  obtain ⟨x3, q3⟩ : ∃ x, (a3 == d3) = x := ⟨_, rfl⟩
  obtain ⟨x4, q4⟩ : ∃ x, (a4.toList == d4.toList) = x := ⟨_, rfl⟩
  obtain ⟨x5, q5⟩ : ∃ x, (a5 == d5) = x := ⟨_, rfl⟩
  obtain ⟨x6, q6⟩ : ∃ x, (a6.toList == d6.toList) = x := ⟨_, rfl⟩
  obtain ⟨x7, q7⟩ : ∃ x, x = pcsEq a7 d7 := ⟨_, rfl⟩
  rw [← q1] at e1
  rw [← q2] at e2
  simp only [← q7] at HE
  rw [← q1, ← q2, q3, q4, q5, q6, ← q7]
  have HH := Lib.hid HE
  clear q1 q2 q7 HE hA hB hl
  cases x1
  case false =>
    go_enter Try.func50, Try.ntmps50
    go_wp2_with fail
    go_ret
    exact ⟨rfl, b1⟩
  cases x2
  case false =>
    go_enter Try.func50, Try.ntmps50
    go_wp2_with fail
    go_ret
    exact ⟨rfl, b1⟩
  cases x3
  case false =>
    go_enter Try.func50, Try.ntmps50
    go_wp2_with fail
    go_ret
    exact ⟨rfl, b1⟩
  cases x4
  case false =>
    go_enter Try.func50, Try.ntmps50
    go_wp2_with fail
    go_ret
    exact ⟨rfl, b1⟩
  cases x5
  case false =>
    go_enter Try.func50, Try.ntmps50
    go_wp2_with fail
    go_ret
    exact ⟨rfl, b1⟩
  cases x6
  case false =>
    go_enter Try.func50, Try.ntmps50
    go_wp2_with fail
    go_ret
    exact ⟨rfl, b1⟩
  go_enter Try.func50, Try.ntmps50
  go_wp2_with fail
  refine (HH.out _ b1).mono ?_
  rintro e w2 ⟨rfl, hb2⟩
  go_wp2_with fail
  go_ret
  exact ⟨by simp, below_of b1 hb2⟩

end Go.Proofs.Ytaeiahkomdpcoaa.Cell
