/- Two keys held one against the other. -/
import Derived.Test.YtaeiahkomdpcoaaDoorNameK
import Derived.Laws.StructEq
namespace Go.Proofs.YtaeiahkomdpcoaaDoor.Name
open Go.RowKit Go.Shelf

def eqB (a b : Key) : Bool := (a.kind == b.kind) && (a.bucket.toList == b.bucket.toList) && (a.name.toList == b.name.toList) && (a.n == b.n) && (a.part == b.part)
theorem nat_beq (a b : Nat) : ((a : Int) == (b : Int)) = (a == b) := by
  by_cases h : a = b
  · subst h; simp
  · rw [beq_eq_false_iff_ne.2 h, beq_eq_false_iff_ne]; omega
theorem str_beq (x y : ByteArray) : (x.toList == y.toList) = decide (x = y) := by
  rw [ByteArray.toList_eq, ByteArray.toList_eq]
  by_cases h : x = y
  · subst h; simp
  · rw [decide_eq_false h, beq_eq_false_iff_ne]
    intro e
    exact h (ByteArray.ext (Array.toList_inj.1 e))
theorem eqB_iff (a b : Key) : eqB a b = true ↔ a = b := by
  obtain ⟨ak, ab, an, ann, ap⟩ := a
  obtain ⟨bk, bb, bn, bnn, bp⟩ := b
  unfold eqB
  rw [str_beq, str_beq]
  simp only [Bool.and_eq_true, beq_iff_eq, decide_eq_true_eq, Key.mk.injEq, and_assoc]

set_option maxHeartbeats 400000 in
set_option maxRecDepth 100000 in
theorem eq_run (ak : Nat) (ab an : ByteArray) (ann : Nat) (ap : Int) (bk : Nat) (bb bn : ByteArray) (bnn : Nat) (bp : Int) (W : World) : (binOp .eql 24 (.agg #[.int .u8 (ak : Int), .string ab, .string an, .int .u64 (ann : Int), .int .i64 ap]) (.agg #[.int .u8 (bk : Int), .string bb, .string bn, .int .u64 (bnn : Int), .int .i64 bp])).run Tryd.prog W = .ok (.bool (eqB ⟨ak, ab, an, ann, ap⟩ ⟨bk, bb, bn, bnn, bp⟩)) W := by
  have hu := Tryd.underlying24
  have h5 := Tryd.underlying5
  have h9 := Tryd.underlying9
  have h22 := Tryd.underlying22
  have h3 := Tryd.underlying3
  have hp : Tryd.prog.stoodInHeld 24 = false := by kernel_rfl
  have hf : Tryd.prog.underlying 24 = some (.struct (Tryd.prog.fieldsOf 24)) := by kernel_rfl
  rw [run_eql_struct, run_equalIn_agg W 9999 _ _ _ hf hp]
  clear hf hp
  simp [Program.fieldsOf, hu, Op.eqFields, go_sem, h5, h9, h22, h3]
  unfold eqB
  simp only
  by_cases h1 : ak = bk
  · subst h1
    by_cases h2 : ab.toList = bb.toList
    · by_cases h3 : an.toList = bn.toList
      · by_cases h4 : ann = bnn
        · subst h4
          by_cases h5 : ap = bp
          · subst h5; simp [h2, h3]
          · simp [h2, h3, h5]
        · have h4' : ¬ (ann : Int) = (bnn : Int) := by omega
          simp [h2, h3, h4, h4']
      · simp [h2, h3]
    · simp [h2]
  · have h1' : ¬ (ak : Int) = (bk : Int) := by omega
    simp [h1, h1']

end Go.Proofs.YtaeiahkomdpcoaaDoor.Name
