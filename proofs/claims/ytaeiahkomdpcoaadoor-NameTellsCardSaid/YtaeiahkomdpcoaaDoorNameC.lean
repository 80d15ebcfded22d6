/- The walks of package name's has and May. -/
import Derived.Test.YtaeiahkomdpcoaaDoorNameB
namespace Go.Proofs.YtaeiahkomdpcoaaDoor.Name
open Go.RowKit Go.Shelf

theorem results_tmp4 {fn : Func} {t u v x : Tmp} (h : fn.results = #[.tmp t, .tmp u, .tmp v, .tmp x]) (tmps : Array Value) (P : Program) (w : World) :
    (results fn tmps).run P w = .ok (.tuple #[tmps.getD t undef, tmps.getD u undef, tmps.getD v undef, tmps.getD x undef]) w := by
  simp [results, h]

/-- A key's texts are no longer than a machine's. -/
def Key.fits (k : Key) : Prop := k.bucket.size ≤ 4096 ∧ k.name.size ≤ 4096 ∧ k.kind < 256 ∧ k.n ≤ top

def hasV (k : Nat) : Value := .tuple #[.bool (hasB k), .bool (decide (k = 3)), .bool (hasN k), .bool (decide (k = 5))]

set_option maxHeartbeats 3200000 in
set_option maxRecDepth 100000 in
theorem has_calls (k : Nat) (w : World) : Calls Tryd.prog 35 #[.int .u8 (k : Int)] w fun e w' => e = .returned (hasV k) ∧ w' = w := by
  by_cases h : 2 ≤ k ∧ k ≤ 6
  · obtain rfl | rfl | rfl | rfl | rfl : k = 2 ∨ k = 3 ∨ k = 4 ∨ k = 5 ∨ k = 6 := by omega
    all_goals
      clear h
      go_enter Tryd.func35, Tryd.ntmps35
      go_wp2
      (try simp only [Exit.inBlock, Exit.then])
      refine bodyPost_ret (results_tmp4 rfl _ _ _) rfl ?_
      exact ⟨rfl, rfl⟩
  · have e1 : hasV k = .tuple #[.bool false, .bool false, .bool false, .bool false] := by
      unfold hasV hasB hasN
      rw [decide_eq_false (by omega), decide_eq_false (by omega), decide_eq_false (by omega), decide_eq_false (by omega)]
    rw [e1]
    have n2 : ((k : Int) == 2) = false := by rw [beq_eq_false_iff_ne]; omega
    have n3 : ((k : Int) == 3) = false := by rw [beq_eq_false_iff_ne]; omega
    have n4 : ((k : Int) == 4) = false := by rw [beq_eq_false_iff_ne]; omega
    have n5 : ((k : Int) == 5) = false := by rw [beq_eq_false_iff_ne]; omega
    have n6 : ((k : Int) == 6) = false := by rw [beq_eq_false_iff_ne]; omega
    clear h e1
    go_enter Tryd.func35, Tryd.ntmps35
    go_wp2
    (try simp only [Exit.inBlock, Exit.then])
    refine bodyPost_ret (results_tmp4 rfl _ _ _) rfl ?_
    exact ⟨rfl, rfl⟩

theorem mayB_out {k : Key} (hk : k.kind = 0 ∨ 6 < k.kind) : mayB k = false := by
  unfold mayB; rw [decide_eq_false (by omega)]; rfl

set_option maxHeartbeats 3200000 in
set_option maxRecDepth 100000 in
theorem may_out (k : Key) (w : World) (hk : k.kind = 0 ∨ 6 < k.kind) : Calls Tryd.prog 22 #[k.val] w fun e w' => e = .returned (.bool false) ∧ Below w.heap.size w w' := by
  obtain ⟨kd, kb, kn, nn, pp⟩ := k
  unfold Key.val
  simp only at hk ⊢
  have HH := Lib.hid (has_calls kd)
  unfold hasV at HH
  rcases hk with rfl | hk
  · go_enter Tryd.func22, Tryd.ntmps22
    go_wp2_with fail
    refine (HH.out _).mono ?_
    rintro e w1 ⟨rfl, rfl⟩
    go_wp2
    go_ret
    exact ⟨rfl, below_one _ _⟩
  · go_enter Tryd.func22, Tryd.ntmps22
    go_wp2_with fail
    refine (HH.out _).mono ?_
    rintro e w1 ⟨rfl, rfl⟩
    go_wp2
    go_ret
    exact ⟨rfl, below_one _ _⟩

/-- The tests' outcomes behind each kind. -/
theorem may_in (k : Key) (h1 : 1 ≤ k.kind) (h6 : k.kind ≤ 6) : mayB k = ((if hasB k.kind then bucketL k.bucket.data.toList else decide (k.bucket = ⟨#[]⟩)) && (if k.kind = 3 then objectL k.name.data.toList else decide (k.name = ⟨#[]⟩)) &&
    (hasN k.kind || decide (k.n = 0)) && (if k.kind = 5 then decide (1 ≤ k.part) && decide (k.part ≤ 1000) else decide (k.part = 0))) := by
  unfold mayB
  rw [decide_eq_true ⟨h1, h6⟩, Bool.true_and]
  congr 1
  split
  · simp
  · rfl

set_option maxHeartbeats 6400000 in
set_option maxRecDepth 100000 in
theorem may_calls (k : Key) (w : World) (hf : k.fits) : Calls Tryd.prog 22 #[k.val] w fun e w' => e = .returned (.bool (mayB k)) ∧ Below w.heap.size w w' := by
  by_cases ho : k.kind = 0 ∨ 6 < k.kind
  · rw [mayB_out ho]; exact may_out k w ho
  rw [may_in k (by omega) (by omega)]
  obtain ⟨kd, kb, kn, nn, pp⟩ := k
  obtain ⟨hb4, hn4, _, _⟩ := hf
  unfold Key.val
  simp only at ho hb4 hn4 ⊢
  have HH := Lib.hid (has_calls kd)
  have HB := Lib.hid (fun W => bucket_calls kb W (by omega))
  have HO := Lib.hid (fun W => object_calls kn W (by omega))
  have hbe := empty_iff kb
  have hne := empty_iff kn
  have hnn : ((nn : Int) == 0) = decide (nn = 0) := by
    by_cases h : nn = 0
    · subst h; rfl
    · rw [decide_eq_false h, beq_eq_false_iff_ne]; omega
  have hpp : (pp == 0) = decide (pp = 0) := by
    by_cases h : pp = 0
    · subst h; rfl
    · rw [decide_eq_false h, beq_eq_false_iff_ne]; omega
  obtain ⟨xb, hxb⟩ : ∃ x, x = bucketL kb.data.toList := ⟨_, rfl⟩
  obtain ⟨xo, hxo⟩ : ∃ x, x = objectL kn.data.toList := ⟨_, rfl⟩
  obtain ⟨eb, heb⟩ : ∃ x, x = decide (kb = ⟨#[]⟩) := ⟨_, rfl⟩
  obtain ⟨en, hen⟩ : ∃ x, x = decide (kn = ⟨#[]⟩) := ⟨_, rfl⟩
  obtain ⟨zn, hzn⟩ : ∃ x, x = decide (nn = 0) := ⟨_, rfl⟩
  obtain ⟨zp, hzp⟩ : ∃ x, x = decide (pp = 0) := ⟨_, rfl⟩
  simp only [← hxb] at HB
  simp only [← hxo] at HO
  rw [← heb] at hbe
  rw [← hen] at hne
  rw [← hzn] at hnn
  rw [← hzp] at hpp
  rw [← hxb, ← hxo, ← heb, ← hen, ← hzn, ← hzp]
  clear hxb hxo heb hen hzn hzp
  unfold hasV at HH
  obtain rfl | rfl | rfl | rfl | rfl | rfl : kd = 1 ∨ kd = 2 ∨ kd = 3 ∨ kd = 4 ∨ kd = 5 ∨ kd = 6 := by omega
  · cases eb <;> cases en <;> cases zn
    all_goals
      go_enter Tryd.func22, Tryd.ntmps22
      go_wp2_with fail
      refine (HH.out _).mono ?_
      rintro e w1 ⟨rfl, rfl⟩
      go_wp2
      go_ret
      exact ⟨rfl, below_one _ _⟩
  · cases xb <;> cases en <;> cases zn
    all_goals
      go_enter Tryd.func22, Tryd.ntmps22
      go_wp2_with fail
      refine (HH.out _).mono ?_
      rintro e w1 ⟨rfl, rfl⟩
      go_wp2_with fail
      refine (HB.out _).mono ?_
      rintro e w2 ⟨rfl, hb2⟩
      have q2 : w2.cell? ⟨w.heap.size, 2, none⟩ = some (.string kn) := (hb2.cell (p := ⟨w.heap.size, 2, none⟩) (by simp)).trans (by simp)
      have q3 : w2.cell? ⟨w.heap.size, 3, none⟩ = some (.int .u64 (nn : Int)) := (hb2.cell (p := ⟨w.heap.size, 3, none⟩) (by simp)).trans (by simp)
      have q4 : w2.cell? ⟨w.heap.size, 4, none⟩ = some (.int .i64 pp) := (hb2.cell (p := ⟨w.heap.size, 4, none⟩) (by simp)).trans (by simp)
      go_wp2
      go_ret
      exact ⟨rfl, below_of (below_one _ _) hb2⟩
  · cases xb <;> cases xo
    all_goals
      go_enter Tryd.func22, Tryd.ntmps22
      go_wp2_with fail
      refine (HH.out _).mono ?_
      rintro e w1 ⟨rfl, rfl⟩
      go_wp2_with fail
      refine (HB.out _).mono ?_
      rintro e w2 ⟨rfl, hb2⟩
      have q2 : w2.cell? ⟨w.heap.size, 2, none⟩ = some (.string kn) := (hb2.cell (p := ⟨w.heap.size, 2, none⟩) (by simp)).trans (by simp)
      have q3 : w2.cell? ⟨w.heap.size, 3, none⟩ = some (.int .u64 (nn : Int)) := (hb2.cell (p := ⟨w.heap.size, 3, none⟩) (by simp)).trans (by simp)
      have q4 : w2.cell? ⟨w.heap.size, 4, none⟩ = some (.int .i64 pp) := (hb2.cell (p := ⟨w.heap.size, 4, none⟩) (by simp)).trans (by simp)
      go_wp2_with (go_at_call 20; refine (HO.out _).mono ?_; rintro e w3 ⟨rfl, rfl⟩)
      go_ret
      exact ⟨rfl, below_of (below_one _ _) hb2⟩
  · cases xb <;> cases en
    all_goals
      go_enter Tryd.func22, Tryd.ntmps22
      go_wp2_with fail
      refine (HH.out _).mono ?_
      rintro e w1 ⟨rfl, rfl⟩
      go_wp2_with fail
      refine (HB.out _).mono ?_
      rintro e w2 ⟨rfl, hb2⟩
      have q2 : w2.cell? ⟨w.heap.size, 2, none⟩ = some (.string kn) := (hb2.cell (p := ⟨w.heap.size, 2, none⟩) (by simp)).trans (by simp)
      have q3 : w2.cell? ⟨w.heap.size, 3, none⟩ = some (.int .u64 (nn : Int)) := (hb2.cell (p := ⟨w.heap.size, 3, none⟩) (by simp)).trans (by simp)
      have q4 : w2.cell? ⟨w.heap.size, 4, none⟩ = some (.int .i64 pp) := (hb2.cell (p := ⟨w.heap.size, 4, none⟩) (by simp)).trans (by simp)
      go_wp2
      go_ret
      exact ⟨rfl, below_of (below_one _ _) hb2⟩
  · by_cases p1 : 1 ≤ pp
    · rw [decide_eq_true p1]
      cases xb <;> cases en
      all_goals
        go_enter Tryd.func22, Tryd.ntmps22
        go_wp2_with fail
        refine (HH.out _).mono ?_
        rintro e w1 ⟨rfl, rfl⟩
        go_wp2_with fail
        refine (HB.out _).mono ?_
        rintro e w2 ⟨rfl, hb2⟩
        have q2 : w2.cell? ⟨w.heap.size, 2, none⟩ = some (.string kn) := (hb2.cell (p := ⟨w.heap.size, 2, none⟩) (by simp)).trans (by simp)
        have q3 : w2.cell? ⟨w.heap.size, 3, none⟩ = some (.int .u64 (nn : Int)) := (hb2.cell (p := ⟨w.heap.size, 3, none⟩) (by simp)).trans (by simp)
        have q4 : w2.cell? ⟨w.heap.size, 4, none⟩ = some (.int .i64 pp) := (hb2.cell (p := ⟨w.heap.size, 4, none⟩) (by simp)).trans (by simp)
        go_wp2
        go_ret
        exact ⟨rfl, below_of (below_one _ _) hb2⟩
    · rw [decide_eq_false p1]
      cases xb <;> cases en
      all_goals
        go_enter Tryd.func22, Tryd.ntmps22
        go_wp2_with fail
        refine (HH.out _).mono ?_
        rintro e w1 ⟨rfl, rfl⟩
        go_wp2_with fail
        refine (HB.out _).mono ?_
        rintro e w2 ⟨rfl, hb2⟩
        have q2 : w2.cell? ⟨w.heap.size, 2, none⟩ = some (.string kn) := (hb2.cell (p := ⟨w.heap.size, 2, none⟩) (by simp)).trans (by simp)
        have q3 : w2.cell? ⟨w.heap.size, 3, none⟩ = some (.int .u64 (nn : Int)) := (hb2.cell (p := ⟨w.heap.size, 3, none⟩) (by simp)).trans (by simp)
        have q4 : w2.cell? ⟨w.heap.size, 4, none⟩ = some (.int .i64 pp) := (hb2.cell (p := ⟨w.heap.size, 4, none⟩) (by simp)).trans (by simp)
        go_wp2
        go_ret
        exact ⟨rfl, below_of (below_one _ _) hb2⟩
  · cases eb <;> cases en
    all_goals
      go_enter Tryd.func22, Tryd.ntmps22
      go_wp2_with fail
      refine (HH.out _).mono ?_
      rintro e w1 ⟨rfl, rfl⟩
      go_wp2
      go_ret
      exact ⟨rfl, below_one _ _⟩

end Go.Proofs.YtaeiahkomdpcoaaDoor.Name
