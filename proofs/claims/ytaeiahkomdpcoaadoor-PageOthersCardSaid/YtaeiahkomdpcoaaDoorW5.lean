/- Texts merged into one: part 5 of 12. -/
import Derived.Lib.SlBytesRow
import Derived.Lib.ConvBytes
import Derived.Lib.SmallJoins
import Derived.Deep.RegionHeld3
import Derived.Laws.BitsAllLaws
import Derived.Deep.AppendLies
import Derived.WalkMore
import Derived.Test.YtaeiahkomdpcoaaDoorW4

section
/- The walk of package name's Bucket. -/
namespace Go.Proofs.YtaeiahkomdpcoaaDoor.Name
open Go.RowKit Go.Shelf

theorem dw_nil (p : UInt8 → Bool) : ∀ l : Bs, l.dropWhile p = [] ↔ ∀ x ∈ l, p x = true
  | [] => by simp
  | c :: l => by
    rw [List.dropWhile_cons]
    split
    · rename_i h
      rw [dw_nil p l]
      constructor
      · intro h2 x hx
        rcases List.mem_cons.1 hx with rfl | hx
        · exact h
        · exact h2 x hx
      · intro h2 x hx; exact h2 x (List.mem_cons_of_mem _ hx)
    · rename_i h
      constructor
      · intro h2; cases h2
      · intro h2; exact absurd (h2 c (by simp)) h
theorem dw_all (p : UInt8 → Bool) : ∀ l : Bs, (∀ x ∈ l.dropWhile p, p x = true) → ∀ x ∈ l, p x = true
  | [], _ => by simp
  | c :: l, h => by
    rw [List.dropWhile_cons] at h
    split at h
    · rename_i hc
      intro x hx
      rcases List.mem_cons.1 hx with rfl | hx
      · exact hc
      · exact dw_all p l h x hx
    · exact h
theorem trim_nil (l cs : Bs) : (Lib.trimS l cs = []) ↔ l.all (cs.contains ·) = true := by
  unfold Lib.trimS Lib.trimRightS Lib.trimLeftS
  rw [dw_nil, List.all_eq_true]
  constructor
  · intro h x hx
    exact dw_all _ l.reverse (fun y hy => h y (List.mem_reverse.2 hy)) x (List.mem_reverse.2 hx)
  · intro h x hx
    have h1 := List.mem_reverse.1 hx
    exact h x (List.mem_reverse.1 ((List.dropWhile_suffix _).subset h1))

theorem trim_calls (s : ByteArray) (w : World) (hs : s.size ≤ 9223372036854775807) :
    Calls Tryd.prog 52 #[.string s, .string ⟨#[97, 98, 99, 100, 101, 102, 103, 104, 105, 106, 107, 108, 109, 110, 111, 112, 113, 114, 115, 116, 117, 118, 119, 120, 121, 122, 48, 49, 50, 51, 52, 53, 54, 55, 56, 57, 45, 46]⟩] w fun e w' => e = .returned (.string (bs (Lib.trimS s.data.toList okCs))) ∧ Below w.heap.size w w' :=
  Any.strings_Trim_laid Tryd.lays160 (by kernel_rfl) s _ w hs (by decide) (ascii_of_all (by decide))

theorem bs_empty (l : Bs) (b : Bool) (h : (l = []) ↔ b = true) : (bs l).toList.isEmpty = b := by
  rw [empty_iff]
  cases b
  · rw [decide_eq_false_iff_not]
    intro e
    have : l = [] := congrArg (fun x : ByteArray => x.data.toList) e
    exact absurd (h.1 this) (by simp)
  · rw [decide_eq_true_iff, h.2 rfl]; rfl

set_option maxHeartbeats 1600000 in
set_option maxRecDepth 100000 in
theorem bucket_calls (s : ByteArray) (w : World) (hs : s.size ≤ 9223372036854775807) : Calls Tryd.prog 18 #[.string s] w fun e w' => e = .returned (.bool (bucketL s.data.toList)) ∧ Below w.heap.size w w' := by
  by_cases h1 : s.size < 1
  · have h3 : bucketL s.data.toList = false := by unfold bucketL; rw [size_list, decide_eq_false (by omega)]; rfl
    rw [h3]
    clear h3
    go_enter Tryd.func18, Tryd.ntmps18
    go_wp2
    go_ret
    exact ⟨rfl, Below.refl _ _⟩
  by_cases h2 : 63 < s.size
  · have h3 : bucketL s.data.toList = false := by unfold bucketL; rw [size_list, decide_eq_false (by omega)]; rfl
    rw [h3]
    clear h3
    go_enter Tryd.func18, Tryd.ntmps18
    go_wp2
    go_ret
    exact ⟨rfl, Below.refl _ _⟩
  have h0 : 0 < s.size := by omega
  have hl : s.size - 1 < s.size := by omega
  have hlw : IntKind.i64.wrap ((s.size : Int) - 1) = (s.size : Int) - 1 := IntWalk.i64_in _ (by omega)
  have hl2 : ((s.size : Int) - 1).toNat = s.size - 1 := by omega
  have hl0 : (0 : Int) ≤ (s.size : Int) - 1 := by omega
  have hl1 : (s.size : Int) - 1 < (s.size : Int) := by omega
  obtain ⟨c0, hc0⟩ : ∃ c, c = s[0].toNat := ⟨_, rfl⟩
  obtain ⟨c1, hc1⟩ : ∃ c, c = s[s.size - 1].toNat := ⟨_, rfl⟩
  have hb : Hid (bucketL s.data.toList = (wordB c0 && wordB c1 && s.data.toList.all (okCs.contains ·))) := by
    show _ = _
    unfold bucketL
    rw [size_list, decide_eq_true (by omega), getD_at s 0 h0, getD_at s (s.size - 1) hl, ← hc0, ← hc1, Bool.true_and]
  have HW0 := Lib.hid (word_calls c0)
  have HW1 := Lib.hid (word_calls c1)
  have HT := Lib.hid (fun W => trim_calls s W hs)
  have hE := Lib.hid (bs_empty _ _ (trim_nil s.data.toList okCs))
  obtain ⟨ab, hab⟩ : ∃ b, b = s.data.toList.all (okCs.contains ·) := ⟨_, rfl⟩
  obtain ⟨y, hy⟩ : ∃ y, y = bs (Lib.trimS s.data.toList okCs) := ⟨_, rfl⟩
  simp only [← hy] at HT
  rw [← hy, ← hab] at hE
  rw [← hab] at hb
  rw [hb.out]
  clear hb hab hy
  cases hw0 : wordB c0
  · rw [hw0] at HW0
    clear hw0
    go_enter Tryd.func18, Tryd.ntmps18
    go_wp2_with fail
    rw [← hc0]
    refine (HW0.out _).mono ?_
    rintro e w1 ⟨rfl, rfl⟩
    go_wp2
    go_ret
    exact ⟨rfl, Below.refl _ _⟩
  · rw [hw0] at HW0
    clear hw0
    cases hw1 : wordB c1
    · rw [hw1] at HW1
      clear hw1
      go_enter Tryd.func18, Tryd.ntmps18
      go_wp2_with fail
      rw [← hc0]
      refine (HW0.out _).mono ?_
      rintro e w1 ⟨rfl, rfl⟩
      go_wp2_with fail
      rw [← hc1]
      refine (HW1.out _).mono ?_
      rintro e w1 ⟨rfl, rfl⟩
      go_wp2
      go_ret
      exact ⟨rfl, Below.refl _ _⟩
    · rw [hw1] at HW1
      clear hw1
      go_enter Tryd.func18, Tryd.ntmps18
      go_wp2_with fail
      rw [← hc0]
      refine (HW0.out _).mono ?_
      rintro e w1 ⟨rfl, rfl⟩
      go_wp2_with fail
      rw [← hc1]
      refine (HW1.out _).mono ?_
      rintro e w1 ⟨rfl, rfl⟩
      go_wp2_with fail
      refine (HT.out _).mono ?_
      rintro e w1 ⟨rfl, hbw⟩
      have hE' := hE.out
      go_wp2
      go_ret
      exact ⟨rfl, hbw⟩

end Go.Proofs.YtaeiahkomdpcoaaDoor.Name
end

section
/- The walks of package name's has and May. -/
namespace Go.Proofs.YtaeiahkomdpcoaaDoor.Name
open Go.RowKit Go.Shelf

theorem results_tmp4 {fn : Func} {t u v x : Tmp} (h : fn.results = #[.tmp t, .tmp u, .tmp v, .tmp x]) (tmps : Array Value) (P : Program) (w : World) :
    (results fn tmps).run P w = .ok (.tuple #[tmps.getD t undef, tmps.getD u undef, tmps.getD v undef, tmps.getD x undef]) w := by
  simp [results, h]

/-- A key's texts are no longer than a machine's. -/
def Key.fits (k : Key) : Prop := k.bucket.size ≤ 4096 ∧ k.name.size ≤ 4096 ∧ k.kind < 256 ∧ k.n ≤ top

def hasV (k : Nat) : Value := .tuple #[.bool (hasB k), .bool (decide (k = 3)), .bool (hasN k), .bool (decide (k = 5))]

set_option maxHeartbeats 3200000 in
set_option maxRecDepth 100000 in
theorem has_calls (k : Nat) (w : World) : Calls Tryd.prog 35 #[.int .u8 (k : Int)] w fun e w' => e = .returned (hasV k) ∧ w' = w := by
  by_cases h : 2 ≤ k ∧ k ≤ 6
  · obtain rfl | rfl | rfl | rfl | rfl : k = 2 ∨ k = 3 ∨ k = 4 ∨ k = 5 ∨ k = 6 := by omega
    all_goals
      clear h
      go_enter Tryd.func35, Tryd.ntmps35
      go_wp2
      (try simp only [Exit.inBlock, Exit.then])
      refine bodyPost_ret (results_tmp4 rfl _ _ _) rfl ?_
      exact ⟨rfl, rfl⟩
  · have e1 : hasV k = .tuple #[.bool false, .bool false, .bool false, .bool false] := by
      unfold hasV hasB hasN
      rw [decide_eq_false (by omega), decide_eq_false (by omega), decide_eq_false (by omega), decide_eq_false (by omega)]
    rw [e1]
    have n2 : ((k : Int) == 2) = false := by rw [beq_eq_false_iff_ne]; omega
    have n3 : ((k : Int) == 3) = false := by rw [beq_eq_false_iff_ne]; omega
    have n4 : ((k : Int) == 4) = false := by rw [beq_eq_false_iff_ne]; omega
    have n5 : ((k : Int) == 5) = false := by rw [beq_eq_false_iff_ne]; omega
    have n6 : ((k : Int) == 6) = false := by rw [beq_eq_false_iff_ne]; omega
    clear h e1
    go_enter Tryd.func35, Tryd.ntmps35
    go_wp2
    (try simp only [Exit.inBlock, Exit.then])
    refine bodyPost_ret (results_tmp4 rfl _ _ _) rfl ?_
    exact ⟨rfl, rfl⟩

theorem mayB_out {k : Key} (hk : k.kind = 0 ∨ 6 < k.kind) : mayB k = false := by
  unfold mayB; rw [decide_eq_false (by omega)]; rfl

set_option maxHeartbeats 3200000 in
set_option maxRecDepth 100000 in
theorem may_out (k : Key) (w : World) (hk : k.kind = 0 ∨ 6 < k.kind) : Calls Tryd.prog 22 #[k.val] w fun e w' => e = .returned (.bool false) ∧ Below w.heap.size w w' := by
  obtain ⟨kd, kb, kn, nn, pp⟩ := k
  unfold Key.val
  simp only at hk ⊢
  have HH := Lib.hid (has_calls kd)
  unfold hasV at HH
  rcases hk with rfl | hk
  · go_enter Tryd.func22, Tryd.ntmps22
    go_wp2_with fail
    refine (HH.out _).mono ?_
    rintro e w1 ⟨rfl, rfl⟩
    go_wp2
    go_ret
    exact ⟨rfl, below_one _ _⟩
  · go_enter Tryd.func22, Tryd.ntmps22
    go_wp2_with fail
    refine (HH.out _).mono ?_
    rintro e w1 ⟨rfl, rfl⟩
    go_wp2
    go_ret
    exact ⟨rfl, below_one _ _⟩

/-- The tests' outcomes behind each kind. -/
theorem may_in (k : Key) (h1 : 1 ≤ k.kind) (h6 : k.kind ≤ 6) : mayB k = ((if hasB k.kind then bucketL k.bucket.data.toList else decide (k.bucket = ⟨#[]⟩)) && (if k.kind = 3 then objectL k.name.data.toList else decide (k.name = ⟨#[]⟩)) &&
    (hasN k.kind || decide (k.n = 0)) && (if k.kind = 5 then decide (1 ≤ k.part) && decide (k.part ≤ 1000) else decide (k.part = 0))) := by
  unfold mayB
  rw [decide_eq_true ⟨h1, h6⟩, Bool.true_and]
  congr 1
  split
  · simp
  · rfl

set_option maxHeartbeats 6400000 in
set_option maxRecDepth 100000 in
theorem may_calls (k : Key) (w : World) (hf : k.fits) : Calls Tryd.prog 22 #[k.val] w fun e w' => e = .returned (.bool (mayB k)) ∧ Below w.heap.size w w' := by
  by_cases ho : k.kind = 0 ∨ 6 < k.kind
  · rw [mayB_out ho]; exact may_out k w ho
  rw [may_in k (by omega) (by omega)]
  obtain ⟨kd, kb, kn, nn, pp⟩ := k
  obtain ⟨hb4, hn4, _, _⟩ := hf
  unfold Key.val
  simp only at ho hb4 hn4 ⊢
  have HH := Lib.hid (has_calls kd)
  have HB := Lib.hid (fun W => bucket_calls kb W (by omega))
  have HO := Lib.hid (fun W => object_calls kn W (by omega))
  have hbe := empty_iff kb
  have hne := empty_iff kn
  have hnn : ((nn : Int) == 0) = decide (nn = 0) := by
    by_cases h : nn = 0
    · subst h; rfl
    · rw [decide_eq_false h, beq_eq_false_iff_ne]; omega
  have hpp : (pp == 0) = decide (pp = 0) := by
    by_cases h : pp = 0
    · subst h; rfl
    · rw [decide_eq_false h, beq_eq_false_iff_ne]; omega
  obtain ⟨xb, hxb⟩ : ∃ x, x = bucketL kb.data.toList := ⟨_, rfl⟩
  obtain ⟨xo, hxo⟩ : ∃ x, x = objectL kn.data.toList := ⟨_, rfl⟩
  obtain ⟨eb, heb⟩ : ∃ x, x = decide (kb = ⟨#[]⟩) := ⟨_, rfl⟩
  obtain ⟨en, hen⟩ : ∃ x, x = decide (kn = ⟨#[]⟩) := ⟨_, rfl⟩
  obtain ⟨zn, hzn⟩ : ∃ x, x = decide (nn = 0) := ⟨_, rfl⟩
  obtain ⟨zp, hzp⟩ : ∃ x, x = decide (pp = 0) := ⟨_, rfl⟩
  simp only [← hxb] at HB
  simp only [← hxo] at HO
  rw [← heb] at hbe
  rw [← hen] at hne
  rw [← hzn] at hnn
  rw [← hzp] at hpp
  rw [← hxb, ← hxo, ← heb, ← hen, ← hzn, ← hzp]
  clear hxb hxo heb hen hzn hzp
  unfold hasV at HH
  obtain rfl | rfl | rfl | rfl | rfl | rfl : kd = 1 ∨ kd = 2 ∨ kd = 3 ∨ kd = 4 ∨ kd = 5 ∨ kd = 6 := by omega
  · cases eb <;> cases en <;> cases zn
    all_goals
      go_enter Tryd.func22, Tryd.ntmps22
      go_wp2_with fail
      refine (HH.out _).mono ?_
      rintro e w1 ⟨rfl, rfl⟩
      go_wp2
      go_ret
      exact ⟨rfl, below_one _ _⟩
  · cases xb <;> cases en <;> cases zn
    all_goals
      go_enter Tryd.func22, Tryd.ntmps22
      go_wp2_with fail
      refine (HH.out _).mono ?_
      rintro e w1 ⟨rfl, rfl⟩
      go_wp2_with fail
      refine (HB.out _).mono ?_
      rintro e w2 ⟨rfl, hb2⟩
      have q2 : w2.cell? ⟨w.heap.size, 2, none⟩ = some (.string kn) := (hb2.cell (p := ⟨w.heap.size, 2, none⟩) (by simp)).trans (by simp)
      have q3 : w2.cell? ⟨w.heap.size, 3, none⟩ = some (.int .u64 (nn : Int)) := (hb2.cell (p := ⟨w.heap.size, 3, none⟩) (by simp)).trans (by simp)
      have q4 : w2.cell? ⟨w.heap.size, 4, none⟩ = some (.int .i64 pp) := (hb2.cell (p := ⟨w.heap.size, 4, none⟩) (by simp)).trans (by simp)
      go_wp2
      go_ret
      exact ⟨rfl, below_of (below_one _ _) hb2⟩
  · cases xb <;> cases xo
    all_goals
      go_enter Tryd.func22, Tryd.ntmps22
      go_wp2_with fail
      refine (HH.out _).mono ?_
      rintro e w1 ⟨rfl, rfl⟩
      go_wp2_with fail
      refine (HB.out _).mono ?_
      rintro e w2 ⟨rfl, hb2⟩
      have q2 : w2.cell? ⟨w.heap.size, 2, none⟩ = some (.string kn) := (hb2.cell (p := ⟨w.heap.size, 2, none⟩) (by simp)).trans (by simp)
      have q3 : w2.cell? ⟨w.heap.size, 3, none⟩ = some (.int .u64 (nn : Int)) := (hb2.cell (p := ⟨w.heap.size, 3, none⟩) (by simp)).trans (by simp)
      have q4 : w2.cell? ⟨w.heap.size, 4, none⟩ = some (.int .i64 pp) := (hb2.cell (p := ⟨w.heap.size, 4, none⟩) (by simp)).trans (by simp)
      go_wp2_with (go_at_call 20; refine (HO.out _).mono ?_; rintro e w3 ⟨rfl, rfl⟩)
      go_ret
      exact ⟨rfl, below_of (below_one _ _) hb2⟩
  · cases xb <;> cases en
    all_goals
      go_enter Tryd.func22, Tryd.ntmps22
      go_wp2_with fail
      refine (HH.out _).mono ?_
      rintro e w1 ⟨rfl, rfl⟩
      go_wp2_with fail
      refine (HB.out _).mono ?_
      rintro e w2 ⟨rfl, hb2⟩
      have q2 : w2.cell? ⟨w.heap.size, 2, none⟩ = some (.string kn) := (hb2.cell (p := ⟨w.heap.size, 2, none⟩) (by simp)).trans (by simp)
      have q3 : w2.cell? ⟨w.heap.size, 3, none⟩ = some (.int .u64 (nn : Int)) := (hb2.cell (p := ⟨w.heap.size, 3, none⟩) (by simp)).trans (by simp)
      have q4 : w2.cell? ⟨w.heap.size, 4, none⟩ = some (.int .i64 pp) := (hb2.cell (p := ⟨w.heap.size, 4, none⟩) (by simp)).trans (by simp)
      go_wp2
      go_ret
      exact ⟨rfl, below_of (below_one _ _) hb2⟩
  · by_cases p1 : 1 ≤ pp
    · rw [decide_eq_true p1]
      cases xb <;> cases en
      all_goals
        go_enter Tryd.func22, Tryd.ntmps22
        go_wp2_with fail
        refine (HH.out _).mono ?_
        rintro e w1 ⟨rfl, rfl⟩
        go_wp2_with fail
        refine (HB.out _).mono ?_
        rintro e w2 ⟨rfl, hb2⟩
        have q2 : w2.cell? ⟨w.heap.size, 2, none⟩ = some (.string kn) := (hb2.cell (p := ⟨w.heap.size, 2, none⟩) (by simp)).trans (by simp)
        have q3 : w2.cell? ⟨w.heap.size, 3, none⟩ = some (.int .u64 (nn : Int)) := (hb2.cell (p := ⟨w.heap.size, 3, none⟩) (by simp)).trans (by simp)
        have q4 : w2.cell? ⟨w.heap.size, 4, none⟩ = some (.int .i64 pp) := (hb2.cell (p := ⟨w.heap.size, 4, none⟩) (by simp)).trans (by simp)
        go_wp2
        go_ret
        exact ⟨rfl, below_of (below_one _ _) hb2⟩
    · rw [decide_eq_false p1]
      cases xb <;> cases en
      all_goals
        go_enter Tryd.func22, Tryd.ntmps22
        go_wp2_with fail
        refine (HH.out _).mono ?_
        rintro e w1 ⟨rfl, rfl⟩
        go_wp2_with fail
        refine (HB.out _).mono ?_
        rintro e w2 ⟨rfl, hb2⟩
        have q2 : w2.cell? ⟨w.heap.size, 2, none⟩ = some (.string kn) := (hb2.cell (p := ⟨w.heap.size, 2, none⟩) (by simp)).trans (by simp)
        have q3 : w2.cell? ⟨w.heap.size, 3, none⟩ = some (.int .u64 (nn : Int)) := (hb2.cell (p := ⟨w.heap.size, 3, none⟩) (by simp)).trans (by simp)
        have q4 : w2.cell? ⟨w.heap.size, 4, none⟩ = some (.int .i64 pp) := (hb2.cell (p := ⟨w.heap.size, 4, none⟩) (by simp)).trans (by simp)
        go_wp2
        go_ret
        exact ⟨rfl, below_of (below_one _ _) hb2⟩
  · cases eb <;> cases en
    all_goals
      go_enter Tryd.func22, Tryd.ntmps22
      go_wp2_with fail
      refine (HH.out _).mono ?_
      rintro e w1 ⟨rfl, rfl⟩
      go_wp2
      go_ret
      exact ⟨rfl, below_one _ _⟩

end Go.Proofs.YtaeiahkomdpcoaaDoor.Name
end

section
/- The walk of package name's bytes. -/
namespace Go.Proofs.YtaeiahkomdpcoaaDoor.Name
open Go.RowKit Go.Shelf

theorem run_make_rowN {P : Program} (t e : TypeId) (i : TypeInfo) (z : Value) (ht : P.underlying t = some (.slice e)) (hi : P.info? e = some i) (hz : i.zero = some z)
    (kl kc : IntKind) (n c : Nat) (hnc : n ≤ c) (hbytes : i.bytes * c ≤ 281474976710656) (h63 : c ≤ 9223372036854775807) (w : World) :
    (Instr.makeSlice t (.int kl (n : Int)) (.int kc (c : Int))).run P w = .ok (.slice (some ⟨w.heap.size, 0, none⟩) n c) (w.alloc (.cells (madeCells z.cells (c * i.size)) e)) := by
  have hb : (i.bytes : Int) * (c : Int) ≤ 281474976710656 := by
    have h : ((i.bytes * c : Nat) : Int) ≤ 281474976710656 := by omega
    rwa [Int.natCast_mul] at h
  have hr := run_make (P := P) w t e i z ht hi hz kl kc n c (by omega) (by omega) hb (by omega)
  simp only [Int.toNat_natCast] at hr
  exact hr
theorem infoByte : (Tryd.prog.info? 5).map (fun i => (i.zero, i.size, i.bytes)) = some (some (.int .u8 0), 1, 1) := by kernel_rfl

/-- A row of bytes at the head of block B, none frozen. -/
def RowAt (w : World) (B : Nat) (l : List UInt8) : Prop := ∀ i c, l[i]? = some c → w.cell? ⟨B, i, none⟩ = some (.int .u8 (c.toNat : Int)) ∧ w.frozen? ⟨B, i, none⟩ = false
theorem RowAt.set {w : World} {B : Nat} {l : List UInt8} (h : RowAt w B l) (i : Nat) (hi : i < l.length) (c : UInt8) : RowAt (w.setCell ⟨B, i, none⟩ (.int .u8 (c.toNat : Int))) B (l.set i c) := by
  intro j d hd
  by_cases hij : i = j
  · subst hij
    have hd' : d = c := by rw [List.getElem?_set_self hi] at hd; exact (Option.some.inj hd).symm
    subst hd'
    obtain ⟨h1, h2⟩ := h i _ (List.getElem?_eq_getElem hi)
    exact ⟨World.cell?_setCell_same _ _ _ h1, by rw [World.frozen?_setCell]; exact h2⟩
  · rw [List.getElem?_set_ne hij] at hd
    obtain ⟨h1, h2⟩ := h j d hd
    refine ⟨?_, by rw [World.frozen?_setCell]; exact h2⟩
    rw [World.cell?_setCell_other]
    · exact h1
    · intro e; injection e with _ e2 _; exact hij e2
theorem RowAt.bytes {w : World} {B : Nat} {l : List UInt8} (h : RowAt w B l) : Lib.Bytes w B 0 (bs l) := by
  intro i hi
  have hl : i < l.length := by rw [bs_size] at hi; exact hi
  have := (h i _ (List.getElem?_eq_getElem hl)).1
  rw [Nat.zero_add]
  exact this
theorem rowAt_made (w : World) (N : Nat) (t : TypeId) : RowAt (w.alloc (.cells (madeCells #[.int .u8 0] N) t)) w.heap.size (List.replicate N 0) := by
  intro i c hc
  rw [List.getElem?_replicate] at hc
  split at hc
  · rename_i hi
    cases hc
    have hblk : (w.alloc (.cells (madeCells #[.int .u8 0] N) t)).heap[w.heap.size]? = some (.cells (madeCells #[.int .u8 0] N) t (0, 0)) := (MapKept.heap_alloc w _).1
    exact ⟨by rw [Joins.cell_of_block hblk, ← Array.getElem?_toList, toList_madeCells_one, List.getElem?_replicate, if_pos (by omega)]; rfl, by rw [World.frozen?, hblk]; rfl⟩
  · cases hc
theorem conv_row (w : World) (B : Nat) (l : List UInt8) (n cap : Nat) (hn : n = l.length) (h : RowAt w B l) :
    (convert 71 9 (.slice (some ⟨B, 0, none⟩) n cap)).run Tryd.prog w = .ok (.string (bs l)) w := by
  have h2 := Lib.run_convert_whole (P := Tryd.prog) w 71 5 9 Tryd.underlying71 Tryd.underlying5 Tryd.underlying9 B 0 (bs l) h.bytes cap
  rw [bs_size, ← hn] at h2
  exact h2

theorem be_cons (k n : Nat) : be (k + 1) n = UInt8.ofNat (n / 256 ^ k % 256) :: be k n := by
  induction k generalizing n with
  | zero => simp [be]
  | succ k ih =>
    rw [be, ih (n / 256), be, List.cons_append]
    congr 3
    rw [Nat.div_div_eq_div_mul, Nat.pow_succ, Nat.mul_comm]
def part8 (N n i : Nat) : Bs := List.replicate (N - i) 0 ++ be i n
theorem part8_length (N n i : Nat) (h : i ≤ N) : (part8 N n i).length = N := by simp [part8, be_length]; omega
theorem part8_next (N n i : Nat) (h : i < N) : (part8 N n i).set (N - 1 - i) (UInt8.ofNat (n / 256 ^ i % 256)) = part8 N n (i + 1) := by
  unfold part8
  obtain ⟨m, hm⟩ : ∃ m, N - i = m + 1 := ⟨N - i - 1, by omega⟩
  have h1 : N - 1 - i = m := by omega
  have h2 : N - (i + 1) = m := by omega
  rw [h1, h2, hm, be_cons, List.replicate_succ', List.append_assoc, List.set_append_right _ _ (by simp)]
  simp

set_option maxHeartbeats 1600000 in
set_option maxRecDepth 100000 in
theorem bytes_calls (n N : Nat) (w : World) (hN : N ≤ 8) : Calls Tryd.prog 37 #[.int .u64 (n : Int), .int .i64 (N : Int)] w fun e w' => e = .returned (.string (bs (be N n))) ∧ Below w.heap.size w w' := by
  obtain ⟨i0, hi, hz0, hz1, hz2⟩ := info_parts infoByte
  have hmk : ∀ W : World, (Instr.makeSlice 71 (.int .i64 (N : Int)) (.int .i64 (N : Int))).run Tryd.prog W = .ok (.slice (some ⟨W.heap.size, 0, none⟩) N N) (W.alloc (.cells (madeCells #[.int .u8 0] N) 5)) := fun W => by
    have := run_make_rowN (P := Tryd.prog) 71 5 i0 (.int .u8 0) Tryd.underlying71 hi hz0 .i64 .i64 N N (Nat.le_refl _) (by rw [hz2]; omega) (by omega) W
    rw [hz1, Nat.mul_one] at this
    exact this
  clear hi hz0 hz1 hz2
  have hR0 := rowAt_made w N 5
  have hb0 := below_one w (.cells (madeCells #[.int .u8 0] N) 5)
  go_enter Tryd.func37, Tryd.ntmps37
  go_wp2
  go_loopw [11] (fun iv wr => ∃ k : Nat, k ≤ N ∧ iv = .int .i64 k ∧ RowAt wr w.heap.size (part8 N n k) ∧ Below w.heap.size w wr) (fun iv _ => N - (intOf iv).toNat)
  case atStart => exact ⟨0, by omega, rfl, by simpa [part8, be] using hR0, hb0⟩
  case round =>
    obtain ⟨k, hk, rfl, hR, hb⟩ := hrel
    by_cases hlt : k < N
    · have hlen := part8_length N n k hk
      obtain ⟨c, hc⟩ : ∃ c, c = (part8 N n k)[N - 1 - k]'(by omega) := ⟨_, rfl⟩
      obtain ⟨hcell, hfz⟩ := hR (N - 1 - k) c (by rw [hc]; exact List.getElem?_eq_getElem (by omega))
      have q1 : IntKind.i64.wrap ((N : Int) - 1) = (N : Int) - 1 := IntWalk.i64_in _ (by omega)
      have q2 : IntKind.i64.wrap ((N : Int) - 1 - (k : Int)) = (N : Int) - 1 - (k : Int) := IntWalk.i64_in _ (by omega)
      have q3 : IntKind.i64.wrap (8 * (k : Int)) = 8 * (k : Int) := IntWalk.i64_in _ (by omega)
      have q4 : ((N : Int) - 1 - (k : Int)).toNat = N - 1 - k := by omega
      have q5 : (0 : Int) ≤ (N : Int) - 1 - (k : Int) := by omega
      have q6 : (N : Int) - 1 - (k : Int) < (N : Int) := by omega
      clear hc hlen
      go_wp2
      go_roundw
      case rel =>
        have e1 : (2 : Int) ^ (8 * k) = ((256 ^ k : Nat) : Int) := by
          have e2 : ((2 ^ (8 * k) : Nat) : Int) = (2 : Int) ^ (8 * k) := by simp
          rw [← e2, Nat.pow_mul]
        have e3 : (n : Int) / 2 ^ (8 * k) % 256 = ((UInt8.ofNat (n / 256 ^ k % 256)).toNat : Int) := by
          rw [e1]; simp [UInt8.toNat_ofNat']
        refine ⟨k + 1, by omega, by go_num, ?_, below_set hb (by simp) _⟩
        rw [e3, ← part8_next N n k hlt]
        exact hR.set _ (by rw [part8_length N n k hk]; omega) _
      case measure => simp [intOf]; omega
    · obtain rfl : k = N := by omega
      have hcv := fun cap => conv_row wr w.heap.size (part8 k n k) k cap (part8_length k n k (Nat.le_refl _)).symm hR
      have e1 : part8 k n k = be k n := by simp [part8]
      rw [e1] at hcv
      go_wp2
      go_ret
      exact ⟨rfl, hb⟩

end Go.Proofs.YtaeiahkomdpcoaaDoor.Name
end

section
/- The walk of package name's Encode. -/
namespace Go.Proofs.YtaeiahkomdpcoaaDoor.Name
open Go.RowKit Go.Shelf

theorem replaceK_esc : ∀ l : Bs, Lib.replaceK [0] [0, 255] (Lib.count l [0]) l = esc l
  | [] => by rw [Lib.count_miss (by simp [Lib.index])]; rfl
  | b :: l => by
    have ih := replaceK_esc l
    by_cases hb : b = 0
    · subst hb
      rw [Lib.count_cons_eq, Nat.add_comm, Lib.replaceK_hit [0] [0, 255] _ _ 0 (by rw [Lib.index]; simp [List.isPrefixOf])]
      simp only [List.take_zero, List.nil_append, List.length_singleton, Nat.zero_add, List.drop_succ_cons, List.drop_zero, ih, esc, if_true]
      rfl
    · rw [Lib.count_cons_ne b 0 l hb]
      have hp : ([0] : List UInt8).isPrefixOf (b :: l) = false := by simp [List.isPrefixOf, Ne.symm hb]
      obtain ⟨k, hk⟩ : ∃ k, Lib.count l [0] = k := ⟨_, rfl⟩
      rw [hk] at ih ⊢
      cases k with
      | zero =>
        rw [Lib.replaceK] at ih ⊢
        rw [esc, if_neg hb, ← ih]
      | succ k =>
        obtain ⟨i, hi⟩ := Lib.index_of_count (s := l) (old := [0]) (by omega)
        have hix : Lib.index (b :: l) [0] = ((i + 1 : Nat) : Int) := by
          rw [Lib.index, hp]
          simp [hi]
        rw [Lib.replaceK_hit _ _ _ _ _ hi] at ih
        rw [Lib.replaceK_hit _ _ _ _ _ hix, esc, if_neg hb, ← ih]
        simp
theorem replaceAll_esc (l : Bs) : Lib.replaceAll l [0] [0, 255] = esc l := by
  unfold Lib.replaceAll Lib.replace Lib.replaceNum
  rw [if_neg (by decide), if_pos (.inl (by decide))]
  exact replaceK_esc l
theorem esc_length (l : Bs) : (esc l).length ≤ 2 * l.length := by
  induction l with
  | nil => exact Nat.le_refl _
  | cons c l ih => unfold esc; split <;> simp only [List.length_cons] <;> omega

/-- A library's variable holds some number. -/
def Var0 (w : World) : Prop := ∃ m, w.cell? ⟨0, 0, none⟩ = some (.int .i64 m) ∧ 0 < w.heap.size
theorem Var0.below {w w' : World} (h : Var0 w) (hb : Below w.heap.size w w') : Var0 w' := by
  obtain ⟨m, h1, h2⟩ := h
  exact ⟨m, (hb.cell (p := ⟨0, 0, none⟩) h2).trans h1, Nat.lt_of_lt_of_le h2 hb.size⟩

theorem escape_calls (s : ByteArray) (w : World) (hv : Var0 w) (hs : s.size ≤ 4096) : Calls Tryd.prog 36 #[.string s, .string ⟨#[0]⟩, .string ⟨#[0, 255]⟩] w fun e w' => e = .returned (.string (bs (esc s.data.toList))) ∧ Below w.heap.size w w' := by
  obtain ⟨m, hm, _⟩ := hv
  have hc : Lib.countB s ⟨#[0]⟩ ≤ s.size + 1 := by
    have := Lib.count_le s.data.toList [0]
    rw [size_list] at this
    exact this
  have := Tryd.strings_ReplaceAll s ⟨#[0]⟩ ⟨#[0, 255]⟩ m w (by omega) hm (by decide) (by
    have h2 : (⟨#[0, 255]⟩ : ByteArray).size = 2 := rfl
    rw [h2]; omega)
  rw [show (⟨#[0]⟩ : ByteArray).data.toList = [0] from rfl, show (⟨#[0, 255]⟩ : ByteArray).data.toList = [0, 255] from rfl, replaceAll_esc] at this
  exact this

end Go.Proofs.YtaeiahkomdpcoaaDoor.Name
end

section
/- The walk of package name's Encode. -/
namespace Go.Proofs.YtaeiahkomdpcoaaDoor.Name
open Go.RowKit Go.Shelf

def encR (k : Key) : Value := if mayB k then .tuple #[.string (bs (encL k)), .int .i64 0] else .tuple #[.string ⟨#[]⟩, .int .i64 2]

theorem conv_one (w : World) (n : Int) (c : UInt8) (hn : n = (c.toNat : Int)) (t : TypeId) :
    (convert 71 9 (.slice (some ⟨w.heap.size, 0, none⟩) 1 1)).run Tryd.prog (w.alloc (.cells #[.int .u8 n] t)) = .ok (.string (bs [c])) (w.alloc (.cells #[.int .u8 n] t)) := by
  subst hn
  have h : RowAt (w.alloc (.cells #[.int .u8 (c.toNat : Int)] t)) w.heap.size [c] := by
    intro i d hd
    cases i with
    | zero =>
      simp at hd; subst hd
      exact ⟨by simp, by simp⟩
    | succ i => simp at hd
  exact conv_row _ _ [c] 1 1 rfl h

theorem xor_top (n : Nat) (h : n ≤ top) : top ^^^ n = top - n := by
  unfold top at h ⊢
  have h1 : (BitVec.allOnes 64 ^^^ BitVec.ofNat 64 n).toNat = 18446744073709551615 ^^^ n := by
    rw [BitVec.toNat_xor, BitVec.toNat_allOnes, BitVec.toNat_ofNat, Nat.mod_eq_of_lt (by omega)]
  have h2 : (BitVec.allOnes 64 ^^^ BitVec.ofNat 64 n) = ~~~ BitVec.ofNat 64 n := BitVec.allOnes_xor
  rw [← h1, h2, BitVec.toNat_not, BitVec.toNat_ofNat, Nat.mod_eq_of_lt (by omega)]
theorem comp_u64 (n : Nat) (h : n ≤ top) : bits BinOp.xor IntKind.u64 (if IntKind.u64.signed = true then -1 else IntKind.u64.max) (n : Int) = ((top - n : Nat) : Int) := by
  rw [← xor_top n h]
  exact u64_xor_nat top n (by unfold top; omega) (by unfold top at h; omega)

/-- A key in a block, while the order is drawn. -/
def KeyIn (w0 : World) (b : Nat) (kn : ByteArray) (nn : Nat) (w' : World) : Prop := w'.cell? ⟨b, 2, none⟩ = some (.string kn) ∧ w'.cell? ⟨b, 3, none⟩ = some (.int .u64 (nn : Int)) ∧ Var0 w' ∧ b < w'.heap.size ∧ Below w0.heap.size w0 w'
theorem KeyIn.below {w0 w1 w2 : World} {b : Nat} {kn : ByteArray} {nn : Nat} (h : KeyIn w0 b kn nn w1) (hb : Below w1.heap.size w1 w2) : KeyIn w0 b kn nn w2 := by
  obtain ⟨h1, h2, h3, h4, h5⟩ := h
  exact ⟨(hb.cell (p := ⟨b, 2, none⟩) h4).trans h1, (hb.cell (p := ⟨b, 3, none⟩) h4).trans h2, h3.below hb, Nat.lt_of_lt_of_le h4 hb.size, below_of h5 hb⟩

set_option maxHeartbeats 3200000 in
set_option maxRecDepth 100000 in
theorem encode_bad (k : Key) (w : World) (hf : k.fits) (hm : mayB k = false) : Calls Tryd.prog 11 #[k.val] w fun e w' => e = .returned (.tuple #[.string ⟨#[]⟩, .int .i64 2]) ∧ Below w.heap.size w w' := by
  have HM := Lib.hid (fun W => may_calls k W hf)
  rw [hm] at HM
  clear hm
  obtain ⟨kd, kb, kn, nn, pp⟩ := k
  unfold Key.val at HM ⊢
  simp only at HM ⊢
  go_enter Tryd.func11, Tryd.ntmps11
  go_wp2_with fail
  refine (HM.out _).mono ?_
  rintro e w1 ⟨rfl, hb1⟩
  go_wp2
  go_ret2
  exact ⟨rfl, below_of (below_one _ _) hb1⟩

set_option maxHeartbeats 6400000 in
set_option maxRecDepth 100000 in
theorem encode_3 (kb kn : ByteArray) (nn : Nat) (pp : Int) (w : World) (hv : Var0 w) (hf : (Key.mk 3 kb kn nn pp).fits) (hm : mayB ⟨3, kb, kn, nn, pp⟩ = true) : Calls Tryd.prog 11 #[(Key.mk 3 kb kn nn pp).val] w fun e w' => e = .returned (.tuple #[.string (bs (encL ⟨3, kb, kn, nn, pp⟩)), .int .i64 0]) ∧ Below w.heap.size w w' := by
  have HM := Lib.hid (fun W => may_calls ⟨3, kb, kn, nn, pp⟩ W hf)
  rw [hm] at HM
  have HH : Hid (∀ W, Calls Tryd.prog 35 #[.int .u8 3] W fun e w' => e = .returned (.tuple #[.bool true, .bool true, .bool true, .bool false]) ∧ w' = W) := has_calls 3
  obtain ⟨hb4, hn4, _, hnt⟩ := hf
  simp only at hb4 hn4 hnt
  clear hm
  unfold Key.val at HM ⊢
  simp only at HM ⊢
  have hcv := fun W => conv_one W 3 3 rfl 5
  have HE := Lib.hid (fun W (h : Var0 W) => escape_calls kn W h hn4)
  have HY := Lib.hid (fun W => bytes_calls (top - nn) 8 W (by omega))
  have hel : (esc kn.data.toList).length ≤ 8192 := by have := esc_length kn.data.toList; rw [size_list] at this; omega
  have e1 : bs (encL ⟨3, kb, kn, nn, pp⟩) = bs [3] ++ (kb ++ ⟨#[0]⟩) ++ (bs (esc kn.data.toList) ++ ⟨#[0, 1]⟩ ++ bs (be 8 (top - nn))) := by
    apply ba_ext
    simp [bs, encL, hasB]
  rw [e1]
  have z0 : (bs [3]).size = 1 := rfl
  have z1 : (bs (esc kn.data.toList)).size ≤ 8192 := by rw [bs_size]; exact hel
  have z2 : (bs (be 8 (top - nn))).size = 8 := by rw [bs_size, be_length]
  obtain ⟨y0, hy0⟩ : ∃ y, y = bs [3] := ⟨_, rfl⟩
  obtain ⟨y1, hy1⟩ : ∃ y, y = bs (esc kn.data.toList) := ⟨_, rfl⟩
  obtain ⟨y2, hy2⟩ : ∃ y, y = bs (be 8 (top - nn)) := ⟨_, rfl⟩
  rw [← hy0] at z0
  rw [← hy1] at z1
  rw [← hy2] at z2
  rw [← hy0, ← hy1, ← hy2]
  simp only [← hy0] at hcv
  simp only [← hy1] at HE
  simp only [← hy2] at HY
  clear hy0 hy1 hy2 e1 hel
  have hv1 := hv.below (below_one w (.cells #[.int .u8 3, .string kb, .string kn, .int .u64 (nn : Int), .int .i64 pp] 24))
  go_enter Tryd.func11, Tryd.ntmps11
  go_wp2_with fail
  refine (HM.out _).mono ?_
  rintro e w1 ⟨rfl, hb1⟩
  have hv2 := hv1.below hb1
  have q0 : w1.cell? ⟨w.heap.size, 0, none⟩ = some (.int .u8 3) := (hb1.cell (p := ⟨w.heap.size, 0, none⟩) (by simp)).trans (by simp)
  have q1 : w1.cell? ⟨w.heap.size, 1, none⟩ = some (.string kb) := (hb1.cell (p := ⟨w.heap.size, 1, none⟩) (by simp)).trans (by simp)
  have q2 : w1.cell? ⟨w.heap.size, 2, none⟩ = some (.string kn) := (hb1.cell (p := ⟨w.heap.size, 2, none⟩) (by simp)).trans (by simp)
  have q3 : w1.cell? ⟨w.heap.size, 3, none⟩ = some (.int .u64 (nn : Int)) := (hb1.cell (p := ⟨w.heap.size, 3, none⟩) (by simp)).trans (by simp)
  have q4 : w1.cell? ⟨w.heap.size, 4, none⟩ = some (.int .i64 pp) := (hb1.cell (p := ⟨w.heap.size, 4, none⟩) (by simp)).trans (by simp)
  have hlt : w.heap.size < w1.heap.size := by have := hb1.size; simp at this; omega
  have b1 := below_of (below_one _ _) hb1
  clear hb1 HM
  go_wp2_with fail
  refine (HH.out _).mono ?_
  rintro e w2 ⟨rfl, rfl⟩
  have hx := comp_u64 nn hnt
  have H0 : KeyIn w w.heap.size kn nn ((w2.alloc (.cells #[.int .u8 3] 5)).drew) := KeyIn.below (KeyIn.below ⟨q2, q3, hv2, hlt, b1⟩ (below_one _ _)) (below_drew (Below.refl _ _))
  go_wp2
  have s1 : ¬ 9223372036854775807 < y1.size + 2 := by omega
  have s2 : ¬ 9223372036854775807 < y1.size + 2 + 8 := by omega
  have s3 : ¬ 9223372036854775807 < 1 + (kb.size + 1) + (y1.size + 2 + 8) := by omega
  go_region_held3 (fun w' => w'.cell? ⟨w.heap.size, 2, none⟩ = some (.string kn) ∧ w'.cell? ⟨w.heap.size, 3, none⟩ = some (.int .u64 (nn : Int)) ∧ KeyIn w w.heap.size kn nn w') (first | exact ⟨HKE.1, HKE.2.1, HKE⟩ | exact ⟨HKY.1, HKY.2.1, HKY⟩ | exact ⟨H0.1, H0.2.1, H0⟩)
    (first | (go_at_call 36; refine Calls.mono (HE.out _ ?hvE) ?_; (case hvE => exact (KeyIn.below (w0 := w) (b := w.heap.size) (kn := kn) (nn := nn) (by assumption) (Below.refl _ _)).2.2.1); rintro e wE ⟨rfl, hbE⟩; have HKE := KeyIn.below (w0 := w) (b := w.heap.size) (kn := kn) (nn := nn) (by assumption) hbE) | (go_at_call 37; refine Calls.mono (HY.out _) ?_; rintro e wY ⟨rfl, hbY⟩; have HKY := KeyIn.below (w0 := w) (b := w.heap.size) (kn := kn) (nn := nn) (by assumption) hbY))
  all_goals
    go_wp2
    go_ret2
    first | exact ⟨rfl, HKY.2.2.2.2⟩ | exact ⟨rfl, HKE.2.2.2.2⟩

set_option maxHeartbeats 6400000 in
set_option maxRecDepth 100000 in
theorem encode_2 (kb kn : ByteArray) (nn : Nat) (pp : Int) (w : World) (hv : Var0 w) (hf : (Key.mk 2 kb kn nn pp).fits) (hm : mayB ⟨2, kb, kn, nn, pp⟩ = true) : Calls Tryd.prog 11 #[(Key.mk 2 kb kn nn pp).val] w fun e w' => e = .returned (.tuple #[.string (bs (encL ⟨2, kb, kn, nn, pp⟩)), .int .i64 0]) ∧ Below w.heap.size w w' := by
  have HM := Lib.hid (fun W => may_calls ⟨2, kb, kn, nn, pp⟩ W hf)
  rw [hm] at HM
  have HH : Hid (∀ W, Calls Tryd.prog 35 #[.int .u8 2] W fun e w' => e = .returned (.tuple #[.bool true, .bool false, .bool false, .bool false]) ∧ w' = W) := has_calls 2
  obtain ⟨hb4, hn4, _, hnt⟩ := hf
  simp only at hb4 hn4 hnt
  clear hm
  unfold Key.val at HM ⊢
  simp only at HM ⊢
  have hcv := fun W => conv_one W 2 2 rfl 5
  have e1 : bs (encL ⟨2, kb, kn, nn, pp⟩) = bs [2] ++ (kb ++ ⟨#[0]⟩) := by
    apply ba_ext
    simp [bs, encL, hasB, hasN]
  rw [e1]
  have z0 : (bs [2]).size = 1 := rfl
  obtain ⟨y0, hy0⟩ : ∃ y, y = bs [2] := ⟨_, rfl⟩
  rw [← hy0] at z0
  rw [← hy0]
  simp only [← hy0] at hcv
  clear hy0 e1 hnt hn4
  have s1 : ¬ 9223372036854775807 < kb.size + 1 := by omega
  have s2 : ¬ 9223372036854775807 < 1 + (kb.size + 1) := by omega
  have hv1 := hv.below (below_one w (.cells #[.int .u8 2, .string kb, .string kn, .int .u64 (nn : Int), .int .i64 pp] 24))
  go_enter Tryd.func11, Tryd.ntmps11
  go_wp2_with fail
  refine (HM.out _).mono ?_
  rintro e w1 ⟨rfl, hb1⟩
  have hv2 := hv1.below hb1
  have q0 : w1.cell? ⟨w.heap.size, 0, none⟩ = some (.int .u8 2) := (hb1.cell (p := ⟨w.heap.size, 0, none⟩) (by simp)).trans (by simp)
  have q1 : w1.cell? ⟨w.heap.size, 1, none⟩ = some (.string kb) := (hb1.cell (p := ⟨w.heap.size, 1, none⟩) (by simp)).trans (by simp)
  have q2 : w1.cell? ⟨w.heap.size, 2, none⟩ = some (.string kn) := (hb1.cell (p := ⟨w.heap.size, 2, none⟩) (by simp)).trans (by simp)
  have q3 : w1.cell? ⟨w.heap.size, 3, none⟩ = some (.int .u64 (nn : Int)) := (hb1.cell (p := ⟨w.heap.size, 3, none⟩) (by simp)).trans (by simp)
  have q4 : w1.cell? ⟨w.heap.size, 4, none⟩ = some (.int .i64 pp) := (hb1.cell (p := ⟨w.heap.size, 4, none⟩) (by simp)).trans (by simp)
  have hlt : w.heap.size < w1.heap.size := by have := hb1.size; simp at this; omega
  have b1 := below_of (below_one _ _) hb1
  clear hb1 HM
  go_wp2_with fail
  refine (HH.out _).mono ?_
  rintro e w2 ⟨rfl, rfl⟩
  go_wp2
  go_ret2
  exact ⟨rfl, below_of b1 (below_one _ _)⟩

set_option maxHeartbeats 6400000 in
set_option maxRecDepth 100000 in
theorem encode_4 (kb kn : ByteArray) (nn : Nat) (pp : Int) (w : World) (hv : Var0 w) (hf : (Key.mk 4 kb kn nn pp).fits) (hm : mayB ⟨4, kb, kn, nn, pp⟩ = true) : Calls Tryd.prog 11 #[(Key.mk 4 kb kn nn pp).val] w fun e w' => e = .returned (.tuple #[.string (bs (encL ⟨4, kb, kn, nn, pp⟩)), .int .i64 0]) ∧ Below w.heap.size w w' := by
  have HM := Lib.hid (fun W => may_calls ⟨4, kb, kn, nn, pp⟩ W hf)
  rw [hm] at HM
  have HH : Hid (∀ W, Calls Tryd.prog 35 #[.int .u8 4] W fun e w' => e = .returned (.tuple #[.bool true, .bool false, .bool true, .bool false]) ∧ w' = W) := has_calls 4
  obtain ⟨hb4, hn4, _, hnt⟩ := hf
  simp only at hb4 hn4 hnt
  clear hm
  unfold Key.val at HM ⊢
  simp only at HM ⊢
  have hcv := fun W => conv_one W 4 4 rfl 5
  have HY := Lib.hid (fun W => bytes_calls nn 8 W (by omega))
  have e1 : bs (encL ⟨4, kb, kn, nn, pp⟩) = bs [4] ++ (kb ++ ⟨#[0]⟩) ++ bs (be 8 nn) := by
    apply ba_ext
    simp [bs, encL, hasB, hasN]
  rw [e1]
  have z0 : (bs [4]).size = 1 := rfl
  have z2 : (bs (be 8 nn)).size = 8 := by rw [bs_size, be_length]
  obtain ⟨y0, hy0⟩ : ∃ y, y = bs [4] := ⟨_, rfl⟩
  obtain ⟨y2, hy2⟩ : ∃ y, y = bs (be 8 nn) := ⟨_, rfl⟩
  rw [← hy0] at z0
  rw [← hy2] at z2
  rw [← hy0, ← hy2]
  simp only [← hy0] at hcv
  simp only [← hy2] at HY
  clear hy0 hy2 e1 hnt hn4
  have s1 : ¬ 9223372036854775807 < kb.size + 1 := by omega
  have s2 : ¬ 9223372036854775807 < 1 + (kb.size + 1) := by omega
  have s3 : ¬ 9223372036854775807 < 1 + (kb.size + 1) + 8 := by omega
  have hv1 := hv.below (below_one w (.cells #[.int .u8 4, .string kb, .string kn, .int .u64 (nn : Int), .int .i64 pp] 24))
  go_enter Tryd.func11, Tryd.ntmps11
  go_wp2_with fail
  refine (HM.out _).mono ?_
  rintro e w1 ⟨rfl, hb1⟩
  have hv2 := hv1.below hb1
  have q0 : w1.cell? ⟨w.heap.size, 0, none⟩ = some (.int .u8 4) := (hb1.cell (p := ⟨w.heap.size, 0, none⟩) (by simp)).trans (by simp)
  have q1 : w1.cell? ⟨w.heap.size, 1, none⟩ = some (.string kb) := (hb1.cell (p := ⟨w.heap.size, 1, none⟩) (by simp)).trans (by simp)
  have q2 : w1.cell? ⟨w.heap.size, 2, none⟩ = some (.string kn) := (hb1.cell (p := ⟨w.heap.size, 2, none⟩) (by simp)).trans (by simp)
  have q3 : w1.cell? ⟨w.heap.size, 3, none⟩ = some (.int .u64 (nn : Int)) := (hb1.cell (p := ⟨w.heap.size, 3, none⟩) (by simp)).trans (by simp)
  have q4 : w1.cell? ⟨w.heap.size, 4, none⟩ = some (.int .i64 pp) := (hb1.cell (p := ⟨w.heap.size, 4, none⟩) (by simp)).trans (by simp)
  have hlt : w.heap.size < w1.heap.size := by have := hb1.size; simp at this; omega
  have b1 := below_of (below_one _ _) hb1
  clear hb1 HM
  go_wp2_with fail
  refine (HH.out _).mono ?_
  rintro e w2 ⟨rfl, rfl⟩
  go_wp2_with fail
  refine (HY.out _).mono ?_
  rintro e w3 ⟨rfl, b3⟩
  go_wp2
  go_ret2
  exact ⟨rfl, below_of (below_of b1 (below_one _ _)) b3⟩

set_option maxHeartbeats 6400000 in
set_option maxRecDepth 100000 in
theorem encode_5 (kb kn : ByteArray) (nn : Nat) (pp : Int) (w : World) (hv : Var0 w) (hf : (Key.mk 5 kb kn nn pp).fits) (hm : mayB ⟨5, kb, kn, nn, pp⟩ = true) : Calls Tryd.prog 11 #[(Key.mk 5 kb kn nn pp).val] w fun e w' => e = .returned (.tuple #[.string (bs (encL ⟨5, kb, kn, nn, pp⟩)), .int .i64 0]) ∧ Below w.heap.size w w' := by
  have HM := Lib.hid (fun W => may_calls ⟨5, kb, kn, nn, pp⟩ W hf)
  rw [hm] at HM
  have HH : Hid (∀ W, Calls Tryd.prog 35 #[.int .u8 5] W fun e w' => e = .returned (.tuple #[.bool true, .bool false, .bool true, .bool true]) ∧ w' = W) := has_calls 5
  obtain ⟨hb4, hn4, _, hnt⟩ := hf
  simp only at hb4 hn4 hnt
  have hpp := (may_facts hm).2.2.2.2.2.2.1 rfl
  simp only at hpp
  clear hm
  unfold Key.val at HM ⊢
  simp only at HM ⊢
  have hcv := fun W => conv_one W 5 5 rfl 5
  obtain ⟨pq, rfl⟩ := Int.eq_ofNat_of_zero_le (show 0 ≤ pp by omega)
  have HY := Lib.hid (fun W => bytes_calls nn 8 W (by omega))
  have HY2 := Lib.hid (fun W => bytes_calls pq 2 W (by omega))
  have e1 : bs (encL ⟨5, kb, kn, nn, pq⟩) = bs [5] ++ (kb ++ ⟨#[0]⟩) ++ bs (be 8 nn) ++ bs (be 2 pq) := by
    apply ba_ext
    simp [bs, encL, hasB, hasN]
  rw [e1]
  have hpw : IntKind.u64.wrap (pq : Int) = (pq : Int) := IntWalk.u64_in _ (by omega)
  have z0 : (bs [5]).size = 1 := rfl
  have z2 : (bs (be 8 nn)).size = 8 := by rw [bs_size, be_length]
  have z3 : (bs (be 2 pq)).size = 2 := by rw [bs_size, be_length]
  obtain ⟨y0, hy0⟩ : ∃ y, y = bs [5] := ⟨_, rfl⟩
  obtain ⟨y2, hy2⟩ : ∃ y, y = bs (be 8 nn) := ⟨_, rfl⟩
  obtain ⟨y3, hy3⟩ : ∃ y, y = bs (be 2 pq) := ⟨_, rfl⟩
  rw [← hy0] at z0
  rw [← hy2] at z2
  rw [← hy3] at z3
  rw [← hy0, ← hy2, ← hy3]
  simp only [← hy0] at hcv
  simp only [← hy2] at HY
  simp only [← hy3] at HY2
  clear hy0 hy2 hy3 e1 hnt hn4
  have s1 : ¬ 9223372036854775807 < kb.size + 1 := by omega
  have s2 : ¬ 9223372036854775807 < 1 + (kb.size + 1) := by omega
  have s3 : ¬ 9223372036854775807 < 1 + (kb.size + 1) + 8 := by omega
  have s4 : ¬ 9223372036854775807 < 1 + (kb.size + 1) + 8 + 2 := by omega
  have hv1 := hv.below (below_one w (.cells #[.int .u8 5, .string kb, .string kn, .int .u64 (nn : Int), .int .i64 (pq : Int)] 24))
  go_enter Tryd.func11, Tryd.ntmps11
  go_wp2_with fail
  refine (HM.out _).mono ?_
  rintro e w1 ⟨rfl, hb1⟩
  have hv2 := hv1.below hb1
  have q0 : w1.cell? ⟨w.heap.size, 0, none⟩ = some (.int .u8 5) := (hb1.cell (p := ⟨w.heap.size, 0, none⟩) (by simp)).trans (by simp)
  have q1 : w1.cell? ⟨w.heap.size, 1, none⟩ = some (.string kb) := (hb1.cell (p := ⟨w.heap.size, 1, none⟩) (by simp)).trans (by simp)
  have q2 : w1.cell? ⟨w.heap.size, 2, none⟩ = some (.string kn) := (hb1.cell (p := ⟨w.heap.size, 2, none⟩) (by simp)).trans (by simp)
  have q3 : w1.cell? ⟨w.heap.size, 3, none⟩ = some (.int .u64 (nn : Int)) := (hb1.cell (p := ⟨w.heap.size, 3, none⟩) (by simp)).trans (by simp)
  have q4 : w1.cell? ⟨w.heap.size, 4, none⟩ = some (.int .i64 (pq : Int)) := (hb1.cell (p := ⟨w.heap.size, 4, none⟩) (by simp)).trans (by simp)
  have hlt : w.heap.size < w1.heap.size := by have := hb1.size; simp at this; omega
  have b1 := below_of (below_one _ _) hb1
  clear hb1 HM
  go_wp2_with fail
  refine (HH.out _).mono ?_
  rintro e w2 ⟨rfl, rfl⟩
  have hbs := b1.size
  have hs1 : w.heap.size < (w2.alloc (.cells #[.int .u8 5] 5)).heap.size := by simp; omega
  have q4' := (below_one w2 (.cells #[.int .u8 5] 5)).cell (p := ⟨w.heap.size, 4, none⟩) hlt
  go_wp2_with fail
  refine (HY.out _).mono ?_
  rintro e w3 ⟨rfl, b3⟩
  have q5 : w3.cell? ⟨w.heap.size, 4, none⟩ = some (.int .i64 (pq : Int)) := (b3.cell (p := ⟨w.heap.size, 4, none⟩) hs1).trans (q4'.trans q4)
  clear q4'
  go_wp2_with fail
  refine (HY2.out _).mono ?_
  rintro e w4 ⟨rfl, b4⟩
  go_wp2
  go_ret2
  exact ⟨rfl, below_of (below_of (below_of b1 (below_one _ _)) b3) b4⟩

set_option maxHeartbeats 6400000 in
set_option maxRecDepth 100000 in
theorem encode_1 (kb kn : ByteArray) (nn : Nat) (pp : Int) (w : World) (hv : Var0 w) (hf : (Key.mk 1 kb kn nn pp).fits) (hm : mayB ⟨1, kb, kn, nn, pp⟩ = true) : Calls Tryd.prog 11 #[(Key.mk 1 kb kn nn pp).val] w fun e w' => e = .returned (.tuple #[.string (bs (encL ⟨1, kb, kn, nn, pp⟩)), .int .i64 0]) ∧ Below w.heap.size w w' := by
  have HM := Lib.hid (fun W => may_calls ⟨1, kb, kn, nn, pp⟩ W hf)
  rw [hm] at HM
  have HH : Hid (∀ W, Calls Tryd.prog 35 #[.int .u8 1] W fun e w' => e = .returned (.tuple #[.bool false, .bool false, .bool false, .bool false]) ∧ w' = W) := has_calls 1
  obtain ⟨hb4, hn4, _, hnt⟩ := hf
  simp only at hb4 hn4 hnt
  clear hm
  unfold Key.val at HM ⊢
  simp only at HM ⊢
  have hcv := fun W => conv_one W 1 1 rfl 5
  have e1 : bs (encL ⟨1, kb, kn, nn, pp⟩) = bs [1] := by
    apply ba_ext
    simp [bs, encL, hasB, hasN]
  rw [e1]
  have z0 : (bs [1]).size = 1 := rfl
  obtain ⟨y0, hy0⟩ : ∃ y, y = bs [1] := ⟨_, rfl⟩
  rw [← hy0] at z0
  rw [← hy0]
  simp only [← hy0] at hcv
  clear hy0 e1 hnt hn4 hb4
  have hv1 := hv.below (below_one w (.cells #[.int .u8 1, .string kb, .string kn, .int .u64 (nn : Int), .int .i64 pp] 24))
  go_enter Tryd.func11, Tryd.ntmps11
  go_wp2_with fail
  refine (HM.out _).mono ?_
  rintro e w1 ⟨rfl, hb1⟩
  have hv2 := hv1.below hb1
  have q0 : w1.cell? ⟨w.heap.size, 0, none⟩ = some (.int .u8 1) := (hb1.cell (p := ⟨w.heap.size, 0, none⟩) (by simp)).trans (by simp)
  have q1 : w1.cell? ⟨w.heap.size, 1, none⟩ = some (.string kb) := (hb1.cell (p := ⟨w.heap.size, 1, none⟩) (by simp)).trans (by simp)
  have q2 : w1.cell? ⟨w.heap.size, 2, none⟩ = some (.string kn) := (hb1.cell (p := ⟨w.heap.size, 2, none⟩) (by simp)).trans (by simp)
  have q3 : w1.cell? ⟨w.heap.size, 3, none⟩ = some (.int .u64 (nn : Int)) := (hb1.cell (p := ⟨w.heap.size, 3, none⟩) (by simp)).trans (by simp)
  have q4 : w1.cell? ⟨w.heap.size, 4, none⟩ = some (.int .i64 pp) := (hb1.cell (p := ⟨w.heap.size, 4, none⟩) (by simp)).trans (by simp)
  have hlt : w.heap.size < w1.heap.size := by have := hb1.size; simp at this; omega
  have b1 := below_of (below_one _ _) hb1
  clear hb1 HM
  go_wp2_with fail
  refine (HH.out _).mono ?_
  rintro e w2 ⟨rfl, rfl⟩
  go_wp2
  go_ret2
  exact ⟨rfl, below_of b1 (below_one _ _)⟩

set_option maxHeartbeats 6400000 in
set_option maxRecDepth 100000 in
theorem encode_6 (kb kn : ByteArray) (nn : Nat) (pp : Int) (w : World) (hv : Var0 w) (hf : (Key.mk 6 kb kn nn pp).fits) (hm : mayB ⟨6, kb, kn, nn, pp⟩ = true) : Calls Tryd.prog 11 #[(Key.mk 6 kb kn nn pp).val] w fun e w' => e = .returned (.tuple #[.string (bs (encL ⟨6, kb, kn, nn, pp⟩)), .int .i64 0]) ∧ Below w.heap.size w w' := by
  have HM := Lib.hid (fun W => may_calls ⟨6, kb, kn, nn, pp⟩ W hf)
  rw [hm] at HM
  have HH : Hid (∀ W, Calls Tryd.prog 35 #[.int .u8 6] W fun e w' => e = .returned (.tuple #[.bool false, .bool false, .bool true, .bool false]) ∧ w' = W) := has_calls 6
  obtain ⟨hb4, hn4, _, hnt⟩ := hf
  simp only at hb4 hn4 hnt
  clear hm
  unfold Key.val at HM ⊢
  simp only at HM ⊢
  have hcv := fun W => conv_one W 6 6 rfl 5
  have HY := Lib.hid (fun W => bytes_calls nn 8 W (by omega))
  have e1 : bs (encL ⟨6, kb, kn, nn, pp⟩) = bs [6] ++ bs (be 8 nn) := by
    apply ba_ext
    simp [bs, encL, hasB, hasN]
  rw [e1]
  have z0 : (bs [6]).size = 1 := rfl
  have z2 : (bs (be 8 nn)).size = 8 := by rw [bs_size, be_length]
  obtain ⟨y0, hy0⟩ : ∃ y, y = bs [6] := ⟨_, rfl⟩
  obtain ⟨y2, hy2⟩ : ∃ y, y = bs (be 8 nn) := ⟨_, rfl⟩
  rw [← hy0] at z0
  rw [← hy2] at z2
  rw [← hy0, ← hy2]
  simp only [← hy0] at hcv
  simp only [← hy2] at HY
  clear hy0 hy2 e1 hnt hn4 hb4
  have hv1 := hv.below (below_one w (.cells #[.int .u8 6, .string kb, .string kn, .int .u64 (nn : Int), .int .i64 pp] 24))
  go_enter Tryd.func11, Tryd.ntmps11
  go_wp2_with fail
  refine (HM.out _).mono ?_
  rintro e w1 ⟨rfl, hb1⟩
  have hv2 := hv1.below hb1
  have q0 : w1.cell? ⟨w.heap.size, 0, none⟩ = some (.int .u8 6) := (hb1.cell (p := ⟨w.heap.size, 0, none⟩) (by simp)).trans (by simp)
  have q1 : w1.cell? ⟨w.heap.size, 1, none⟩ = some (.string kb) := (hb1.cell (p := ⟨w.heap.size, 1, none⟩) (by simp)).trans (by simp)
  have q2 : w1.cell? ⟨w.heap.size, 2, none⟩ = some (.string kn) := (hb1.cell (p := ⟨w.heap.size, 2, none⟩) (by simp)).trans (by simp)
  have q3 : w1.cell? ⟨w.heap.size, 3, none⟩ = some (.int .u64 (nn : Int)) := (hb1.cell (p := ⟨w.heap.size, 3, none⟩) (by simp)).trans (by simp)
  have q4 : w1.cell? ⟨w.heap.size, 4, none⟩ = some (.int .i64 pp) := (hb1.cell (p := ⟨w.heap.size, 4, none⟩) (by simp)).trans (by simp)
  have hlt : w.heap.size < w1.heap.size := by have := hb1.size; simp at this; omega
  have b1 := below_of (below_one _ _) hb1
  clear hb1 HM
  go_wp2_with fail
  refine (HH.out _).mono ?_
  rintro e w2 ⟨rfl, rfl⟩
  go_wp2_with fail
  refine (HY.out _).mono ?_
  rintro e w3 ⟨rfl, b3⟩
  go_wp2
  go_ret2
  exact ⟨rfl, below_of (below_of b1 (below_one _ _)) b3⟩

theorem encode_calls (k : Key) (w : World) (hv : Var0 w) (hf : k.fits) : Calls Tryd.prog 11 #[k.val] w fun e w' => e = .returned (encR k) ∧ Below w.heap.size w w' := by
  unfold encR
  cases hm : mayB k
  · exact encode_bad k w hf hm
  · have hk := (may_facts hm).1
    obtain ⟨kd, kb, kn, nn, pp⟩ := k
    simp only at hk
    obtain rfl | rfl | rfl | rfl | rfl | rfl : kd = 1 ∨ kd = 2 ∨ kd = 3 ∨ kd = 4 ∨ kd = 5 ∨ kd = 6 := by omega
    · exact encode_1 kb kn nn pp w hv hf hm
    · exact encode_2 kb kn nn pp w hv hf hm
    · exact encode_3 kb kn nn pp w hv hf hm
    · exact encode_4 kb kn nn pp w hv hf hm
    · exact encode_5 kb kn nn pp w hv hf hm
    · exact encode_6 kb kn nn pp w hv hf hm

end Go.Proofs.YtaeiahkomdpcoaaDoor.Name
end

section
/- The walks of package name's number and unname. -/
namespace Go.Proofs.YtaeiahkomdpcoaaDoor.Name
open Go.RowKit Go.Shelf

def val (l : Bs) : Nat := l.foldl (fun a c => a * 256 + c.toNat) 0
theorem val_snoc (l : List UInt8) (c : UInt8) : val (l ++ [c]) = val l * 256 + c.toNat := by simp [val]
theorem val_lt (l : List UInt8) : val l < 256 ^ l.length := by
  rw [← List.reverse_reverse l]
  generalize l.reverse = m
  induction m with
  | nil => simp [val]
  | cons c m ih =>
    rw [List.reverse_cons, val_snoc, List.length_append, List.length_singleton, Nat.pow_succ]
    have := c.toNat_lt
    omega
theorem val_be (k : Nat) : ∀ n, n < 256 ^ k → val (be k n) = n := by
  induction k with
  | zero => intro n h; simp at h; subst h; rfl
  | succ k ih =>
    intro n h
    rw [be, val_snoc, ih (n / 256) (by rw [Nat.pow_succ] at h; omega)]
    simp [UInt8.toNat_ofNat']
    omega
theorem be_val : ∀ (l : Bs), be l.length (val l) = l := by
  intro l
  rw [← List.reverse_reverse l]
  generalize l.reverse = m
  induction m with
  | nil => rfl
  | cons c m ih =>
    rw [List.reverse_cons, val_snoc, List.length_append, List.length_singleton, be]
    have := c.toNat_lt
    rw [show (val m.reverse * 256 + c.toNat) / 256 = val m.reverse by omega, ih, show (val m.reverse * 256 + c.toNat) % 256 = c.toNat by omega]
    simp

theorem or_byte (v : Nat) (e : UInt8) (hv : v < 72057594037927936) : bits BinOp.or IntKind.u64 ((v : Int) * 256) (e.toNat : Int) = ((v * 256 + e.toNat : Nat) : Int) := by
  have he := e.toNat_lt
  have h := u64_or_nat (v * 256) e.toNat (by omega) (by omega)
  rw [show ((v : Int) * 256) = ((v * 256 : Nat) : Int) from by omega, h]
  congr 1
  have := Nat.two_pow_add_eq_or_of_lt (i := 8) (b := e.toNat) he v
  rw [show (2 : Nat) ^ 8 * v = v * 256 from by rw [Nat.mul_comm]] at this
  exact this.symm

set_option maxHeartbeats 800000 in
set_option maxRecDepth 100000 in
theorem number_calls (t : ByteArray) (w : World) (ht : t.size ≤ 8) : Calls Tryd.prog 40 #[.string t] w fun e w' => e = .returned (.int .u64 (val t.data.toList : Int)) ∧ w' = w := by
  go_enter Tryd.func40, Tryd.ntmps40
  go_wp2
  go_loop [2, 6] (fun xv iv => ∃ k : Nat, k ≤ t.size ∧ xv = .int .u64 (val (t.data.toList.take k) : Int) ∧ iv = .int .i64 k) (fun _ iv => t.size - (intOf iv).toNat)
  case atStart => exact ⟨0, by omega, rfl, rfl⟩
  case round =>
    obtain ⟨k, hk, rfl, rfl⟩ := hrel
    by_cases hlt : k < t.size
    · have hkl : k < t.data.toList.length := by rw [size_list]; exact hlt
      obtain ⟨e, he⟩ : ∃ e, e = t[k] := ⟨_, rfl⟩
      obtain ⟨v, hv⟩ : ∃ v, v = val (t.data.toList.take k) := ⟨_, rfl⟩
      rw [← hv]
      have hvb : v < 72057594037927936 := by
        have h := val_lt (t.data.toList.take k)
        rw [← hv, List.length_take, Nat.min_eq_left (by omega)] at h
        have hp : 256 ^ k ≤ 256 ^ 7 := Nat.pow_le_pow_right (by omega) (by omega)
        have : (256 : Nat) ^ 7 = 72057594037927936 := by decide
        omega
      have he8 := e.toNat_lt
      have hel : Hid (t.data.toList[k] = e) := by
        show _ = _
        rw [he]; rfl
      have hwr := Lib.hid (show IntKind.u64.wrap (t[k].toNat : Int) = (t[k].toNat : Int) from IntWalk.u64_in _ (by have := t[k].toNat_lt; omega))
      have HV := Lib.hid hv
      clear hv
      go_wp2
      go_round
      case rel => exact ⟨k + 1, by omega, by rw [List.take_succ_eq_append_getElem hkl, val_snoc, ← HV.out, hel.out, ← or_byte v e hvb, hwr.out, he], by go_num⟩
      case measure => simp [intOf]; omega
    · obtain rfl : k = t.size := by omega
      go_wp2
      go_ret
      rw [List.take_of_length_le (by rw [size_list]; exact Nat.le_refl _)]
      exact ⟨rfl, rfl⟩

/-- A name at the front of bytes, and what stands behind its end. -/
def un : Bs → Option (Bs × Bs)
  | c :: d :: r => if c ≠ 0 then (un (d :: r)).map fun p => (c :: p.1, p.2) else if d = 255 then (un r).map fun p => (0 :: p.1, p.2) else if d = 1 then some ([], r) else none
  | _ => none
theorem un_esc : ∀ (x r : Bs), un (esc x ++ 0 :: 1 :: r) = some (x, r)
  | [], r => by simp [esc, un]
  | c :: x, r => by
    have ih := un_esc x r
    unfold esc
    split
    · rename_i hc; subst hc; simp [un, ih]
    · rename_i hc
      cases hx : esc x ++ 0 :: 1 :: r with
      | nil => simp at hx
      | cons d m => rw [List.cons_append, hx, un, if_pos hc, ← hx, ih]; rfl

end Go.Proofs.YtaeiahkomdpcoaaDoor.Name
end

section
/- The walk of package name's unname. -/
namespace Go.Proofs.YtaeiahkomdpcoaaDoor.Name
open Go.RowKit Go.Shelf

def unV : Option (Bs × Bs) → Value
  | some p => .tuple #[.string (bs p.1), .string (bs p.2), .bool true]
  | none => .tuple #[.string ⟨#[]⟩, .string ⟨#[]⟩, .bool false]
def cellsOf (l : Bs) : List Value := l.map fun c => .int .u8 (c.toNat : Int)

theorem own_row {w : World} {B : Nat} {v : Value} {acc : Bs} (h : w.ownsRow B 5 1 v acc.length (cellsOf acc)) (hne : acc ≠ []) : ∃ g cap, v = .slice (some ⟨g, 0, none⟩) acc.length cap ∧ acc.length ≤ cap ∧ RowAt w g acc := by
  rcases h.2 with ⟨_, h0⟩ | ⟨g, cap, cur, rfl, hB, hg, hc, hm, hs, ht⟩
  · exact absurd (List.length_eq_zero_iff.1 h0) hne
  · refine ⟨g, cap, rfl, hc, fun i c hi => ⟨?_, Lib.frozen_of_heap hg i⟩⟩
    have := h.cells (g := g) rfl i (.int .u8 (c.toNat : Int)) (by simp [cellsOf, hi])
    have e : (⟨g, 0, none⟩ : Addr).add i = ⟨g, i, none⟩ := by unfold Addr.add; split <;> simp_all
    rwa [e] at this
theorem RowAt.take {w : World} {B : Nat} {l : Bs} (h : RowAt w B l) (k : Nat) : RowAt w B (l.take k) := fun i c hi => by
  rw [List.getElem?_take] at hi
  split at hi
  · exact h i c hi
  · cases hi
theorem RowAt.drew {w : World} {B : Nat} {l : Bs} (h : RowAt w B l) : RowAt w.drew B l := h

theorem str_drop (s : ByteArray) (n : Nat) : s.extract n s.size = bs (s.data.toList.drop n) := by
  apply ByteArray.ext
  apply Array.toList_inj.1
  rw [Lib.extract_data]
  show (s.data.toList.drop n).take (s.size - n) = s.data.toList.drop n
  rw [List.take_of_length_le]
  rw [List.length_drop, size_list]; exact Nat.le_refl _
theorem str_take (s : ByteArray) (n : Nat) : s.extract 0 n = bs (s.data.toList.take n) := by
  apply ByteArray.ext
  apply Array.toList_inj.1
  rw [Lib.extract_data]
  rfl

theorem un_step (s : Bs) (k : Nat) (h : k + 1 < s.length) : un (s.drop k) = if s[k] ≠ 0 then (un (s.drop (k + 1))).map fun p => (s[k] :: p.1, p.2) else if s[k + 1] = 255 then (un (s.drop (k + 2))).map fun p => (0 :: p.1, p.2) else if s[k + 1] = 1 then some ([], s.drop (k + 2)) else none := by
  rw [List.drop_eq_getElem_cons (show k < s.length by omega), List.drop_eq_getElem_cons h, un]
theorem un_end (s : Bs) (k : Nat) (h : s.length ≤ k + 1) : un (s.drop k) = none := by
  rcases Nat.lt_or_ge k s.length with h1 | h1
  · rw [List.drop_eq_getElem_cons h1, List.drop_eq_nil_of_le (by omega)]; rfl
  · rw [List.drop_eq_nil_of_le h1]; rfl

def withP (acc : Bs) (o : Option (Bs × Bs)) : Option (Bs × Bs) := o.map fun p => (acc ++ p.1, p.2)

set_option maxHeartbeats 3200000 in
set_option maxRecDepth 100000 in
theorem unname_calls (s : ByteArray) (w : World) (hs : s.size ≤ 10000) : Calls Tryd.prog 39 #[.string s] w fun e w' => e = .returned (unV (un s.data.toList)) ∧ Below w.heap.size w w' := by
  obtain ⟨i0, hi, hz0, hz1, hz2⟩ := info_parts infoByte
  go_enter Tryd.func39, Tryd.ntmps39
  go_wp2
  go_step3
  go_wp2
  go_step3
  go_wp2
  go_loopw [5, 6] (fun v iv wr => ∃ (k : Nat) (acc : Bs), k ≤ s.size ∧ acc.length ≤ k ∧ iv = .int .i64 k ∧ wr.ownsRow w.heap.size 5 1 v acc.length (cellsOf acc) ∧ Hid (un s.data.toList = withP acc (un (s.data.toList.drop k))) ∧ Below w.heap.size w wr) (fun _ iv _ => s.size - (intOf iv).toNat)
  case atStart => exact ⟨0, [], by omega, by simp, rfl, World.ownsRow_nil _ _ _ _, (by show _ = _; simp [withP]), Below.refl _ _⟩
  case round =>
    obtain ⟨k, acc, hk, hacc, rfl, hown, hU, hb⟩ := hrel
    by_cases hlt : k + 1 < s.size
    · have hlt1 : k < s.size := by omega
      have hst := un_step s.data.toList k (by rw [size_list]; exact hlt)
      obtain ⟨c, hc⟩ : ∃ c, c = s[k].toNat := ⟨_, rfl⟩
      obtain ⟨d, hd⟩ : ∃ d, d = s[k + 1].toNat := ⟨_, rfl⟩
      have hck : s.data.toList[k]'(by rw [size_list]; exact hlt1) = UInt8.ofNat c := by rw [hc]; simp; rfl
      have hdk : s.data.toList[k + 1]'(by rw [size_list]; exact hlt) = UInt8.ofNat d := by rw [hd]; simp; rfl
      have hc8 : c < 256 := by rw [hc]; exact s[k].toNat_lt
      have hd8 : d < 256 := by rw [hd]; exact s[k + 1].toNat_lt
      rw [hck, hdk] at hst
      have HST := Lib.hid hst
      have hbs := hb.size
      have hcc : Hid ((.int .u8 (c : Int) : Value) = .int .u8 ((UInt8.ofNat c).toNat : Int)) := by
        show _ = _
        rw [UInt8.toNat_ofNat', Nat.mod_eq_of_lt hc8]
      clear hst hck hdk
      go_wp2_with (at_builtin; refine wpList_append_own _ rfl _ _ 71 rfl w.heap.size 5 i0 (.int .u8 0) 1 1 Tryd.underlying71 hi hz0 hz1 hz2 rfl (by decide) _ _ _ rfl (hown.alloc _) ⟨wr.heap.size, 0, none⟩ 1 1 [.int .u8 (s[k].toNat : Int)] rfl rfl (World.news_of_block (MapKept.heap_alloc wr _).1) ?c2 ?c3 ?c4 ?c5 ?_)
      case c2 => intro u hu; simp at hu; subst hu; rfl
      case c3 => unfold maxLen; omega
      case c4 => omega
      case c5 => simp; omega
      intro v' wn hown' hgrow _
      have hbn : Below w.heap.size w wn := (hb.alloc hbs _).grown hgrow (by simp; omega) (fun g hg => (hown.lt _ hg).1)
      have hlen : (acc ++ [UInt8.ofNat c]).length = acc.length + 1 := by simp
      have hown2 : wn.ownsRow w.heap.size 5 1 v' (acc ++ [UInt8.ofNat c]).length (cellsOf (acc ++ [UInt8.ofNat c])) := by
        rw [hlen]
        have e : cellsOf (acc ++ [UInt8.ofNat c]) = cellsOf acc ++ [.int .u8 (c : Int)] := by simp only [cellsOf, List.map_append, List.map_cons, List.map_nil, hcc.out]
        rw [e, hc]; exact hown'
      clear hown'
      have hC0 : c = 0 → UInt8.ofNat c = 0 := fun e => by rw [e]; rfl
      have hC1 : c ≠ 0 → UInt8.ofNat c ≠ 0 := fun h e => h (by have := congrArg UInt8.toNat e; rw [UInt8.toNat_ofNat', Nat.mod_eq_of_lt hc8] at this; exact this)
      have hD255 : d ≠ 255 → UInt8.ofNat d ≠ 255 := fun h e => h (by have := congrArg UInt8.toNat e; rw [UInt8.toNat_ofNat', Nat.mod_eq_of_lt hd8] at this; exact this)
      have hD1 : d ≠ 1 → UInt8.ofNat d ≠ 1 := fun h e => h (by have := congrArg UInt8.toNat e; rw [UInt8.toNat_ofNat', Nat.mod_eq_of_lt hd8] at this; exact this)
      have HC0 := Lib.hid hC0
      have HC1 := Lib.hid hC1
      have HD255 := Lib.hid hD255
      have HD1 := Lib.hid hD1
      clear hC0 hC1 hD255 hD1 hcc hgrow hown
      by_cases hc0 : c = 0
      · have hcB : ((s[k].toNat : Int) == 0) = true := by rw [← hc, hc0]; rfl
        have hkw : IntKind.i64.wrap ((k : Int) + 1) = (k : Int) + 1 := IntWalk.i64_in _ (by omega)
        have hk2 : ((k : Int) + 1).toNat = k + 1 := by omega
        have hk3 : (0 : Int) ≤ (k : Int) + 1 := by omega
        by_cases hd255 : d = 255
        · have hdB : ((s[k + 1].toNat : Int) == 255) = true := by rw [← hd, hd255]; rfl
          have HU2 := Lib.hid (show un s.data.toList = withP (acc ++ [UInt8.ofNat c]) (un (s.data.toList.drop (k + 2))) by
            rw [hU.out, HST.out, if_neg (by rw [HC0.out hc0]; simp), if_pos (by rw [hd255]; rfl), HC0.out hc0]
            simp [withP, Function.comp_def])
          have HL := Lib.hid hlen
          clear hc hd hlen hc0 hd255
          go_wp2
          go_roundw
          case rel => exact ⟨k + 2, acc ++ [UInt8.ofNat c], by omega, by rw [HL.out]; omega, by go_num, hown2, HU2.out, hbn⟩
          case measure => simp [intOf]; omega
        · have hdB : ((s[k + 1].toNat : Int) == 255) = false := by rw [← hd, beq_eq_false_iff_ne]; omega
          by_cases hd1 : d = 1
          · have hdB1 : ((s[k + 1].toNat : Int) == 1) = true := by rw [← hd, hd1]; rfl
            have HU2 := Lib.hid (show un s.data.toList = some (acc, s.data.toList.drop (k + 2)) by
              rw [hU.out, HST.out, if_neg (by rw [HC0.out hc0]; simp), if_neg (HD255.out hd255), if_pos (by rw [hd1]; rfl)]
              simp [withP])
            obtain ⟨g, cap, rfl, hcap, hrow⟩ := own_row hown2 (by simp)
            rw [hlen] at hcap
            have hrow2 : RowAt wn g acc := by
              have := hrow.take acc.length
              rwa [List.take_left' rfl] at this
            have hcv := conv_row wn g acc acc.length cap rfl hrow2
            have hcv2 := conv_row wn.drew g acc acc.length cap rfl hrow2.drew
            have hl1 : IntKind.i64.wrap ((acc.length : Int) + 1 - 1) = (acc.length : Int) := by rw [show (acc.length : Int) + 1 - 1 = (acc.length : Int) by omega]; exact IntWalk.i64_in _ (by omega)
            have hk4 : IntKind.i64.wrap ((k : Int) + 2) = (k : Int) + 2 := IntWalk.i64_in _ (by omega)
            have hk5 : ((k : Int) + 2).toNat = k + 2 := by omega
            have hk6 : (0 : Int) ≤ (k : Int) + 2 := by omega
            have hk7 : k + 2 ≤ s.size := by omega
            have hk8 : (k : Int) + 2 ≤ (s.size : Int) := by omega
            have hl2 : IntKind.i64.wrap (acc.length : Int) = (acc.length : Int) := IntWalk.i64_in _ (by omega)
            have hl3 : acc.length ≤ cap := by omega
            have hl4 : (0 : Int) ≤ (acc.length : Int) := by omega
            have hl5 : (acc.length : Int) ≤ (cap : Int) := by omega
            have hl6 : acc.length ≤ acc.length + 1 := by omega
            have hn2 : decide ((k : Int) + 2 < 0) = false := by rw [decide_eq_false_iff_not]; omega
            have hn3 : decide (s.size < k + 2) = false := by rw [decide_eq_false_iff_not]; omega
            simp only [hlen]
            clear hc hd hc0 hd255 hd1 hown2 hrow hrow2 hlen
            go_wp2
            go_region_held3 (fun w' => (convert 71 9 (.slice (some ⟨g, 0, none⟩) acc.length cap)).run Tryd.prog w' = .ok (.string (bs acc)) w') (first | exact hcv2) (first | fail)
            all_goals
              go_wp2
              rw [Exit.noGoto_ret]
              go_ret3
              rw [HU2.out]
              refine ⟨?_, below_drew hbn⟩
              rw [str_drop]
              rfl
          · have hdB1 : ((s[k + 1].toNat : Int) == 1) = false := by rw [← hd, beq_eq_false_iff_ne]; omega
            have HU2 := Lib.hid (show un s.data.toList = none by
              rw [hU.out, HST.out, if_neg (by rw [HC0.out hc0]; simp), if_neg (HD255.out hd255), if_neg (HD1.out hd1)]
              rfl)
            clear hc hd hlen hc0 hd255 hd1
            go_wp2
            rw [Exit.noGoto_ret]
            go_ret3
            rw [HU2.out]
            exact ⟨rfl, hbn⟩
      · have hcB : ((s[k].toNat : Int) == 0) = false := by rw [← hc, beq_eq_false_iff_ne]; omega
        have HU2 := Lib.hid (show un s.data.toList = withP (acc ++ [UInt8.ofNat c]) (un (s.data.toList.drop (k + 1))) by
          rw [hU.out, HST.out, if_pos (HC1.out hc0)]
          simp [withP, Function.comp_def])
        have HL := Lib.hid hlen
        clear hc hd hlen hc0
        go_wp2
        go_roundw
        case rel => exact ⟨k + 1, acc ++ [UInt8.ofNat c], by omega, by rw [HL.out]; omega, by go_num, hown2, HU2.out, hbn⟩
        case measure => simp [intOf]; omega
    · have HE := Lib.hid (un_end s.data.toList k (by rw [size_list]; omega))
      go_wp2
      rw [Exit.noGoto_ret]
      go_ret3
      refine ⟨?_, hb⟩
      rw [hU.out, HE.out]
      rfl

end Go.Proofs.YtaeiahkomdpcoaaDoor.Name
end
