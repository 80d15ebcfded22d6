/- The walks of hoardlaw14's heavy and own. -/
import Derived.Test.YtaeiahkomdpcoaaCellU
import Derived.Deep.AppendSrc
import Derived.Deep.Upon
namespace Go.Proofs.Ytaeiahkomdpcoaa.Cell
open Go.RowKit Go.Proofs.Ytaeiahkomdpcoaa.Num Go.Proofs.Ytaeiahkomdpcoaa.Wire

def HeavyR (n : Nat) (e : Ending) : Prop := ∃ b, e = .returned (.bool b) ∧ (b = false → n ≤ 600)
set_option maxHeartbeats 1600000 in
set_option maxRecDepth 100000 in
theorem heavy_calls (c : Cel) (A : Option Addr) (cp : Nat) (w : World) : Calls Try.prog 23 #[.agg (cvs c A cp)] w fun e w' => HeavyR c.body.pcs.length e ∧ Below w.heap.size w w' := by
  have b0 := below_one w (.cells (cvs c A cp) 50)
  obtain ⟨ck, cn, cg, cm, ⟨cl, ci, cps⟩⟩ := c
  unfold cvs at b0 ⊢
  simp only at b0 ⊢
  by_cases h1 : 4096 < IntKind.i64.wrap ((cm.size : Int) + (ci.size : Int))
  · have h1' : decide (4096 < IntKind.i64.wrap ((cm.size : Int) + (ci.size : Int))) = true := decide_eq_true h1
    obtain ⟨x, hx⟩ : ∃ x, IntKind.i64.wrap ((cm.size : Int) + (ci.size : Int)) = x := ⟨_, rfl⟩
    rw [hx] at h1 h1'
    go_enter Try.func23, Try.ntmps23
    go_wp2_with fail
    go_ret
    exact ⟨⟨true, rfl, fun h => by cases h⟩, b0⟩
  · obtain ⟨x, hx⟩ : ∃ x, IntKind.i64.wrap ((cm.size : Int) + (ci.size : Int)) = x := ⟨_, rfl⟩
    rw [hx] at h1
    have h1' : decide (4096 < x) = false := decide_eq_false h1
    by_cases h2 : 600 < cps.length
    · have h2' : (600 : Int) < (cps.length : Int) := by omega
      go_enter Try.func23, Try.ntmps23
      go_wp2_with fail
      go_ret
      exact ⟨⟨true, by simp, fun h => by cases h⟩, b0⟩
    · have h2' : ¬ (600 : Int) < (cps.length : Int) := by omega
      go_enter Try.func23, Try.ntmps23
      go_wp2_with fail
      go_ret
      exact ⟨⟨false, by simp, fun _ => by omega⟩, b0⟩

theorem pcCells_at {w : World} {ad : Addr} {ps : List Piece} (h : PcsAt w (some ad) ps) (j : Nat) (u : Value) (hu : (pcCells ps)[j]? = some u) : w.cell? (ad.add j) = some u := by
  have hj : j < ps.length * 3 := by
    rw [← pcCells_len]; exact (List.getElem?_eq_some_iff.1 hu).1
  have hi : j / 3 < ps.length := by omega
  have hp : ps[j / 3]? = some ps[j / 3] := List.getElem?_eq_getElem hi
  obtain ⟨ad', h0, _, h2, h3, h4⟩ := h _ _ hp
  cases h0
  obtain ⟨g0, g1, g2⟩ := pcCells_get ps _ _ hp
  have hm : j = j / 3 * 3 ∨ j = j / 3 * 3 + 1 ∨ j = j / 3 * 3 + 2 := by omega
  rcases hm with e | e | e
  · rw [e] at hu ⊢; rw [h2, ← g0, hu]
  · rw [e] at hu ⊢; rw [h3, ← g1, hu]
  · rw [e] at hu ⊢; rw [h4, ← g2, hu]
theorem pcCells_one (ps : List Piece) : ∀ u ∈ pcCells ps, u.oneCell' = true := fun u hu => by
  unfold pcCells at hu
  obtain ⟨p, _, hp⟩ := List.mem_flatMap.1 hu
  simp at hp
  rcases hp with rfl | rfl | rfl <;> rfl

/-- 'append([]Piece(nil), ps...)': the same pieces, in a block of the call's own, or nil. -/
theorem run_copy (A : Option Addr) (c : Nat) (ps : List Piece) (w : World) (hI : PcsAt w A ps) (hn : ps.length ≤ 65536) :
    ∃ A' c' w', (Builtin.append_ #[46, 46] 46 #[.slice none 0 0, .slice A ps.length c]).run Try.prog w = .ok (.slice A' ps.length c') w' ∧ PcsAt w' A' ps ∧ (∀ ad, A' = some ad → w.heap.size ≤ ad.block) ∧ Below w.heap.size w w' := by
  obtain ⟨i0, hi, hz0, hz1, hz2⟩ := info_parts infoPiece
  cases A with
  | none =>
    have hl : ps = [] := by
      cases ps with
      | nil => rfl
      | cons x l => obtain ⟨ad, h, _⟩ := hI 0 x rfl; cases h
    subst hl
    exact ⟨none, 0, w, run_append_nothing w _ _ _ 75 i0 Try.underlying46 hi none 0 0 (Nat.le_refl _) _ (Src.ofNil w Try.underlying46 c), PcsAt.nil _ _, (fun ad h => by cases h), Below.refl _ _⟩
  | some ad =>
    obtain ⟨v', w', hr, hown, hg, _⟩ := run_append_own (P := Try.prog) w w.heap.size 46 46 75 i0 (.agg #[.int .i64 0, .int .u64 0, .int .i64 0]) 3 24 Try.underlying46 hi hz0 hz1 hz2 rfl (by decide) (.slice none 0 0) 0 [] (World.ownsRow_nil _ _ _ _) ad ps.length c (pcCells ps) (pcCells_len ps) (fun j u hu => pcCells_at hI j u hu) (pcCells_one ps) (by unfold maxLen; omega) (by omega) (Nat.le_refl _)
    rw [Nat.zero_add, List.nil_append] at hown
    obtain ⟨A', c', rfl, hI', hA'⟩ := pcs_of_own hown
    exact ⟨A', c', w', hr, hI', hA', ⟨hg.os, hg.tape, hg.output, hg.size, fun k hk => hg.block k hk (by simp [Value.ownBlock])⟩⟩
section
variable {w : World} {o : Oper} {a : Act} {A : Option Addr} {c : Nat} {ps : List Piece}
theorem wp_copy {K : Act → World → Prop} {Q : Exit → Act → World → Prop} (x : Operand) (ho : o.op = .call { callee := .builtin .append, args := #[.const (.slice none 0 0), x], argTypes := #[46, 46] }) (hty : o.type = 46)
    (hx : a.eval x = .slice A ps.length c) (hI : PcsAt w A ps) (hn : ps.length ≤ 65536)
    (h : ∀ A' c' w', PcsAt w' A' ps → (∀ ad, A' = some ad → w.heap.size ≤ ad.block) → Below w.heap.size w w' → K (a.put o.dst (.slice A' ps.length c')) w') : o.wp Try.prog a w K Q := by
  obtain ⟨A', c', w', hr, h2, h3, h4⟩ := run_copy A c ps w hI hn
  unfold Oper.wp execOp
  simp only [ho, hty, resolve, invoke, builtin, Sem.run_bind, Sem.run_pure, Result.andThen_ok, List.map_toArray, List.map_cons, List.map_nil, hx]
  rw [show a.eval (.const (.slice none 0 0)) = .slice none 0 0 from rfl, hr]
  exact h A' c' w' h2 h3 h4
theorem wpList_copy {ops : Array Oper} {rest : List Oper} {Q : Exit → Act → World → Prop} (hgd : o.guard = none) (x : Operand) (ho : o.op = .call { callee := .builtin .append, args := #[.const (.slice none 0 0), x], argTypes := #[46, 46] }) (hty : o.type = 46)
    (hx : a.eval x = .slice A ps.length c) (hI : PcsAt w A ps) (hn : ps.length ≤ 65536)
    (h : ∀ A' c' w', PcsAt w' A' ps → (∀ ad, A' = some ad → w.heap.size ≤ ad.block) → Below w.heap.size w w' → wpList Try.prog ops Q rest (a.put o.dst (.slice A' ps.length c')) w') : wpList Try.prog ops Q (o :: rest) a w :=
  wpList_plain hgd fun _ hK => wp_copy x ho hty hx hI hn fun A' c' w' h2 h3 h4 => hK _ _ (h A' c' w' h2 h3 h4)
end

set_option maxHeartbeats 1600000 in
set_option maxRecDepth 100000 in
theorem own_calls (c : Cel) (A : Option Addr) (cp : Nat) (w : World) (hP : PcsAt w A c.body.pcs) (hn : c.body.pcs.length ≤ 600) : Calls Try.prog 26 #[.agg (cvs c A cp)] w fun e w' => ∃ A' cp', e = .returned (.agg (cvs c A' cp')) ∧ PcsAt w' A' c.body.pcs ∧ Below w.heap.size w w' := by
  obtain ⟨ck, cn, cg, cm, ⟨cl, ci, cps⟩⟩ := c
  unfold cvs
  simp only at hP hn ⊢
  obtain ⟨R0, R1, b1⟩ := two_rows w #[.int .u8 (ck : Int), .int .u64 (cn : Int), .bool cg, .string cm, .int .i64 cl, .string ci, .slice A cps.length cp] #[.int .u8 0, .int .u64 0, .bool false, .string ⟨#[]⟩, .int .i64 0, .string ⟨#[]⟩, .slice none 0 0]
  have P1 := hP.below b1
  clear hP
  go_enter Try.func26, Try.ntmps26
  go_upto_region 1 with fail
  generalize (w.alloc (.cells #[.int .u8 (ck : Int), .int .u64 (cn : Int), .bool cg, .string cm, .int .i64 cl, .string ci, .slice A cps.length cp] 50)).alloc (.cells #[.int .u8 0, .int .u64 0, .bool false, .string ⟨#[]⟩, .int .i64 0, .string ⟨#[]⟩, .slice none 0 0] 50) = W2 at R0 R1 b1 P1 ⊢
  obtain ⟨p0, p1, p2, p3, p4, p5, p6⟩ := R0.c
  go_upto_region 2 with (at_builtin; refine wpList_copy rfl _ rfl rfl rfl P1 (by omega) ?_; intro A' c' w' hP2 hA hb2; have R0' := R0.below hb2; have R1' := R1.below hb2; have c2 := below_of b1 hb2; obtain ⟨q0, q1, q2, q3, q4, q5, q6⟩ := R0'.c; have f6 := R0'.f 6)
  have R2 : Row _ w.heap.size #[.int .u8 (ck : Int), .int .u64 (cn : Int), .bool cg, .string cm, .int .i64 cl, .string ci, .slice A' cps.length c'] := R0'.set 6 (.slice A' cps.length c')
  have R3 := R1'.other ⟨w.heap.size, 6, none⟩ (by simp only; omega) (.slice A' cps.length c')
  have l1 := R1.lt
  have hbg : w.heap.size ≤ w.heap.size + 1 := by omega
  have c3 := below_set c2 (p := ⟨w.heap.size, 6, none⟩) (Nat.le_refl _) (.slice A' cps.length c')
  have P3 := hP2.other ⟨w.heap.size, 6, none⟩ (fun ad h => by have := hA ad h; simp only; omega) (.slice A' cps.length c')
  have hne : ∀ ad, A' = some ad → ad.block ≠ w.heap.size + 1 := fun ad h => by have := hA ad h; omega
  clear q0 q1 q2 q3 q4 q5 q6 f6 R0' R1' hP2 hA hb2 p0 p1 p2 p3 p4 p5 p6 R0 R1 b1 P1
  generalize w'.setCell ⟨w.heap.size, 6, none⟩ (.slice A' cps.length c') = W3 at R2 R3 c3 P3 ⊢
  obtain ⟨q0, q1, q2, q3, q4, q5, q6⟩ := R2.c
  obtain ⟨z0, z1, z2, z3, z4, z5, z6⟩ := R3.c
  have f0 := R3.f 0
  have f1 := R3.f 1
  have f2 := R3.f 2
  have f3 := R3.f 3
  have f4 := R3.f 4
  have f5 := R3.f 5
  have f6 := R3.f 6
  have hG := R3.setAll (.int .u8 (ck : Int)) (.int .u64 (cn : Int)) (.bool cg) (.string cm) (.int .i64 cl) (.string ci) (.slice A' cps.length c')
  have P4 := ((((((((((((((P3).other ⟨w.heap.size + 1, 0, none⟩ hne (.int .u8 (ck : Int)))).other ⟨w.heap.size + 1, 1, none⟩ hne (.int .u64 (cn : Int)))).other ⟨w.heap.size + 1, 2, none⟩ hne (.bool cg))).other ⟨w.heap.size + 1, 3, none⟩ hne (.string cm))).other ⟨w.heap.size + 1, 4, none⟩ hne (.int .i64 cl))).other ⟨w.heap.size + 1, 5, none⟩ hne (.string ci))).other ⟨w.heap.size + 1, 6, none⟩ hne (.slice A' cps.length c'))

  have HG : Hid (Row _ _ _) := hG
  have HP : Hid (PcsAt _ _ _) := P4
  have HC : Hid (Below _ _ _) := c3
  clear P3 R2 R3 c2 c3 hne hn hG P4
  go_wp2_with fail
  refine bodyPost_ret (results_cell_row rfl _ _ (w.heap.size + 1) 50 _ (0, 0) _ rfl HG.out Try.underlying50 rfl (by kernel_rfl)) rfl ?_
  exact ⟨A', c', rfl, HP.out, below_all HC.out _ hbg _ _ _ _ _ _ _⟩

end Go.Proofs.Ytaeiahkomdpcoaa.Cell
