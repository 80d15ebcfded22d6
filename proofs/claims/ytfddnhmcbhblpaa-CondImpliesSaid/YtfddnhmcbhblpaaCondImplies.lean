/- For any two conditions and any version hoardlaw23.CondImplies returns true: a condition implies another one just where that holds wherever it does. No condition on the input. -/
import Derived.Test.YtfddnhmcbhblpaaCondWalks
import Derived.Test.YtfddnhmcbhblpaaLaw
namespace Go.Proofs.Ytfddnhmcbhblpaa.CondImplies
open Go.RowKit Go.Sort Go.Proofs.Ytfddnhmcbhblpaa.Cond

def base (ka na kb nb : Int) : Bool := (holdsI ka na false 0 != 0) || (holdsI kb nb false 0 == 0)
def pass (ka na kb nb x : Int) : Bool := (holdsI ka na true x != 0) || (holdsI kb nb true x == 0)
def allK (ka na kb nb : Int) (l : List Int) (k : Nat) : Bool := base ka na kb nb && (l.take k).all (pass ka na kb nb)

theorem allK_succ (ka na kb nb : Int) (l : List Int) (k : Nat) (h : k < l.length) : allK ka na kb nb l (k + 1) = (allK ka na kb nb l k && pass ka na kb nb (l.getD k 0)) := by
  unfold allK
  rw [List.take_succ_eq_append_getElem h, List.all_append, Bool.and_assoc]
  simp [List.getD, h]

theorem mayB_iff (k n : Int) : mayB k n = true ↔ (k = 0 ∨ k = 1) ∧ n = 0 ∨ k = 2 ∧ 1 ≤ n ∧ n ≤ 281474976710656 := by unfold mayB; exact decide_eq_true_iff

/-- THE PLAIN LAW. -/
theorem same (ka na kb nb n : Int) (ha : mayB ka na = true) (hb : mayB kb nb = true) : impB ka na kb nb = allK ka na kb nb [n, na, nb, 1, 2, 3] 6 := by
  have hA := (mayB_iff _ _).1 ha
  have hB := (mayB_iff _ _).1 hb
  rw [Bool.eq_iff_iff]
  simp only [impB, allK, base, pass, holdsI, ha, hb, if_true, List.take, List.all_cons, List.all_nil, Bool.and_true, Bool.true_and, Bool.and_eq_true, Bool.or_eq_true, bne_iff_ne, beq_iff_eq, decide_eq_true_eq]
  rcases hA with ⟨rfl | rfl, rfl⟩ | ⟨rfl, h1, h2⟩ <;> rcases hB with ⟨rfl | rfl, rfl⟩ | ⟨rfl, h3, h4⟩ <;> simp <;> omega

/-- The four cells of the two conditions. -/
structure Ab (w : World) (B : Nat) (ka na kb nb : Int) : Prop where
  a0 : w.cell? ⟨B, 0, none⟩ = some (.int .u8 ka)
  a1 : w.cell? ⟨B, 1, none⟩ = some (.int .u64 na)
  b0 : w.cell? ⟨B + 1, 0, none⟩ = some (.int .u8 kb)
  b1 : w.cell? ⟨B + 1, 1, none⟩ = some (.int .u64 nb)
  lt : B + 1 < w.heap.size

theorem Ab.keep {w w' : World} {B : Nat} {ka na kb nb : Int} (h : Ab w B ka na kb nb) (hb : Below w.heap.size w w') : Ab w' B ka na kb nb :=
  ⟨(hb.cell (p := ⟨B, 0, none⟩) (Nat.lt_trans (Nat.lt_succ_self _) h.lt)).trans h.a0, (hb.cell (p := ⟨B, 1, none⟩) (Nat.lt_trans (Nat.lt_succ_self _) h.lt)).trans h.a1, (hb.cell (p := ⟨B + 1, 0, none⟩) h.lt).trans h.b0, (hb.cell (p := ⟨B + 1, 1, none⟩) h.lt).trans h.b1, Nat.lt_of_lt_of_le h.lt hb.size⟩

theorem Ab.start (w : World) (ka na kb nb : Int) (t : TypeId) : Ab ((w.alloc (.cells #[.int .u8 ka, .int .u64 na] t)).alloc (.cells #[.int .u8 kb, .int .u64 nb] t)) w.heap.size ka na kb nb := by
  refine ⟨?_, ?_, ?_, ?_, by simp⟩
  · rw [World.cell?_alloc_past _ _ _ (by simp), World.cell?_alloc_new]; rfl
  · rw [World.cell?_alloc_past _ _ _ (by simp), World.cell?_alloc_new]; rfl
  · simp
  · simp

set_option maxHeartbeats 4000000 in
set_option maxRecDepth 100000 in
theorem walk_no (ka na kb nb n : Int) (w : World) (h0 : 0 ≤ ka) (hn : 0 ≤ na) (h0' : 0 ≤ kb) (hn' : 0 ≤ nb) (hno : mayB ka na = false ∨ (mayB ka na = true ∧ mayB kb nb = false)) :
    Calls Try.prog 4 #[.agg #[.int .u8 ka, .int .u64 na], .agg #[.int .u8 kb, .int .u64 nb], .int .u64 n] w fun e w' => e = .returned (.bool true) ∧ Below w.heap.size w w' := by
  have hi : impB ka na kb nb = false := by unfold impB; rcases hno with h | ⟨h, h'⟩ <;> simp [*]
  rcases hno with hm | ⟨hm, hm'⟩
  all_goals go_enter Try.func4, Try.ntmps4
  all_goals go_wp2_with fail
  all_goals (refine (implies_calls _ _ _ _ _ h0 hn h0' hn').mono ?_; rintro e w1 ⟨rfl, hb1⟩; have A1 := (Ab.start w ka na kb nb 24).keep hb1; obtain ⟨ca0, ca1, cb0, cb1, _⟩ := A1)
  all_goals go_wp2_with fail
  all_goals (refine (may_calls _ _ _ h0 hn).mono ?_; rintro e w2 ⟨rfl, hb2⟩; have A2 := ((Ab.start w ka na kb nb 24).keep hb1).keep hb2; obtain ⟨da0, da1, db0, db1, _⟩ := A2)
  all_goals go_wp2_with (first
    | (go_at_call 11; refine (may_calls _ _ _ h0' hn').mono ?_; rintro e w3 ⟨rfl, hb3⟩)
    | (go_at_call 15; refine (works_calls _).mono ?_; rintro e w4 ⟨rfl, hb4⟩))
  all_goals go_ret
  all_goals refine ⟨rfl, ?_⟩
  all_goals repeat (first | exact Below.refl _ _ | apply below_alloc | refine below_of ?_ (by assumption))

theorem cells6 (w3 w4 : World) (n na nb : Int) (L : List Int) (hL : L = [n, na, nb, 1, 2, 3]) (t : TypeId)
    (hb : Below (w3.alloc (.cells #[.int .u64 n, .int .u64 na, .int .u64 nb, .int .u64 1, .int .u64 2, .int .u64 3] t)).heap.size (w3.alloc (.cells #[.int .u64 n, .int .u64 na, .int .u64 nb, .int .u64 1, .int .u64 2, .int .u64 3] t)) w4) (k : Nat) (hk : k < 6) :
    w4.cell? ⟨w3.heap.size, k, none⟩ = some (.int .u64 (L.getD k 0)) := by
  rw [hb.cell (p := ⟨w3.heap.size, k, none⟩) (by simp), World.cell?_alloc_new, hL]
  match k, hk with
  | 0, _ | 1, _ | 2, _ | 3, _ | 4, _ | 5, _ => rfl

set_option maxHeartbeats 4000000 in
set_option maxRecDepth 100000 in
theorem walk_yes (ka na kb nb n : Int) (w : World) (h0 : 0 ≤ ka) (hn : 0 ≤ na) (h0' : 0 ≤ kb) (hn' : 0 ≤ nb) (hm : mayB ka na = true) (hm' : mayB kb nb = true)
    (hc : (holdsI ka na false 0 != 0) = true ∨ ((holdsI ka na false 0 != 0) = false ∧ ((holdsI kb nb false 0 == 0) = true ∨ (holdsI kb nb false 0 == 0) = false))) :
    Calls Try.prog 4 #[.agg #[.int .u8 ka, .int .u64 na], .agg #[.int .u8 kb, .int .u64 nb], .int .u64 n] w fun e w' => e = .returned (.bool true) ∧ Below w.heap.size w w' := by
  have hi := same ka na kb nb n hm hm'
  obtain ⟨L, hL⟩ : ∃ L : List Int, L = [n, na, nb, 1, 2, 3] := ⟨_, rfl⟩
  rw [← hL] at hi
  have HL := Lib.hid hL
  clear hL
  rcases hc with hA | ⟨hA, hB | hB⟩
  all_goals go_enter Try.func4, Try.ntmps4
  all_goals go_wp2_with fail
  all_goals (refine (implies_calls _ _ _ _ _ h0 hn h0' hn').mono ?_; rintro e w1 ⟨rfl, hb1⟩; have A1 := (Ab.start w ka na kb nb 24).keep hb1; obtain ⟨ca0, ca1, cb0, cb1, _⟩ := A1)
  all_goals go_wp2_with fail
  all_goals (refine (may_calls _ _ _ h0 hn).mono ?_; rintro e w2 ⟨rfl, hb2⟩; have A2 := ((Ab.start w ka na kb nb 24).keep hb1).keep hb2; obtain ⟨da0, da1, db0, db1, _⟩ := A2)
  all_goals go_wp2_with fail
  all_goals (refine (may_calls _ _ _ h0' hn').mono ?_; rintro e w3 ⟨rfl, hb3⟩; have A3 := (((Ab.start w ka na kb nb 24).keep hb1).keep hb2).keep hb3; obtain ⟨ea0, ea1, eb0, eb1, elt⟩ := A3)
  all_goals clear ca0 ca1 cb0 cb1 da0 da1 db0 db1
  all_goals (have hz0 : w.heap.size < w3.heap.size := (by omega); have hz1 : w.heap.size + 1 < w3.heap.size := (by omega))
  all_goals go_wp2_with fail
  all_goals (refine (holds_calls _ _ _ _ _ h0 hn).mono ?_; rintro e w4 ⟨rfl, hb4⟩; have A4 := ((((Ab.start w ka na kb nb 24).keep hb1).keep hb2).keep hb3).keep (below_one w3 _) |>.keep hb4; obtain ⟨ca0, ca1, cb0, cb1, clt⟩ := A4)
  all_goals go_wp2_with (go_at_call 13; refine (holds_calls _ _ _ _ _ h0' hn').mono ?_; rintro e w5 ⟨rfl, hb5⟩)
  all_goals have HC := Lib.hid (cells6 w3 w4 n na nb L HL.out _ hb4)
  all_goals (
    go_loopw [9, 10] (fun al i wr => ∃ (k : Nat) (b : Bool), k ≤ 6 ∧ i = .int .i64 k ∧ al = .bool b ∧ Hid (allK ka na kb nb L k = b) ∧ Below w4.heap.size w4 wr) (fun _ i _ => 6 - (intOf i).toNat)
    case atStart => exact ⟨0, _, by omega, rfl, rfl, by show allK ka na kb nb L 0 = _; (first | (simp [allK, base, hA]; done) | (simp [allK, base, hA, hB]; done)), by first | exact Below.refl _ _ | assumption⟩
    case round =>
      obtain ⟨k, b, hk, rfl, rfl, hall, hbr⟩ := hrel
      by_cases hlt : k < 6
      · obtain ⟨x, hx⟩ : ∃ x, x = L.getD k 0 := ⟨_, rfl⟩
        have hsu := Lib.hid (allK_succ ka na kb nb L k (by rw [HL.out]; exact hlt))
        have cx : wr.cell? ⟨w3.heap.size, k, none⟩ = some (.int .u64 x) := by
          rw [hbr.cell (p := ⟨w3.heap.size, k, none⟩) (Nat.lt_of_lt_of_le (by simp) hb4.size), HC.out k hlt, hx]
        have HX := Lib.hid hx
        clear hx
        have Ar := ((((((Ab.start w ka na kb nb 24).keep hb1).keep hb2).keep hb3).keep (below_one w3 _)).keep hb4).keep hbr
        have q0 := cell_regrown Ar.a0
        have q1 := cell_regrown Ar.a1
        have q2 := cell_regrown Ar.b0
        have q3 := cell_regrown Ar.b1
        have q4 := cell_regrown cx
        clear Ar cx ca0 ca1 cb0 cb1
        have hi0 : (0 : Int) ≤ k := by omega
        rcases (show b = false ∨ (b = true ∧ (holdsI ka na true x != 0) = true) ∨ (b = true ∧ (holdsI ka na true x != 0) = false ∧ (holdsI kb nb true x == 0) = true) ∨ (b = true ∧ (holdsI ka na true x != 0) = false ∧ (holdsI kb nb true x == 0) = false) from by
          cases b <;> cases (holdsI ka na true x != 0) <;> cases (holdsI kb nb true x == 0) <;> simp) with rfl | ⟨rfl, pA⟩ | ⟨rfl, pA, pB⟩ | ⟨rfl, pA, pB⟩
        all_goals (
          go_wp2_with fail
          refine wp_region_quiet_below (by kernel_rfl) (by kernel_rfl) ?_
          repeat (go_big_quiet_step ((go_at_call 13; exact Calls.regrown_of (holds_calls _ _ _ _ _ (by assumption) (by assumption)))))
          refine wpQuiet_nil ?_
          intro _ hw'
          obtain ⟨⟨dq, osq⟩, hw''⟩ := hw'
          subst hw''
          go_wp2
          go_roundw
          case rel => exact ⟨k + 1, _, by omega, by go_num, rfl, by show allK ka na kb nb L (k + 1) = _; rw [hsu.out, hall.out, ← HX.out]; simp [pass, *], below_of hbr (below_regrown _ dq osq)⟩
          case measure => simp [intOf]; omega)
      · obtain rfl : k = 6 := by omega
        have h6 := hall.out
        clear hall
        cases b
        all_goals (
          go_wp2_with (go_at_call 15; refine (works_calls _).mono ?_; rintro e w6 ⟨rfl, hb6⟩)
          go_ret
          refine ⟨rfl, ?_⟩
          repeat (first | exact Below.refl _ _ | apply below_alloc | refine below_of ?_ (by assumption))))

theorem walk (ka na kb nb n : Int) (w : World) (h0 : 0 ≤ ka) (hn : 0 ≤ na) (h0' : 0 ≤ kb) (hn' : 0 ≤ nb) :
    Calls Try.prog 4 #[.agg #[.int .u8 ka, .int .u64 na], .agg #[.int .u8 kb, .int .u64 nb], .int .u64 n] w fun e w' => e = .returned (.bool true) ∧ Below w.heap.size w w' := by
  cases hm : mayB ka na
  · exact walk_no ka na kb nb n w h0 hn h0' hn' (Or.inl hm)
  · cases hm' : mayB kb nb
    · exact walk_no ka na kb nb n w h0 hn h0' hn' (Or.inr ⟨hm, hm'⟩)
    · refine walk_yes ka na kb nb n w h0 hn h0' hn' hm hm' ?_
      cases (holdsI ka na false 0 != 0)
      · cases (holdsI kb nb false 0 == 0) <;> simp
      · simp

open Go.ChangeShapes Go.WideShapes Go.ChangeAt Go.Joins
open Go.ChangeMaps (open_string)

set_option maxRecDepth 100000 in
theorem lifted (os : Os) (started : os.Started) (H : Type) (enc : TypeId × Value → H) :
    ReturnsInHanded {} Try.checked os 4 .any (Rows.condImpliesSpec.pre6 enc Try.prog Try.f4 Rows.condImpliesRow.domain false) (Rows.condImpliesSpec.post enc Try.prog Try.f4 false true false false) := by
  refine returnsInHanded_of_change (C := Try.checked) own started (by kernel_rfl) Try.func4
    (ChangeSpec.witness6 (enc := enc) (C := Try.checked) false ⟨#[], #[.agg #[.int .u8 0, .int .u64 0], .agg #[.int .u8 0, .int .u64 0], .int .u64 0], []⟩ 8 (by kernel_rfl) (by kernel_rfl) (by kernel_rfl) (by kernel_rfl)) ?_
  intro W base args ds gs before hval0 hW hcnd _
  have hval : ∀ (j : Nat) t v, Try.f4.params[j]? = some t → args[j]? = some v → Value.okWide Try.prog W .any base t v := hval0
  have hW' := hW
  obtain ⟨p, q, hA0, hV, rfl, _, _⟩ := hW'
  have hA : DataW.TrodAll enc Try.prog W 0 (fun _ => true) true Try.f4.params.toList args.toList ds p := hA0
  rw [Try.params4] at hA hval
  obtain ⟨v0, v1, v2, d0, d1, d2, p0, p1, p2, rfl, rfl, rfl, h0, h1, h2⟩ := trodAll_three hA
  obtain ⟨rfl, rfl⟩ := trodVars_none hV
  obtain ⟨c00, c01, y00, y01, m0, rfl, rfl, rfl, hy00, hy01⟩ := open_agg2 Try.underlying24 (by kernel_rfl) (by kernel_rfl) (hval 0 24 v0 rfl rfl) h0
  obtain ⟨k0, e00, rfl, wk0⟩ := DataW.trod_int Try.underlying5 hy00
  obtain ⟨n0, e01, rfl, wn0⟩ := DataW.trod_int Try.underlying22 hy01
  simp at e00 e01
  subst e00 e01
  obtain ⟨c10, c11, y10, y11, m1, rfl, rfl, rfl, hy10, hy11⟩ := open_agg2 Try.underlying24 (by kernel_rfl) (by kernel_rfl) (hval 1 24 v1 rfl rfl) h1
  obtain ⟨k1, e10, rfl, wk1⟩ := DataW.trod_int Try.underlying5 hy10
  obtain ⟨n1, e11, rfl, wn1⟩ := DataW.trod_int Try.underlying22 hy11
  simp at e10 e11
  subst e10 e11
  obtain ⟨a2, rfl, rfl, rfl, wf2⟩ := open_int Try.underlying22 (hval 2 22 v2 rfl rfl) h2
  refine (walk k0 n0 k1 n1 a2 W (bounds_u8 wk0).1 (bounds_u64 wn0).1 (bounds_u8 wk1).1 (bounds_u64 wn1).1).mono fun e W' ⟨he, hb⟩ => ⟨_, he, ?_⟩
  exact law_post (tb := 4) hW hb laidOut (by kernel_rfl) (by kernel_rfl) Try.underlying4 rfl rfl

theorem proved : Rows.CondImpliesSaid :=
  OpenClaim.holds_of_wide 4 Try.f4 rfl rfl rfl rfl rfl rfl rfl ⟨rfl, rfl, rfl, rfl, rfl⟩ rfl rfl rfl rfl rfl (by kernel_rfl) Try.func4 (by kernel_rfl)
    (of_decide_eq_true (by kernel_rfl)) (by unfold Func.isWrapper; first | (rw [if_pos (by decide +kernel)]; kernel_rfl) | (rw [if_neg (by decide +kernel)]; exact ⟨rfl, rfl⟩))
    (fun os started H enc _ => lifted os started H enc)

#print axioms proved

end Go.Proofs.Ytfddnhmcbhblpaa.CondImplies
