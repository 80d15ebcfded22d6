/- Texts merged into one: part 1 of 12. -/
import Derived.Test.YtaeiahkomdpcoaaDoorChecked
import Derived.WalkKit
import Derived.WalkLawsBesides
import Derived.WalkSpells
import Derived.Lib.QuietBelow
import Derived.BigQuiet
import Derived.Lib.Hide
import Derived.Lib.SlBytesRow
import Derived.Lib.ConvBytes
import Derived.Shelf.Strings.Builder1
import Derived.Shelf.Strings.BuilderF
import Derived.Shelf.Strings.BuilderK
import Derived.Test.YtaeiahkomdpcoaaDoorProg
import Derived.Test.YtaeiahkomdpcoaaDoorRows
import Derived.ProofKit
import Derived.OpenShut
import Derived.Carry
import Derived.Lib.SmallJoins
import Derived.ChangeSame
import Derived.ChangeSlices
import Derived.SliceStrings
import Derived.Deep.LoopGhost
import Derived.Deep.Light

section
/- Small helpers for the walks of this seat: worlds that keep what was there, results, closing lines. -/
namespace Go.Proofs.YtaeiahkomdpcoaaDoor
open Go.RowKit

theorem below_one (w : World) (o : Obj) : Below w.heap.size w (w.alloc o) := (Below.refl _ _).alloc (Nat.le_refl _) _

theorem bcell {W w1 : World} (hb : Below W.heap.size W w1) : (∀ b o, b < W.heap.size → w1.cell? ⟨b, o, none⟩ = W.cell? ⟨b, o, none⟩) ∧ (∀ b o, b < W.heap.size → w1.frozen? ⟨b, o, none⟩ = W.frozen? ⟨b, o, none⟩) :=
  ⟨fun b o h => hb.cell (p := ⟨b, o, none⟩) h, fun b o h => hb.frozen (p := ⟨b, o, none⟩) h⟩

/-- From a world with more blocks back to the first. -/
theorem below_of {w w0 w1 : World} (h0 : Below w.heap.size w w0) (h1 : Below w0.heap.size w0 w1) : Below w.heap.size w w1 :=
  h0.trans (h1.mono h0.size)

theorem below_alloc {w wx : World} (h : Below w.heap.size w wx) (o : Obj) : Below w.heap.size w (wx.alloc o) := h.alloc h.size o
theorem below_drew {w wx : World} (h : Below w.heap.size w wx) : Below w.heap.size w wx.drew := h.drew
theorem below_drewN {w wx : World} (h : Below w.heap.size w wx) (n : Nat) : Below w.heap.size w (wx.drewN n) := ⟨h.os, h.tape, h.output, h.size, h.block⟩
theorem below_set {w wx : World} (h : Below w.heap.size w wx) {p : Addr} (hp : w.heap.size ≤ p.block) (u : Value) : Below w.heap.size w (wx.setCell p u) := h.setCell hp u

theorem ret_bool {a b : Bool} (h : a = b) : Ending.returned (.bool a) = .returned (.bool b) := by rw [h]
theorem ret_int {k : IntKind} {a b : Int} (h : a = b) : Ending.returned (.int k a) = .returned (.int k b) := by rw [h]
theorem ret_str {a b : ByteArray} (h : a = b) : Ending.returned (.string a) = .returned (.string b) := by rw [h]

end Go.Proofs.YtaeiahkomdpcoaaDoor
end

section
/- (*strings.Builder).String at this translation, laid by the kit's own tools (lay-shelf, lay-plain). -/
namespace Go.Proofs
open Go.Shelf
def Tryd.lays169_ren : Go.Shelf.Ren := ⟨fun | 169 => 88 | n => n, fun | 70 => 121 | 9 => 9 | 0 => 0 | 72 => 123 | 37 => 71 | 127 => 147 | 3 => 3 | 5 => 5 | n => n, fun | n => n⟩
theorem Tryd.lays169 : Go.Proofs.Lays.n169 Tryd.prog Tryd.lays169_ren := {
  mixed := by kernel_rfl
  f169 := Tryd.func88.trans (congrArg some (by kernel_rfl))
  t0 := Tryd.underlying0
  a0 := Tryd.isAgg0
  z0 := Tryd.sizeOf0
  v0 := Tryd.zeroValue0
  t3 := Tryd.underlying3
  a3 := Tryd.isAgg3
  z3 := Tryd.sizeOf3
  v3 := Tryd.zeroValue3
  t9 := Tryd.underlying9
  a9 := Tryd.isAgg9
  z9 := Tryd.sizeOf9
  v9 := Tryd.zeroValue9
  t37 := Tryd.underlying71
  a37 := Tryd.isAgg71
  z37 := Tryd.sizeOf71
  v37 := Tryd.zeroValue71
  t70 := Tryd.underlying121
  a70 := Tryd.isAgg121
  z70 := Tryd.sizeOf121
  v70 := Tryd.zeroValue121
  t72 := Tryd.underlying123
  a72 := Tryd.isAgg123
  z72 := Tryd.sizeOf123
  v72 := Tryd.zeroValue123
  t127 := Tryd.underlying147
  a127 := Tryd.isAgg147
  z127 := Tryd.sizeOf147
  v127 := Tryd.zeroValue147 }
theorem Tryd.Builder_Extra_169 : Builder.Extra Tryd.prog Tryd.lays169_ren := {
  sizeBuilder := by kernel_rfl
  liesBuilder := by kernel_rfl
  t5 := Tryd.underlying5
  a5 := Tryd.isAgg5
  z5 := Tryd.sizeOf5
  v5 := Tryd.zeroValue5
  infoByte := by kernel_rfl
  cellsByte := by kernel_rfl
  sizeByte := by kernel_rfl
  neB5 := by decide }
open Go.RowKit in
/-- (*strings.Builder).String: "String returns the accumulated string.": OF A BUILDER THAT HOLDS AT LEAST ONE BYTE. THE MODEL FREEZES THOSE BYTES IN THE BUFFER (unsafe.String): a later write INTO them ends the model's run without an answer; a later append BEHIND them goes on. The statement's order of evaluation is drawn: one draw. (LAID: no walk: one application.) -/
theorem Tryd.Builder_String (B b : Nat) (l : List UInt8) (w : World) (h : Lib.IsBuilder 123 5 B b (Lib.byteCells l) w) (h0 : l ≠ []) :
    Calls Tryd.prog 88 #[.pointer (some ⟨b, 0, none⟩)] w fun e w' => e = .returned (.string ⟨l.toArray⟩) ∧ Below B w w' := Any.Builder_String Tryd.lays169 Tryd.Builder_Extra_169 B b l w h h0
open Go.RowKit in
/-- (*strings.Builder).String OF A BUILDER THAT HOLDS NO BYTE: the empty string. (Its buffer is nil, or a row of which it has taken nothing yet; where that row has NO capacity the model lays one new block for unsafe.SliceData's 'some address'.) One draw. (LAID: no walk: one application.) -/
theorem Tryd.Builder_String_empty (B b : Nat) (w : World) (h : Lib.IsBuilder 123 5 B b [] w) (hBw : B ≤ w.heap.size) :
    Calls Tryd.prog 88 #[.pointer (some ⟨b, 0, none⟩)] w fun e w' => e = .returned (.string ⟨#[]⟩) ∧ Below B w w' := Any.Builder_String_empty Tryd.lays169 Tryd.Builder_Extra_169 B b w h hBw
open Go.RowKit in
/-- (*strings.Builder).String: "String returns the accumulated string.": WHATEVER THE BUILDER HOLDS. (LAID: no walk: one application.) -/
theorem Tryd.Builder_String_any (B b : Nat) (l : List UInt8) (w : World) (h : Lib.IsBuilder 123 5 B b (Lib.byteCells l) w) (hBw : B ≤ w.heap.size) :
    Calls Tryd.prog 88 #[.pointer (some ⟨b, 0, none⟩)] w fun e w' => e = .returned (.string ⟨l.toArray⟩) ∧ Below B w w' := Any.Builder_String_any Tryd.lays169 Tryd.Builder_Extra_169 B b l w h hBw
open Go.RowKit in
/-- (*strings.Builder).String: "String returns the accumulated string.": OF A BUILDER THAT HOLDS AT LEAST ONE BYTE. THE MODEL FREEZES THOSE BYTES IN THE BUFFER (unsafe.String): a later write INTO them ends the model's run without an answer; a later append BEHIND them goes on. The statement's order of evaluation is drawn: one draw. THE FORM '_f': IT SAYS BESIDES THAT THE BUILDER IS A BUILDER STILL ('Lib.IsBuilderF', the same bytes): SO IT CAN BE WRITTEN ON: 'b.WriteString(b.String()[:k])'. (LAID: no walk: one application.) -/
theorem Tryd.Builder_String_f (B b : Nat) (l : List UInt8) (w : World) (h : Lib.IsBuilderF 123 5 B b (Lib.byteCells l) w) (h0 : l ≠ []) :
    Calls Tryd.prog 88 #[.pointer (some ⟨b, 0, none⟩)] w fun e w' => e = .returned (.string ⟨l.toArray⟩) ∧ (Lib.IsBuilderF 123 5 B b (Lib.byteCells l) w' ∧ Below B w w') := Any.Builder_String_f Tryd.lays169 Tryd.Builder_Extra_169 B b l w h h0
open Go.RowKit in
/-- (*strings.Builder).String OF A BUILDER THAT HOLDS NO BYTE: the empty string; THE FORM '_f': a builder still. (LAID: no walk: one application.) -/
theorem Tryd.Builder_String_empty_f (B b : Nat) (w : World) (h : Lib.IsBuilderF 123 5 B b [] w) (hBw : B ≤ w.heap.size) :
    Calls Tryd.prog 88 #[.pointer (some ⟨b, 0, none⟩)] w fun e w' => e = .returned (.string ⟨#[]⟩) ∧ (Lib.IsBuilderF 123 5 B b [] w' ∧ Below B w w') := Any.Builder_String_empty_f Tryd.lays169 Tryd.Builder_Extra_169 B b w h hBw
open Go.RowKit in
/-- (*strings.Builder).String: "String returns the accumulated string.": WHATEVER THE BUILDER HOLDS; THE FORM '_f': OF A BUILDER THAT MAY HAVE BEEN READ BEFORE; AND IT IS A BUILDER STILL, holding the same bytes: it can be written on. (LAID: no walk: one application.) -/
theorem Tryd.Builder_String_any_f (B b : Nat) (l : List UInt8) (w : World) (h : Lib.IsBuilderF 123 5 B b (Lib.byteCells l) w) (hBw : B ≤ w.heap.size) :
    Calls Tryd.prog 88 #[.pointer (some ⟨b, 0, none⟩)] w fun e w' => e = .returned (.string ⟨l.toArray⟩) ∧ (Lib.IsBuilderF 123 5 B b (Lib.byteCells l) w' ∧ Below B w w') := Any.Builder_String_any_f Tryd.lays169 Tryd.Builder_Extra_169 B b l w h hBw
open Go.RowKit in
/-- (*strings.Builder).String: "String returns the accumulated string.": OF A BUILDER THAT HOLDS AT LEAST ONE BYTE. THE MODEL FREEZES THOSE BYTES IN THE BUFFER (unsafe.String): a later write INTO them ends the model's run without an answer; a later append BEHIND them goes on. The statement's order of evaluation is drawn: one draw. THE FORM '_k': OVER 'Lib.IsBuilderF' (a builder that 'String()' may have read), AND WITH THE FRAME THAT REACHES ABOVE THE BUILDER: 'Lib.OthersKept': every block that is not b and is no row of uint8's stands as it stood: the iterator of a range among them. (LAID: no walk: one application.) -/
theorem Tryd.Builder_String_k (B b : Nat) (l : List UInt8) (w : World) (h : Lib.IsBuilderF 123 5 B b (Lib.byteCells l) w) (h0 : l ≠ []) :
    Calls Tryd.prog 88 #[.pointer (some ⟨b, 0, none⟩)] w fun e w' => e = .returned (.string ⟨l.toArray⟩) ∧ (Lib.IsBuilderF 123 5 B b (Lib.byteCells l) w' ∧ Below B w w' ∧ Lib.OthersKept 5 (some b) w w') := Any.Builder_String_k Tryd.lays169 Tryd.Builder_Extra_169 B b l w h h0
open Go.RowKit in
/-- (*strings.Builder).String OF A BUILDER THAT HOLDS NO BYTE: the empty string; THE FORM '_k': OVER 'Lib.IsBuilderF' (a builder that 'String()' may have read), AND WITH THE FRAME THAT REACHES ABOVE THE BUILDER: 'Lib.OthersKept': every block that is not b and is no row of uint8's stands as it stood: the iterator of a range among them. (LAID: no walk: one application.) -/
theorem Tryd.Builder_String_empty_k (B b : Nat) (w : World) (h : Lib.IsBuilderF 123 5 B b [] w) (hBw : B ≤ w.heap.size) :
    Calls Tryd.prog 88 #[.pointer (some ⟨b, 0, none⟩)] w fun e w' => e = .returned (.string ⟨#[]⟩) ∧ (Lib.IsBuilderF 123 5 B b [] w' ∧ Below B w w' ∧ Lib.OthersKept 5 (some b) w w') := Any.Builder_String_empty_k Tryd.lays169 Tryd.Builder_Extra_169 B b w h hBw
open Go.RowKit in
/-- (*strings.Builder).String: "String returns the accumulated string.": WHATEVER THE BUILDER HOLDS; THE FORM '_k': OVER 'Lib.IsBuilderF' (a builder that 'String()' may have read), AND WITH THE FRAME THAT REACHES ABOVE THE BUILDER: 'Lib.OthersKept': every block that is not b and is no row of uint8's stands as it stood: the iterator of a range among them. (LAID: no walk: one application.) -/
theorem Tryd.Builder_String_any_k (B b : Nat) (l : List UInt8) (w : World) (h : Lib.IsBuilderF 123 5 B b (Lib.byteCells l) w) (hBw : B ≤ w.heap.size) :
    Calls Tryd.prog 88 #[.pointer (some ⟨b, 0, none⟩)] w fun e w' => e = .returned (.string ⟨l.toArray⟩) ∧ (Lib.IsBuilderF 123 5 B b (Lib.byteCells l) w' ∧ Below B w w' ∧ Lib.OthersKept 5 (some b) w w') := Any.Builder_String_any_k Tryd.lays169 Tryd.Builder_Extra_169 B b l w h hBw
end Go.Proofs
end

section
/- The library's strings.Builder at this translation: what it is to write on it. -/
namespace Go.Proofs.YtaeiahkomdpcoaaDoor.Wire
open Go.RowKit Go.Shelf

theorem e53 : ∀ (a : Addr) (w : World), (callFunc 123 #[.pointer (some a)]).run Tryd.prog w = .ok (.value (.pointer (some a))) w := fun a w => by
  rw [run_callFunc_extern Tryd.func123 (by kernel_rfl) (by kernel_rfl) (by kernel_rfl) (e := Extern.AbiNoEscape.same) (by kernel_rfl), Lib.run_noEscape]
  rfl

set_option maxHeartbeats 1000000 in
set_option maxRecDepth 100000 in
theorem copyCheck_used (b : Nat) (w : World) (h0 : w.cell? ⟨b, 0, none⟩ = some (.pointer (some ⟨b, 0, none⟩))) :
    Calls Tryd.prog 105 #[.pointer (some ⟨b, 0, none⟩)] w fun e w' => e = .returned (.tuple #[]) ∧ w' = w := by
  obtain ⟨j, hj, _⟩ := Option.map_eq_some_iff.1 (Tryd.Builder_Extra_169.toX72.sizeBuilder)
  have h1 := Lib.run_neq_ptr_same (P := Tryd.prog) w ⟨b, 0, none⟩ Tryd.underlying121 hj
  clear hj
  go_enter Tryd.func105, Tryd.ntmps105
  go_wp2
  go_end0
  exact ⟨rfl, rfl⟩

set_option maxHeartbeats 1000000 in
set_option maxRecDepth 100000 in
theorem copyCheck_fresh (b : Nat) (w : World) (h0 : w.cell? ⟨b, 0, none⟩ = some (.pointer none)) (hsh : w.shape? b = some (123, 2)) (hfz : w.frozen? ⟨b, 0, none⟩ = false) :
    Calls Tryd.prog 105 #[.pointer (some ⟨b, 0, none⟩)] w fun e w' => e = .returned (.tuple #[]) ∧ w' = w.setCell ⟨b, 0, none⟩ (.pointer (some ⟨b, 0, none⟩)) := by
  obtain ⟨j, hj, hjs⟩ := Option.map_eq_some_iff.1 (Tryd.Builder_Extra_169.toX72.sizeBuilder)
  have h1 := Lib.run_to_unsafe (P := Tryd.prog) w ⟨b, 0, none⟩ Tryd.underlying121 Tryd.underlying160 hj (by rw [hjs]; decide) hsh (Nat.zero_lt_succ 1)
  have h2 := Lib.run_from_unsafe (P := Tryd.prog) w ⟨b, 0, none⟩ Tryd.underlying160 Tryd.underlying121 hj hsh Tryd.Builder_Extra_169.toX72.liesBuilder
  have h3 := e53 ⟨b, 0, none⟩ w
  clear hj hjs
  go_enter Tryd.func105, Tryd.ntmps105
  go_wp2
  go_end0
  exact ⟨rfl, rfl⟩

theorem copyCheck_calls (B b : Nat) (bs : List Value) (w : World) (h : Lib.IsBuilderF 123 5 B b bs w) :
    Calls Tryd.prog 105 #[.pointer (some ⟨b, 0, none⟩)] w fun e w' => e = .returned (.tuple #[]) ∧ (Lib.BuilderAtF 123 5 B b (.pointer (some ⟨b, 0, none⟩)) bs w' ∧ Below B w w') := by
  rcases h with h | h
  · refine (copyCheck_fresh b w h.cell0 h.shape h.frozen0).mono ?_
    rintro e w' ⟨rfl, rfl⟩
    exact ⟨rfl, h.used _, (Below.refl B w).setCell (p := ⟨b, 0, none⟩) h.1 _⟩
  · refine (copyCheck_used b w h.cell0).mono ?_
    rintro e w' ⟨rfl, rfl⟩
    exact ⟨rfl, h, Below.refl B _⟩

set_option maxHeartbeats 2000000 in
set_option maxRecDepth 100000 in
theorem write_calls (B b : Nat) (bs : List Value) (s : ByteArray) (w : World) (h : Lib.IsBuilderF 123 5 B b bs w) (hlen : bs.length + s.size ≤ 140737488355328) (hBw : B ≤ w.heap.size) :
    Calls Tryd.prog 86 #[.pointer (some ⟨b, 0, none⟩), .string s] w fun e w' => e = .returned (.tuple #[.int .i64 s.size, .nilIface]) ∧ (Lib.IsBuilderF 123 5 B b (bs ++ Lib.strCells s) w' ∧ Below B w w') := by
  obtain ⟨i0, hi, hz0, hz1, hz2⟩ := info_parts Tryd.Builder_Extra_169.infoByte
  go_enter Tryd.func86, Tryd.ntmps86
  go_wp2_with (go_at_call 105; refine (copyCheck_calls B b bs _ h).mono ?_)
  rintro e w1 ⟨rfl, h1, hb1⟩
  obtain ⟨hB, v, hbk, hown, hne⟩ := h1
  have c0 : w1.cell? ⟨b, 0, none⟩ = some (.pointer (some ⟨b, 0, none⟩)) := by rw [Lib.cell_of_heap hbk]; rfl
  have c1 : w1.cell? ⟨b, 1, none⟩ = some v := by rw [Lib.cell_of_heap hbk]; rfl
  go_wp2_with (at_builtin; refine Lib.wpList_append_own_stringF _ rfl _ _ 71 9 rfl B 5 i0 Tryd.underlying71 Tryd.underlying9 hi hz0 hz1 hz2 _ _ _ rfl hown s rfl ?c3 ?c4 ?c5 ?_)
  case c3 => unfold maxLen; omega
  case c4 => omega
  case c5 => have := hb1.size; omega
  intro v' w2 hown' hgrow _
  have hlt : b < w1.heap.size := (Array.getElem?_eq_some_iff.1 hbk).1
  have hb2 : w2.heap[b]? = some (.cells #[.pointer (some ⟨b, 0, none⟩), v] 123 (0, 0)) := by
    rw [hgrow.block b hlt (fun e => hne e.symm)]
    exact hbk
  have d1 : w2.cell? ⟨b, 1, none⟩ = some v := by rw [Lib.cell_of_heap hb2]; rfl
  have f1 : w2.frozen? ⟨b, 1, none⟩ = false := Lib.frozen_of_heap hb2 1
  obtain ⟨ao, n', cap, rfl⟩ : ∃ ao n' cap, v' = .slice ao n' cap := by
    rcases hown'.2 with ⟨hv, _⟩ | ⟨g, cap, cur, fz, hv, _⟩
    · exact ⟨_, _, _, hv⟩
    · exact ⟨_, _, _, hv⟩
  go_wp2
  go_ret2
  refine ⟨rfl, Or.inr ?_, ?_⟩
  · exact Lib.BuilderAtF.put (T := 123) (e := 5) hB hb2 (bs' := bs ++ Lib.strCells s) (by simpa [Lib.strCells_length] using hown') (by decide)
  · exact (hb1.grown hgrow (by have := hb1.size; omega) (fun k hk => (hown.lt k hk).1)).setCell (p := ⟨b, 1, none⟩) hB _

end Go.Proofs.YtaeiahkomdpcoaaDoor.Wire
end

section
/- The last step of a law's row, once for all laws: a call that returns true and leaves all that was there as it was meets 'true; the input reads as it did'. -/
namespace Go.Proofs.YtaeiahkomdpcoaaDoor
open Go.ChangeShapes Go.WideShapes Go.ChangeAt Go.RowKit

theorem own : ownKnob Tryd.prog.godebug = none := by kernel_rfl
theorem laidOut : laidOutB Tryd.prog = true := by kernel_rfl

section
variable {H : Type} {enc : TypeId × Value → H} {P : Program}
theorem trodAll_below (hl : laidOutB P = true) {W W' : World} (hb : Below W.heap.size W W') : ∀ {ts : List TypeId} {vs : List Value} {ds : List (DataW H)} {ps : List MemPlace},
    ts.all (fun t => P.readableRec t && decide (t < P.types.size)) = true →
    DataW.TrodAll enc P W 0 (fun _ => true) true ts vs ds ps → (∀ x ∈ ps, x.block < W.heap.size) → DataW.TrodAll enc P W' 0 (fun b => decide (b < W.heap.size)) true ts vs ds ps
  | [], [], [], ps, _, h, _ => h
  | t :: ts, v :: vs, d :: ds, ps, hr, h, hlt => by
    obtain ⟨p, q, h1, h2, rfl⟩ := h
    simp only [List.all_cons, Bool.and_eq_true, decide_eq_true_eq] at hr
    exact ⟨p, q, Below.trod hl hr.1.1 hr.1.2 h1 hb (fun x hx => hlt x (by simp [hx])), trodAll_below hl hb (by simp only [List.all_eq_true, Bool.and_eq_true, decide_eq_true_eq] at hr ⊢; exact hr.2) h2 (fun x hx => hlt x (by simp [hx])), rfl⟩
  | [], [], _ :: _, _, _, h, _ => h.elim
  | [], _ :: _, _, _, _, h, _ => by cases ‹List (DataW H)› <;> exact h.elim
  | _ :: _, [], _, _, _, h, _ => by cases ‹List (DataW H)› <;> exact h.elim
  | _ :: _, _ :: _, [], _, _, h, _ => h.elim

theorem law_post {f : Func} {s : ChangeSpec} {W W' : World} {args : Array Value} {ds gs : List (DataW H)} {before : List MemPlace} {tb : TypeId}
    (hW : DataW.Whole enc P f.params.toList s.vars false W args.toList ds gs before) (hb : Below W.heap.size W W') (hl : laidOutB P = true)
    (hr : f.params.toList.all (fun t => P.readableRec t && decide (t < P.types.size)) = true) (hrt : f.resultTypes = #[tb]) (ub : P.underlying tb = some .bool)
    (hv : s.vars = []) (hs : s.fn H (ds ++ gs) = { results := [.lit (.bool true)], args := ds }) :
    s.post enc P f false true false false W args (.bool true) W' := by
  have hlt : ∀ p ∈ before, p.block < W.heap.size := fun p hp => hW.lt p hp
  have hW' := hW
  obtain ⟨p, q, hA, hV, rfl, _, _⟩ := hW'
  rw [hv] at hV
  cases gs with
  | cons g gs => exact hV.elim
  | nil =>
    have hq : q = [] := hV
    subst hq
    refine ⟨ds, [], p ++ [], [], p, [], hW, ?_, ?_, ?_, ?_, fun h => by cases h⟩
    · rw [hs, hrt]
      exact trodAll_mk1 (shut_bool ub _)
    · rw [hs]
      exact trodAll_below hl hb hr hA (fun x hx => hlt x (by simp [hx]))
    · rw [hs, hv]
      rfl
    · exact hb.frame _
end

end Go.Proofs.YtaeiahkomdpcoaaDoor
end

section
/- Lists of numbers and of texts: in memory, and as arguments. No walk. -/
namespace Go.Proofs.YtaeiahkomdpcoaaDoor.Wire
open Go.RowKit Go.ChangeShapes Go.WideShapes

/-- A list of values of one cell each at an address, nil let in. -/
def ListAt (w : World) (A : Option Addr) (vs : List Value) : Prop := 0 < vs.length → ∃ ad, A = some ad ∧ ad.block < w.heap.size ∧ ∀ i v, vs[i]? = some v → w.cell? (ad.add i) = some v

theorem block_of_add (a : Addr) (n : Nat) : (a.add n).block = a.block := by unfold Addr.add; split <;> rfl
theorem ListAt.below {w w' : World} {A : Option Addr} {l : List Value} (h : ListAt w A l) (hb : Below w.heap.size w w') : ListAt w' A l := fun hl => by
  obtain ⟨ad, h1, h2, h3⟩ := h hl
  exact ⟨ad, h1, Nat.lt_of_lt_of_le h2 hb.size, fun i x hx => (World.cell?_of_block (by rw [block_of_add]; exact hb.block _ h2)).trans (h3 i x hx)⟩
theorem ListAt.at_ {w : World} {A : Option Addr} {l : List Value} (h : ListAt w A l) {k : Nat} (hk : k < l.length) : ∃ ad, A = some ad ∧ ad.block < w.heap.size ∧ w.cell? (ad.add k) = some l[k] := by
  obtain ⟨ad, h1, h2, h3⟩ := h (by omega)
  exact ⟨ad, h1, h2, h3 k _ (List.getElem?_eq_getElem hk)⟩

def numsV (u : List Nat) : List Value := u.map fun x : Nat => Value.int .u64 (x : Int)
def textsV (t : List ByteArray) : List Value := t.map .string
theorem ListAt.num {w : World} {A : Option Addr} {u : List Nat} (h : ListAt w A (numsV u)) {k : Nat} (hk : k < u.length) : ∃ ad, A = some ad ∧ ad.block < w.heap.size ∧ w.cell? (ad.add k) = some (.int .u64 (u[k] : Nat)) := by
  obtain ⟨ad, h1, h2, h3⟩ := h.at_ (k := k) (by simpa [numsV] using hk)
  exact ⟨ad, h1, h2, by rw [h3]; simp [numsV]⟩
theorem ListAt.text {w : World} {A : Option Addr} {t : List ByteArray} (h : ListAt w A (textsV t)) {k : Nat} (hk : k < t.length) : ∃ ad, A = some ad ∧ ad.block < w.heap.size ∧ w.cell? (ad.add k) = some (.string t[k]) := by
  obtain ⟨ad, h1, h2, h3⟩ := h.at_ (k := k) (by simpa [textsV] using hk)
  exact ⟨ad, h1, h2, by rw [h3]; simp [textsV]⟩

section
variable {H : Type} {enc : TypeId × Value → H} {W : World}
set_option maxRecDepth 100000 in
theorem open_nums_arg {r : Reach} {b0 : Nat} {v : Value} {d : DataW H} {p : List MemPlace} (hv : Value.okWide Tryd.prog W r b0 142 v) (h : DataW.Trod enc Tryd.prog W 0 (fun _ => true) true 142 v d p) :
    ∃ (A : Option Addr) (c : Nat) (u : List Nat), v = .slice A u.length c ∧ ListAt W A (numsV u) ∧ (∀ x ∈ u, x < 18446744073709551616) ∧ u.length ≤ c ∧ u.length ≤ 9223372036854775807 := by
  obtain ⟨a, len, cap, rfl⟩ := okWide_slice Tryd.underlying142 hv
  obtain ⟨fuel, hf⟩ := h
  rcases open_ints Tryd.underlying142 Tryd.underlying22 (by kernel_rfl) hf with ⟨e, _⟩ | ⟨a', len', cap', zs, e, _, hl, hm, hzl, _, hcell, hwf⟩
  · simp [Value.cells] at e
    obtain ⟨rfl, rfl, rfl⟩ := e
    exact ⟨none, 0, [], rfl, (fun h => absurd h (Nat.lt_irrefl _)), by simp, Nat.le_refl _, by simp⟩
  · simp [Value.cells] at e
    obtain ⟨rfl, rfl, rfl⟩ := e
    rw [if_pos rfl] at hzl
    have hb : ∀ n ∈ zs, 0 ≤ n ∧ n < 18446744073709551616 := fun n hn => by
      have := bounds_u64 (hwf n hn); omega
    have hlen : ((zs.take len).map Int.toNat).length = len := by rw [List.length_map, List.length_take]; omega
    have hc : ∀ i y, (numsV ((zs.take len).map Int.toNat))[i]? = some y → W.cell? (a'.add i) = some y := fun i y hy => by
      have hi : i < len := by
        rcases Nat.lt_or_ge i len with h | h
        · exact h
        · rw [List.getElem?_eq_none (by simp [numsV]; omega)] at hy; cases hy
      have hiz : i < zs.length := by omega
      have h0 := hb zs[i] (List.getElem_mem hiz)
      simp [numsV, hi, hiz] at hy
      rw [hcell i hiz, ← hy]
      simp [List.getD, hiz]; omega
    refine ⟨some a', cap, (zs.take len).map Int.toNat, by rw [hlen], fun h0 => ⟨a', rfl, ?_, hc⟩, ?_, by omega, by unfold maxLen at hm; omega⟩
    · have := block_lt_of_cell (hc 0 _ (List.getElem?_eq_getElem h0))
      rwa [block_of_add] at this
    · intro x hx
      obtain ⟨z, hz, rfl⟩ := List.mem_map.1 hx
      have := hb z (List.mem_of_mem_take hz)
      omega
set_option maxRecDepth 100000 in
theorem open_texts_arg {r : Reach} {b0 : Nat} {v : Value} {d : DataW H} {p : List MemPlace} (hv : Value.okWide Tryd.prog W r b0 26 v) (h : DataW.Trod enc Tryd.prog W 0 (fun _ => true) true 26 v d p) :
    ∃ (A : Option Addr) (c : Nat) (t : List ByteArray), v = .slice A t.length c ∧ ListAt W A (textsV t) ∧ (∀ s ∈ t, s.size ≤ maxLen) ∧ t.length ≤ c ∧ t.length ≤ 9223372036854775807 := by
  obtain ⟨a, len, cap, rfl⟩ := okWide_slice Tryd.underlying26 hv
  obtain ⟨fuel, hf⟩ := h
  rcases open_strings Tryd.underlying26 Tryd.underlying9 (by kernel_rfl) hf with ⟨e, _⟩ | ⟨a', len', cap', zs, e, _, hl, hm, hzl, _, hcell, hwf⟩
  · simp [Value.cells] at e
    obtain ⟨rfl, rfl, rfl⟩ := e
    exact ⟨none, 0, [], rfl, (fun h => absurd h (Nat.lt_irrefl _)), by simp, Nat.le_refl _, by simp⟩
  · simp [Value.cells] at e
    obtain ⟨rfl, rfl, rfl⟩ := e
    rw [if_pos rfl] at hzl
    have hlen : (zs.take len).length = len := by rw [List.length_take]; omega
    have hc : ∀ i y, (textsV (zs.take len))[i]? = some y → W.cell? (a'.add i) = some y := fun i y hy => by
      have hi : i < len := by
        rcases Nat.lt_or_ge i len with h | h
        · exact h
        · rw [List.getElem?_eq_none (by simp [textsV]; omega)] at hy; cases hy
      have hiz : i < zs.length := by omega
      simp [textsV, hi, hiz] at hy
      rw [hcell i hiz, ← hy]
      simp [List.getD, hiz]
    refine ⟨some a', cap, zs.take len, by rw [hlen], fun h0 => ⟨a', rfl, ?_, hc⟩, fun s hs => hwf s (List.mem_of_mem_take hs), by omega, by unfold maxLen at hm; omega⟩
    have := block_lt_of_cell (hc 0 _ (List.getElem?_eq_getElem h0))
    rwa [block_of_add] at this
end

end Go.Proofs.YtaeiahkomdpcoaaDoor.Wire
end

section
/- Numbers as bytes, in plain Lean: the bytes of a number, reading them back, their order. No program in sight. -/
namespace Go.Proofs.YtaeiahkomdpcoaaDoor.Num

/-- The bytes of x, the least first, as many as there are, eight at most. -/
def lsb : Nat → Nat → List UInt8
  | 0, _ => []
  | f + 1, x => if x = 0 then [] else UInt8.ofNat (x % 256) :: lsb f (x / 256)

def digs (x : Nat) : List UInt8 := (lsb 8 x).reverse
def up (x : Nat) : List UInt8 := UInt8.ofNat (digs x).length :: digs x
def turn (l : List UInt8) : List UInt8 := l.map fun c => 255 - c
def down (x : Nat) : List UInt8 := turn (up x)
def val (l : List UInt8) : Nat := l.foldl (fun a c => a * 256 + c.toNat) 0
/-- What stands at the front of bytes: the number, how many bytes, the error's number. -/
def read : List UInt8 → Nat × Nat × Nat
  | [] => (0, 0, 10)
  | c :: r => if 8 < c.toNat then (0, 0, 8) else if r.length < c.toNat then (0, 0, 10) else if 0 < c.toNat ∧ r.head? = some 0 then (0, 0, 8) else (val (r.take c.toNat), c.toNat + 1, 0)
def readDown (l : List UInt8) : Nat × Nat × Nat := read (turn (l.take 9))

theorem lsb_length_le (f x : Nat) : (lsb f x).length ≤ f := by
  induction f generalizing x with
  | zero => simp [lsb]
  | succ f ih =>
    unfold lsb
    split
    · simp
    · simp only [List.length_cons]; have := ih (x / 256); omega

theorem digs_length_le (x : Nat) : (digs x).length ≤ 8 := by unfold digs; rw [List.length_reverse]; exact lsb_length_le 8 x
theorem up_length (x : Nat) : (up x).length = (digs x).length + 1 := by simp [up]
theorem up_length_le (x : Nat) : (up x).length ≤ 9 := by rw [up_length]; have := digs_length_le x; omega
theorem turn_length (l : List UInt8) : (turn l).length = l.length := by simp [turn]
theorem turn_turn (l : List UInt8) : turn (turn l) = l := by
  unfold turn
  rw [List.map_map]
  conv => rhs; rw [← List.map_id l]
  apply List.map_congr_left
  intro c _
  simp only [Function.comp, id]
  apply UInt8.toNat_inj.1
  have := c.toNat_lt
  rw [UInt8.toNat_sub_of_le _ _ (by rw [UInt8.le_iff_toNat_le, UInt8.toNat_sub_of_le _ _ (by rw [UInt8.le_iff_toNat_le]; show c.toNat ≤ 255; omega)]; show 255 - c.toNat ≤ 255; omega)]
  rw [UInt8.toNat_sub_of_le _ _ (by rw [UInt8.le_iff_toNat_le]; show c.toNat ≤ 255; omega)]
  show 255 - (255 - c.toNat) = c.toNat
  omega

/-- k rounds over the bytes, the least first. -/
def low (k x : Nat) : List UInt8 := (List.range k).map fun i => UInt8.ofNat (x / 256 ^ i % 256)
theorem low_length (k x : Nat) : (low k x).length = k := by simp [low]
theorem low_succ (k x : Nat) : low (k + 1) x = low k x ++ [UInt8.ofNat (x / 256 ^ k % 256)] := by
  simp [low, List.range_succ]
theorem low_cons (k x : Nat) : low (k + 1) x = UInt8.ofNat (x % 256) :: low k (x / 256) := by
  unfold low
  rw [List.range_succ_eq_map, List.map_cons, List.map_map]
  simp only [Nat.pow_zero, Nat.div_one, List.cons.injEq, true_and]
  apply List.map_congr_left
  intro i _
  simp only [Function.comp, Nat.pow_succ]
  rw [Nat.mul_comm, Nat.div_div_eq_div_mul]
/-- Where the loop ends: the bytes taken are the number's own. -/
theorem low_eq_lsb (f k x : Nat) (hk : k ≤ f) (hz : x / 256 ^ k = 0) (hp : ∀ i, i < k → x / 256 ^ i ≠ 0) : low k x = lsb f x := by
  induction k generalizing f x with
  | zero =>
    have hx : x = 0 := by simpa using hz
    subst hx
    cases f <;> simp [low, lsb]
  | succ k ih =>
    obtain ⟨f, rfl⟩ : ∃ g, f = g + 1 := ⟨f - 1, by omega⟩
    have h0 : x ≠ 0 := by have := hp 0 (by omega); simpa using this
    rw [low_cons, lsb, if_neg h0, ih f (x / 256) (by omega) (by rw [Nat.div_div_eq_div_mul, ← Nat.pow_succ']; exact hz) (fun i hi => by rw [Nat.div_div_eq_div_mul, ← Nat.pow_succ']; exact hp (i + 1) (by omega))]

theorem digs_eq (k x : Nat) (hk : k ≤ 8) (hz : x / 256 ^ k = 0) (hp : ∀ i, i < k → x / 256 ^ i ≠ 0) : digs x = (low k x).reverse := by
  unfold digs; rw [low_eq_lsb 8 k x hk hz hp]
theorem digs_len_eq (k x : Nat) (hk : k ≤ 8) (hz : x / 256 ^ k = 0) (hp : ∀ i, i < k → x / 256 ^ i ≠ 0) : (digs x).length = k := by
  rw [digs_eq k x hk hz hp, List.length_reverse, low_length]

/-- A number below 2^64 has no more than eight. -/
theorem pow8_zero (x : Nat) (h : x < 18446744073709551616) : x / 256 ^ 8 = 0 := by
  rw [Nat.div_eq_of_lt]; simpa using h

/-! ### Reading back -/

theorem val_snoc (l : List UInt8) (c : UInt8) : val (l ++ [c]) = val l * 256 + c.toNat := by simp [val]
theorem val_reverse_cons (c : UInt8) (l : List UInt8) : val (c :: l).reverse = val l.reverse * 256 + c.toNat := by
  rw [List.reverse_cons, val_snoc]
theorem val_lsb (f x : Nat) (h : x < 256 ^ f) : val (lsb f x).reverse = x := by
  induction f generalizing x with
  | zero => have : x = 0 := by simpa using h
            subst this; rfl
  | succ f ih =>
    unfold lsb
    split
    · rename_i h0; subst h0; rfl
    · rw [val_reverse_cons, ih (x / 256) (by rw [Nat.div_lt_iff_lt_mul (by omega)]; rw [Nat.pow_succ] at h; exact h)]
      have : (UInt8.ofNat (x % 256)).toNat = x % 256 := by simp [UInt8.toNat_ofNat']
      rw [this]; omega
theorem val_digs (x : Nat) (h : x < 18446744073709551616) : val (digs x) = x := by
  unfold digs
  exact val_lsb 8 x (by simpa using h)

/-- The highest byte is not 0. -/
theorem lsb_last (f x : Nat) (h : x < 256 ^ f) : ∀ c, (lsb f x).getLast? = some c → c ≠ 0 := by
  induction f generalizing x with
  | zero => intro c hc; simp [lsb] at hc
  | succ f ih =>
    intro c hc
    unfold lsb at hc
    split at hc
    · simp at hc
    · rename_i h0
      have hl : x / 256 < 256 ^ f := by rw [Nat.div_lt_iff_lt_mul (by omega)]; rw [Nat.pow_succ] at h; exact h
      by_cases he : lsb f (x / 256) = []
      · rw [he] at hc
        simp at hc
        subst hc
        have hz : x / 256 = 0 := by
          rcases Nat.eq_zero_or_pos f with hf | hf
          · subst hf; simpa using hl
          · obtain ⟨g, rfl⟩ : ∃ g, f = g + 1 := ⟨f - 1, by omega⟩
            unfold lsb at he
            split at he
            · assumption
            · cases he
        intro hcz
        have := congrArg UInt8.toNat hcz
        simp [UInt8.toNat_ofNat'] at this
        omega
      · rw [List.getLast?_cons_of_ne_nil he] at hc
        exact ih (x / 256) hl c hc
theorem digs_head (x : Nat) (h : x < 18446744073709551616) : ∀ c, (digs x).head? = some c → c ≠ 0 := by
  intro c hc
  unfold digs at hc
  rw [List.head?_reverse] at hc
  exact lsb_last 8 x (by simpa using h) c hc

theorem ofNat_len (x : Nat) : (UInt8.ofNat (digs x).length).toNat = (digs x).length := by
  have := digs_length_le x
  simp [UInt8.toNat_ofNat']; omega

theorem read_up (x : Nat) (s : List UInt8) (h : x < 18446744073709551616) : read (up x ++ s) = (x, (up x).length, 0) := by
  unfold up
  simp only [List.cons_append, read, ofNat_len, List.length_append, List.length_cons]
  have h8 := digs_length_le x
  rw [if_neg (by omega), if_neg (by omega), if_neg, List.take_left, val_digs x h]
  rintro ⟨h1, h2⟩
  cases hd : digs x with
  | nil => rw [hd] at h1; simp at h1
  | cons c r =>
    rw [hd] at h2
    simp at h2
    exact digs_head x h c (by rw [hd]; rfl) h2

theorem turn_append (a b : List UInt8) : turn (a ++ b) = turn a ++ turn b := by simp [turn]
theorem turn_take (a : List UInt8) (n : Nat) : turn (a.take n) = (turn a).take n := by simp [turn, List.map_take]
theorem readDown_down (x : Nat) (s : List UInt8) (h : x < 18446744073709551616) : readDown (down x ++ s) = (x, (down x).length, 0) := by
  unfold readDown down
  have h9 := up_length_le x
  rw [List.take_append, List.take_of_length_le (by rw [turn_length]; exact h9), turn_append, turn_turn, read_up x _ h, turn_length]

/-- Cut off anywhere, it is short. -/
theorem read_cut (x i : Nat) (hi : i < (up x).length) : read ((up x).take i) = (0, 0, 10) := by
  cases i with
  | zero => simp [read]
  | succ i =>
    rw [up_length] at hi
    have h8 := digs_length_le x
    unfold up
    simp only [List.take_succ_cons, read, ofNat_len, List.length_take]
    rw [if_neg (by omega), if_pos (by omega)]

/-! ### What is read is the number's own bytes -/

theorem lsb_val_reverse (l : List UInt8) (hl : l.getLast? ≠ some 0) (f : Nat) (hf : l.length ≤ f) : lsb f (val l.reverse) = l := by
  induction l generalizing f with
  | nil => cases f <;> simp [val, lsb]
  | cons c l ih =>
    obtain ⟨g, rfl⟩ : ∃ g, f = g + 1 := ⟨f - 1, by simp at hf; omega⟩
    have hc := c.toNat_lt
    rw [val_reverse_cons]
    have hpos : val l.reverse * 256 + c.toNat ≠ 0 := by
      intro h0
      have h1 : val l.reverse = 0 := by omega
      have h2 : c.toNat = 0 := by omega
      cases l with
      | nil =>
        apply hl
        have : c = 0 := UInt8.toNat_inj.1 (by simpa using h2)
        rw [this]; rfl
      | cons d r =>
        have hl' : (d :: r).getLast? ≠ some 0 := by rw [List.getLast?_cons_of_ne_nil (by simp)] at hl; exact hl
        have := ih hl' (d :: r).length (Nat.le_refl _)
        rw [h1] at this
        simp [lsb] at this
    unfold lsb
    rw [if_neg hpos]
    have e1 : (val l.reverse * 256 + c.toNat) % 256 = c.toNat := by omega
    have e2 : (val l.reverse * 256 + c.toNat) / 256 = val l.reverse := by omega
    rw [e1, e2]
    congr 1
    · simp
    · cases l with
      | nil => cases g <;> simp [val, lsb]
      | cons d r =>
        exact ih (by rw [List.getLast?_cons_of_ne_nil (by simp)] at hl; exact hl) g (by simp at hf ⊢; omega)

theorem val_lt (l : List UInt8) : val l < 256 ^ l.length := by
  rw [← List.reverse_reverse l]
  generalize l.reverse = m
  induction m with
  | nil => simp [val]
  | cons c m ih =>
    rw [val_reverse_cons]
    have := c.toNat_lt
    simp only [List.length_reverse, List.length_cons] at ih ⊢
    rw [Nat.pow_succ]
    omega

theorem digs_val (l : List UInt8) (hl : l.head? ≠ some 0) (h8 : l.length ≤ 8) : digs (val l) = l := by
  unfold digs
  have := lsb_val_reverse l.reverse (by rw [List.getLast?_reverse]; exact hl) 8 (by simpa using h8)
  rw [List.reverse_reverse] at this
  rw [this, List.reverse_reverse]

theorem read_ok {s : List UInt8} {v k : Nat} (h : read s = (v, k, 0)) : k ≤ s.length ∧ v < 18446744073709551616 ∧ up v = s.take k := by
  cases s with
  | nil => simp [read] at h
  | cons c r =>
    simp only [read] at h
    split at h
    · simp at h
    split at h
    · simp at h
    split at h
    · simp at h
    rename_i h1 h2 h3
    simp only [Prod.mk.injEq, and_true] at h
    obtain ⟨rfl, rfl⟩ := h
    have hlen : (r.take c.toNat).length = c.toNat := by rw [List.length_take]; omega
    have hhead : (r.take c.toNat).head? ≠ some 0 := by
      intro h0
      apply h3
      cases hr : r with
      | nil => rw [hr] at h0; simp at h0
      | cons d t =>
        rw [hr] at h0
        cases hn : c.toNat with
        | zero => rw [hn] at h0; simp at h0
        | succ n => rw [hn] at h0; simp at h0; subst h0; simp
    have hd := digs_val (r.take c.toNat) hhead (by rw [hlen]; omega)
    refine ⟨by simp; omega, ?_, ?_⟩
    · have := val_lt (r.take c.toNat)
      rw [hlen] at this
      have hp : 256 ^ c.toNat ≤ 256 ^ 8 := Nat.pow_le_pow_right (by omega) (by omega)
      have : (256 : Nat) ^ 8 = 18446744073709551616 := by decide
      omega
    · unfold up
      rw [hd, hlen]
      simp [List.take_succ_cons]

theorem readDown_ok {s : List UInt8} {v k : Nat} (h : readDown s = (v, k, 0)) : k ≤ s.length ∧ v < 18446744073709551616 ∧ down v = s.take k := by
  unfold readDown at h
  obtain ⟨h1, h2, h3⟩ := read_ok h
  rw [turn_length, List.length_take] at h1
  refine ⟨by omega, h2, ?_⟩
  unfold down
  rw [h3, ← turn_take, turn_turn, List.take_take]
  congr 1
  omega

/-- What read tells is in bounds, whatever it is given. -/
theorem read_bounds (s : List UInt8) : (read s).1 < 18446744073709551616 ∧ (read s).2.1 ≤ s.length ∧ (read s).2.1 ≤ 9 ∧ (read s).2.2 ≤ 10 := by
  by_cases h : (read s).2.2 = 0
  · obtain ⟨h1, h2, h3⟩ := read_ok (s := s) (v := (read s).1) (k := (read s).2.1) (by rw [← h])
    have := congrArg List.length h3
    have h9 := up_length_le (read s).1
    rw [List.length_take] at this
    omega
  · cases s with
    | nil => simp [read]
    | cons c r =>
      simp only [read] at h ⊢
      split
      · simp
      split
      · simp
      split
      · simp
      · rename_i h1 h2 h3; simp [h1, h2, h3] at h
theorem readDown_bounds (s : List UInt8) : (readDown s).1 < 18446744073709551616 ∧ (readDown s).2.1 ≤ s.length ∧ (readDown s).2.1 ≤ 9 ∧ (readDown s).2.2 ≤ 10 := by
  have := read_bounds (turn (s.take 9))
  rw [turn_length, List.length_take] at this
  unfold readDown
  omega

end Go.Proofs.YtaeiahkomdpcoaaDoor.Num
end

section
/- The walks of num.Up, num.Down, num.Size and of the document's answers for them: each function once. -/
namespace Go.Proofs.YtaeiahkomdpcoaaDoor.Num
open Go.RowKit

def bs (l : List UInt8) : ByteArray := ⟨l.toArray⟩


def u8s (l : List UInt8) : Array Value := (l.map fun c => Value.int .u8 (c.toNat : Int)).toArray
def upRow (x j k : Nat) : List UInt8 := List.replicate (j + 1) 0 ++ (low k x).reverse

theorem u8s_get (l : List UInt8) (i : Nat) (c : UInt8) (h : l[i]? = some c) : (u8s l)[i]? = some (.int .u8 (c.toNat : Int)) := by simp [u8s, h]
theorem u8s_set (l : List UInt8) (i : Nat) (c : UInt8) : (u8s l).setIfInBounds i (.int .u8 (c.toNat : Int)) = u8s (l.set i c) := by
  unfold u8s; rw [List.setIfInBounds_toArray, List.map_set]

theorem set_replicate (n : Nat) (c : UInt8) (r : List UInt8) : (List.replicate (n + 1) (0 : UInt8) ++ r).set n c = List.replicate n 0 ++ c :: r := by
  induction n with
  | zero => rfl
  | succ n ih => rw [List.replicate_succ, List.cons_append, List.set_cons_succ, ih, List.replicate_succ, List.cons_append]

theorem up_last (x j k : Nat) (hjk : j + k = 8) (hz : 0 = x / 256 ^ k) (hp : ∀ i, i < k → x / 256 ^ i ≠ 0) :
    (u8s (upRow x j k)).setIfInBounds j (.int .u8 (9 - ((j : Int) + 1))) = u8s (List.replicate j 0 ++ up x) := by
  have e : (9 - ((j : Int) + 1)) = ((UInt8.ofNat k).toNat : Int) := by simp [UInt8.toNat_ofNat']; omega
  rw [e, u8s_set]
  unfold upRow
  rw [set_replicate]
  congr 2
  unfold up
  rw [digs_len_eq k x (by omega) hz.symm hp, digs_eq k x (by omega) hz.symm hp]

theorem up_next (x j k : Nat) (hj : 1 ≤ j) : (u8s (upRow x j k)).setIfInBounds j (.int .u8 (((x / 256 ^ k : Nat) : Int) % 256)) = u8s (upRow x (j - 1) (k + 1)) := by
  have e : (((x / 256 ^ k : Nat) : Int) % 256) = ((UInt8.ofNat (x / 256 ^ k % 256)).toNat : Int) := by simp [UInt8.toNat_ofNat']
  rw [e, u8s_set]
  unfold upRow
  rw [set_replicate, low_succ, List.reverse_append]
  obtain ⟨m, rfl⟩ : ∃ m, j = m + 1 := ⟨j - 1, by omega⟩
  simp

theorem bytes_row (w : World) (t : TypeId) (pre l : List UInt8) : Lib.Bytes (w.alloc (.cells (u8s (pre ++ l)) t)) w.heap.size pre.length (bs l) := by
  intro i hi
  have hl : i < l.length := by simpa [bs, ByteArray.size] using hi
  rw [World.cell?_alloc_new]
  have e : (pre ++ l)[pre.length + i]? = some l[i] := by
    rw [List.getElem?_append_right (by omega)]; simp [hl]
  rw [u8s_get _ _ _ e]
  rfl

theorem bs_size (l : List UInt8) : (bs l).size = l.length := by simp [bs, ByteArray.size]

theorem slice_nine (W : World) (B j : Nat) (hj : j ≤ 8) : (Instr.sliceAt 159 (.pointer (some ⟨B, 0, none⟩)) (some (.int .i64 (j : Int))) none none).run Tryd.prog W = .ok (.slice (some ⟨B, j, none⟩) (9 - j) (9 - j)) W := by
  have h1 : Tryd.prog.arrayLen 159 = 9 := by kernel_rfl
  have h2 : (Go.sizeOf (Tryd.prog.elem 159)).run Tryd.prog W = .ok 1 W := by kernel_rfl
  rw [run_sliceAt_array_l W 159 ⟨B, 0, none⟩ (by kernel_rfl) .i64 j (by omega) (by rw [h1]; omega), h1, h2]
  have hne : ¬ 9 = j := by omega
  by_cases h0 : j = 0
  · subst h0; simp [Result.andThen, slicedAt, Addr.add]
  · simp [Result.andThen, slicedAt, Addr.add, hne, h0]

theorem conv_up (w : World) (x j k : Nat) (hjk : j + k = 8) (hz : 0 = x / 256 ^ k) (hp : ∀ i, i < k → x / 256 ^ i ≠ 0) :
    (convert 71 9 (.slice (some ⟨w.heap.size, j, none⟩) (9 - j) (9 - j))).run Tryd.prog (w.alloc (.cells ((u8s (upRow x j k)).setIfInBounds j (.int .u8 (9 - ((j : Int) + 1)))) 159)) =
      .ok (.string (bs (up x))) (w.alloc (.cells ((u8s (upRow x j k)).setIfInBounds j (.int .u8 (9 - ((j : Int) + 1)))) 159)) := by
  rw [up_last x j k hjk hz hp]
  have hb := bytes_row w 159 (List.replicate j 0) (up x)
  rw [List.length_replicate] at hb
  have hs : 9 - j = (bs (up x)).size := by
    rw [bs_size, up_length, digs_len_eq k x (by omega) hz.symm hp]; omega
  have h := Lib.run_convert_whole (P := Tryd.prog) _ 71 5 9 Tryd.underlying71 Tryd.underlying5 Tryd.underlying9 _ _ _ hb (9 - j)
  rw [← hs] at h
  exact h

set_option maxHeartbeats 1600000 in
set_option maxRecDepth 100000 in
theorem up_calls (x : Nat) (w : World) (hx : Hid (x < 18446744073709551616)) :
    Calls Tryd.prog 102 #[.int .u64 (x : Int)] w fun e w' => e = .returned (.string (bs (up x))) ∧ Below w.heap.size w w' := by
  go_enter Tryd.func102, Tryd.ntmps102
  go_wp2
  go_step3
  go_wp2
  go_step3
  go_wp2
  go_loopw [0, 4] (fun xv av wr => ∃ j k : Nat, j + k = 8 ∧ xv = .int .u64 ((x / 256 ^ k : Nat) : Int) ∧ av = .int .i64 ((j : Int) + 1) ∧ wr = w.alloc (.cells (u8s (upRow x j k)) 159) ∧ Hid (∀ i, i < k → x / 256 ^ i ≠ 0)) (fun _ av _ => (intOf av).toNat)
  case atStart => exact ⟨8, 0, by omega, by simp, rfl, rfl, fun i hi => by omega⟩
  case round =>
    obtain ⟨j, k, hjk, rfl, rfl, rfl, hp⟩ := hrel
    obtain ⟨y, hy⟩ : ∃ y, y = x / 256 ^ k := ⟨_, rfl⟩
    rw [← hy]
    have HY := Lib.hid hy
    have HJ := Lib.hid hjk
    have hj8 : j ≤ 8 := by omega
    clear hy hjk
    have hg : (u8s (upRow x j k))[j]? = some (.int .u8 0) := u8s_get _ _ 0 (by simp [upRow, List.getElem?_append])
    by_cases h0 : y = 0
    · subst h0
      have hsl := fun W => slice_nine W w.heap.size j hj8
      have hcv := conv_up w x j k HJ.out HY.out hp.out
      go_wp2
      rw [Exit.noGoto_ret]
      go_ret
      exact ⟨rfl, below_one _ _⟩
    · have hj1 : 1 ≤ j := by
        rcases Nat.eq_zero_or_pos j with hj | hj
        · exfalso
          have h8 : k = 8 := by have := HJ.out; omega
          apply h0
          rw [HY.out, h8]
          exact pow8_zero x hx.out
        · exact hj
      go_wp2
      go_roundw
      case rel =>
        refine ⟨j - 1, k + 1, by have := HJ.out; omega, ?_, by congr 1; omega, ?_, ?_⟩
        · rw [HY.out, Nat.pow_succ, ← Nat.div_div_eq_div_mul]; congr 1
        · rw [HY.out, up_next x j k hj1]
        · intro i hi
          rcases Nat.lt_or_ge i k with h | h
          · exact hp.out i h
          · obtain rfl : i = k := by omega
            rw [← HY.out]; exact h0
      case measure => simp [intOf]

def RowAt (w : World) (B : Nat) (l : List UInt8) : Prop := ∀ i c, l[i]? = some c → w.cell? ⟨B, i, none⟩ = some (.int .u8 (c.toNat : Int)) ∧ w.frozen? ⟨B, i, none⟩ = false

theorem RowAt.set {w : World} {B : Nat} {l : List UInt8} (h : RowAt w B l) (i : Nat) (hi : i < l.length) (c : UInt8) : RowAt (w.setCell ⟨B, i, none⟩ (.int .u8 (c.toNat : Int))) B (l.set i c) := by
  intro j d hd
  by_cases hij : i = j
  · subst hij
    have hd' : d = c := by rw [List.getElem?_set_self hi] at hd; exact (Option.some.inj hd).symm
    subst hd'
    obtain ⟨h1, h2⟩ := h i _ (List.getElem?_eq_getElem hi)
    exact ⟨World.cell?_setCell_same _ _ _ h1, by rw [World.frozen?_setCell]; exact h2⟩
  · rw [List.getElem?_set_ne hij] at hd
    obtain ⟨h1, h2⟩ := h j d hd
    refine ⟨?_, by rw [World.frozen?_setCell]; exact h2⟩
    rw [World.cell?_setCell_other]
    · exact h1
    · intro e; injection e with _ e2 _; exact hij e2

theorem RowAt.bytes {w : World} {B : Nat} {l : List UInt8} (h : RowAt w B l) : Lib.Bytes w B 0 (bs l) := by
  intro i hi
  have hl : i < l.length := by rw [bs_size] at hi; exact hi
  rw [Nat.zero_add, (h i _ (List.getElem?_eq_getElem hl)).1]
  rfl

theorem bytesWorld_row (w : World) (e : TypeId) (s : ByteArray) : RowAt (Lib.bytesWorld w e s) w.heap.size s.data.toList := by
  intro i c hc
  have hi : i < s.data.toList.length := by
    rcases Nat.lt_or_ge i s.data.toList.length with h | h
    · exact h
    · rw [List.getElem?_eq_none h] at hc; cases hc
  have hs : i < s.size := by
    have e : s.data.toList.length = s.size := by simp
    omega
  refine ⟨?_, ?_⟩
  · rw [Lib.bytesWorld_cell w e s i hs]
    simp [List.getD, hc]
  · have hsz : s.size ≤ (Lib.bytesCells w e s).size := by simp [Lib.bytesCells]
    simp [World.frozen?, Lib.bytesWorld_at_new]
    omega

theorem bytesWorld_below (w : World) (e : TypeId) (s : ByteArray) : Below w.heap.size w (Lib.bytesWorld w e s) :=
  ⟨rfl, rfl, rfl, by rw [Lib.bytesWorld_size]; omega, fun k hk => Lib.bytesWorld_at_old w e s k hk⟩

theorem size_list (s : ByteArray) : s.data.toList.length = s.size := by simp

theorem bs_append (a b : List UInt8) : bs a ++ bs b = bs (a ++ b) := by
  apply ByteArray.ext
  apply Array.toList_inj.1
  simp [bs]

theorem conv_one (w : World) (n : Int) (c : UInt8) (hn : n = (c.toNat : Int)) (t : TypeId) :
    (convert 71 9 (.slice (some ⟨w.heap.size, 0, none⟩) 1 1)).run Tryd.prog (w.alloc (.cells #[.int .u8 n] t)) = .ok (.string (bs [c])) (w.alloc (.cells #[.int .u8 n] t)) := by
  subst hn
  have h := bytes_row w t [] [c]
  exact Lib.run_convert_whole (P := Tryd.prog) _ 71 5 9 Tryd.underlying71 Tryd.underlying5 Tryd.underlying9 _ 0 (bs [c]) h 1

end Go.Proofs.YtaeiahkomdpcoaaDoor.Num
end

section
/- The walks of num.Read, num.ReadDown and of the document's answers for them: each function once. -/
namespace Go.Proofs.YtaeiahkomdpcoaaDoor.Num
open Go.RowKit

abbrev rv (r : Nat × Nat × Nat) : Value := .tuple #[.int .u64 (r.1 : Int), .int .i64 (r.2.1 : Int), .int .i64 (r.2.2 : Int)]

theorem read_eq (l : List UInt8) (h : 0 < l.length) : read l = if 8 < (l.getD 0 0).toNat then (0, 0, 8) else if l.length ≤ (l.getD 0 0).toNat then (0, 0, 10) else if 0 < (l.getD 0 0).toNat ∧ l.getD 1 0 = 0 then (0, 0, 8) else (val ((l.drop 1).take (l.getD 0 0).toNat), (l.getD 0 0).toNat + 1, 0) := by
  cases l with
  | nil => simp at h
  | cons c r =>
    simp only [read, List.getD_cons_zero, List.length_cons, List.drop_succ_cons, List.drop_zero]
    by_cases h1 : 8 < c.toNat
    · rw [if_pos h1, if_pos h1]
    · rw [if_neg h1, if_neg h1]
      by_cases h2 : r.length < c.toNat
      · rw [if_pos h2, if_pos (show r.length + 1 ≤ c.toNat from h2)]
      · rw [if_neg h2, if_neg (show ¬ r.length + 1 ≤ c.toNat from by omega)]
        cases r with
        | nil =>
          have : c.toNat = 0 := by simp at h2; omega
          rw [if_neg (by omega), if_neg (by omega)]
        | cons d t => simp

theorem getD_at (s : ByteArray) (i : Nat) (h : i < s.size) : s.data.toList.getD i 0 = s[i] := by
  rw [List.getD, byte_at s i h]; rfl

theorem not_empty (s : ByteArray) (h : 0 < s.size) : s.toList.isEmpty = false := by
  rw [ByteArray.toList_eq]
  cases hl : s.data.toList with
  | nil => rw [← size_list, hl] at h; simp at h
  | cons c r => rfl

set_option maxHeartbeats 1600000 in
set_option maxRecDepth 100000 in
theorem read_nil (s : ByteArray) (w : World) (h : s.size = 0) :
    Calls Tryd.prog 116 #[.string s] w fun e w' => e = .returned (rv (read s.data.toList)) ∧ Below w.heap.size w w' := by
  obtain rfl : s = ⟨#[]⟩ := by
    apply ByteArray.ext; exact Array.eq_empty_of_size_eq_zero h
  go_enter Tryd.func116, Tryd.ntmps116
  go_wp2
  go_ret3
  exact ⟨rfl, Below.refl _ _⟩

set_option maxHeartbeats 1600000 in
set_option maxRecDepth 100000 in
theorem read_small (s : ByteArray) (w : World) (hs : s.size ≤ 9223372036854775807) (h0 : 0 < s.size) (c : Nat) (hc : s[0].toNat = c) (hc8 : c < 256)
    (hcase : 8 < c ∨ (c ≤ 8 ∧ s.size ≤ c) ∨ (0 < c ∧ c ≤ 8 ∧ c < s.size ∧ ∃ h1 : 1 < s.size, s[1].toNat = 0)) :
    Calls Tryd.prog 116 #[.string s] w fun e w' => e = .returned (rv (read s.data.toList)) ∧ Below w.heap.size w w' := by
  have hne := not_empty s h0
  have hr : read s.data.toList = (0, 0, if 8 < c then 8 else if s.size ≤ c then 10 else 8) := by
    rw [read_eq _ (by rw [size_list]; exact h0), getD_at s 0 h0, hc, size_list]
    rcases hcase with h | ⟨h1, h2⟩ | ⟨h1, h2, h3, h4, h5⟩
    · simp [h]
    · simp [show ¬ 8 < c from by omega, h2]
    · have e : s.data.toList.getD 1 0 = 0 := by rw [getD_at s 1 h4]; exact UInt8.toNat_inj.1 h5
      rw [e]
      simp [show ¬ 8 < c from by omega, show ¬ s.size ≤ c from by omega, h1]
  rw [hr]
  clear hr
  rcases hcase with h | ⟨h1, h2⟩ | ⟨h1, h2, h3, h4, h5⟩
  all_goals go_enter Tryd.func116, Tryd.ntmps116
  all_goals go_wp2
  all_goals go_ret3
  all_goals exact ⟨by simp [rv, *], Below.refl _ _⟩


theorem or_byte (v : Nat) (e : UInt8) (hv : v < 72057594037927936) : bits BinOp.or IntKind.u64 ((v : Int) * 256) (e.toNat : Int) = ((v * 256 + e.toNat : Nat) : Int) := by
  have he := e.toNat_lt
  have h := u64_or_nat (v * 256) e.toNat (by omega) (by omega)
  rw [show ((v : Int) * 256) = ((v * 256 : Nat) : Int) from by omega, h]
  congr 1
  have := Nat.two_pow_add_eq_or_of_lt (i := 8) (b := e.toNat) he v
  rw [show (2 : Nat) ^ 8 * v = v * 256 from by rw [Nat.mul_comm]] at this
  exact this.symm

set_option maxHeartbeats 1600000 in
set_option maxRecDepth 100000 in
theorem read_loop (s : ByteArray) (w : World) (hs : s.size ≤ 9223372036854775807) (h0 : 0 < s.size) (c : Nat) (hc : s[0].toNat = c) (hc8 : c ≤ 8) (hcs : c < s.size)
    (hcase : c = 0 ∨ (0 < c ∧ ∃ (d : Nat) (h1 : 1 < s.size), s[1].toNat = d ∧ 0 < d)) :
    Calls Tryd.prog 116 #[.string s] w fun e w' => e = .returned (rv (read s.data.toList)) ∧ Below w.heap.size w w' := by
  have hne := not_empty s h0
  obtain ⟨t, ht⟩ : ∃ t, t = s.extract 1 (c + 1) := ⟨_, rfl⟩
  have htd : t.data.toList = (s.data.toList.drop 1).take c := by rw [ht, Lib.extract_data]; rfl
  have hr : read s.data.toList = (val t.data.toList, c + 1, 0) := by
    rw [read_eq _ (by rw [size_list]; exact h0), getD_at s 0 h0, hc, size_list, if_neg (by omega), if_neg (by omega), if_neg, htd]
    rintro ⟨h1, h2⟩
    rcases hcase with h | ⟨_, d, h3, h4, h5⟩
    · omega
    · rw [getD_at s 1 h3] at h2
      rw [h2] at h4
      simp at h4
      omega
  have htl : t.size = c := by rw [← size_list, htd, List.length_take, List.length_drop, size_list]; omega
  rw [hr]
  have hse : ¬ s = ByteArray.empty := by intro h; rw [h] at h0; simp at h0
  have hcb : ∀ W, (convert 9 71 (.string (s.extract 1 (c + 1)))).run Tryd.prog W = .ok (.slice (some ⟨W.heap.size, 0, none⟩) c (grownCap W t.size 0 5)) (Lib.bytesWorld W 5 t) := fun W => by
    have h := Lib.run_convert_string_bytes (P := Tryd.prog) W 9 71 5 t Tryd.underlying9 Tryd.underlying71 Tryd.underlying5
    rw [← ht]
    rw [htl] at h ⊢
    exact h
  have hd1 : decide (8 < (c : Int)) = false := by simp; omega
  have hd2 : decide (s.size ≤ c) = false := by simp; omega
  have HR := Lib.hid hr
  have HTD := Lib.hid htd
  have HTL := Lib.hid htl
  have HCS := Lib.hid hcs
  clear hr htd htl ht
  rcases hcase with rfl | ⟨h1, d, h2, h3, h4⟩
  · have hcb0 : ∀ W, (convert 9 71 (.string ByteArray.empty)).run Tryd.prog W = .ok (.slice (some ⟨W.heap.size, 0, none⟩) 0 (grownCap W t.size 0 5)) (Lib.bytesWorld W 5 t) := fun W => by
      have := hcb W
      rw [show s.extract 1 (0 + 1) = ByteArray.empty from by apply ByteArray.ext; simp] at this
      exact this
    clear hcb
    go_enter Tryd.func116, Tryd.ntmps116
    go_wp2
    refine wp_loop_rounds 1 ?_; rw [rounds_succ]
    go_wp2
    go_ret3
    have h0 : t.data.toList = [] := by rw [HTD.out]; rfl
    exact ⟨by rw [h0]; rfl, bytesWorld_below w _ t⟩
  · have hd3 : ((d : Int) == 0) = false := by simp; omega
    have hd4 : decide ((0 : Int) < (c : Int)) = true := by simp; omega
    go_enter Tryd.func116, Tryd.ntmps116
    go_wp2
    go_loop [2, 34] (fun xv iv => ∃ k : Nat, k ≤ c ∧ xv = .int .u64 (val (t.data.toList.take k) : Int) ∧ iv = .int .i64 k) (fun _ iv => c - (intOf iv).toNat)
    case atStart => exact ⟨0, by omega, rfl, rfl⟩
    case round =>
      obtain ⟨k, hk, rfl, rfl⟩ := hrel
      by_cases hlt : k < c
      · have hkl : k < t.data.toList.length := by rw [size_list, HTL.out]; exact hlt
        obtain ⟨e, he⟩ : ∃ e, e = t.data.toList[k] := ⟨_, rfl⟩
        obtain ⟨hcell, _⟩ := bytesWorld_row w 5 t k e (by rw [List.getElem?_eq_getElem hkl, he])
        obtain ⟨v, hv⟩ : ∃ v, v = val (t.data.toList.take k) := ⟨_, rfl⟩
        rw [← hv]
        have hvb : v < 72057594037927936 := by
          have h := val_lt (t.data.toList.take k)
          rw [← hv, List.length_take, Nat.min_eq_left (by omega)] at h
          have hp : 256 ^ k ≤ 256 ^ 7 := Nat.pow_le_pow_right (by omega) (by omega)
          have : (256 : Nat) ^ 7 = 72057594037927936 := by decide
          omega
        have he8 := e.toNat_lt
        have HV := Lib.hid hv
        have HE := Lib.hid he
        clear hv he
        go_wp2
        go_round
        case rel => exact ⟨k + 1, by omega, by rw [or_byte v e hvb, List.take_succ_eq_append_getElem hkl, val_snoc, ← HV.out, ← HE.out], by go_num⟩
        case measure => simp [intOf]; omega
      · obtain rfl : k = c := by omega
        go_wp2
        go_ret3
        refine ⟨?_, bytesWorld_below w _ t⟩
        rw [List.take_of_length_le (by rw [size_list, HTL.out]; exact Nat.le_refl _)]
        rfl


theorem read_calls (s : ByteArray) (w : World) (hs : s.size ≤ maxLen) :
    Calls Tryd.prog 116 #[.string s] w fun e w' => e = .returned (rv (read s.data.toList)) ∧ Below w.heap.size w w' := by
  unfold maxLen at hs
  rcases Nat.eq_zero_or_pos s.size with h | h
  · exact read_nil s w h
  · have h8 : s[0].toNat < 256 := s[0].toNat_lt
    by_cases h1 : 8 < s[0].toNat
    · exact read_small s w hs h _ rfl h8 (Or.inl h1)
    · by_cases h2 : s.size ≤ s[0].toNat
      · exact read_small s w hs h _ rfl h8 (Or.inr (Or.inl ⟨by omega, h2⟩))
      · rcases Nat.eq_zero_or_pos s[0].toNat with h3 | h3
        · exact read_loop s w hs h _ rfl (by omega) (by omega) (Or.inl h3)
        · have h4 : 1 < s.size := by omega
          rcases Nat.eq_zero_or_pos s[1].toNat with h5 | h5
          · exact read_small s w hs h _ rfl h8 (Or.inr (Or.inr ⟨h3, by omega, by omega, h4, h5⟩))
          · exact read_loop s w hs h _ rfl (by omega) (by omega) (Or.inr ⟨h3, _, h4, rfl, h5⟩)

theorem bs_data (l : List UInt8) : (bs l).data.toList = l := rfl

end Go.Proofs.YtaeiahkomdpcoaaDoor.Num
end

section
/- Bricks' bytes, and what a reader answers: plain Lean, no program in sight. -/
namespace Go.Proofs.YtaeiahkomdpcoaaDoor.Wire
open Go.Proofs.YtaeiahkomdpcoaaDoor.Num

abbrev Bs := List UInt8
def textW (s : Bs) : Bs := up s.length ++ s
def numsW : List Nat → Bs
  | [] => []
  | x :: u => up x ++ numsW u
def textsW : List Bs → Bs
  | [] => []
  | s :: t => textW s ++ textsW t
def boolW (b : Bool) : Bs := [if b then 1 else 0]

theorem numsW_append (a b : List Nat) : numsW (a ++ b) = numsW a ++ numsW b := by
  induction a with
  | nil => rfl
  | cons x a ih => simp [numsW, ih]
theorem textsW_append (a b : List Bs) : textsW (a ++ b) = textsW a ++ textsW b := by
  induction a with
  | nil => rfl
  | cons x a ih => simp [textsW, ih]
theorem numsW_take (u : List Nat) (k : Nat) (h : k < u.length) : numsW (u.take (k + 1)) = numsW (u.take k) ++ up u[k] := by
  rw [List.take_succ_eq_append_getElem h, numsW_append]; simp [numsW]
theorem textsW_take (t : List Bs) (k : Nat) (h : k < t.length) : textsW (t.take (k + 1)) = textsW (t.take k) ++ textW t[k] := by
  rw [List.take_succ_eq_append_getElem h, textsW_append]; simp [textsW]
theorem numsW_drop (u : List Nat) (k : Nat) (h : k < u.length) : numsW (u.drop k) = up u[k] ++ numsW (u.drop (k + 1)) := by
  rw [List.drop_eq_getElem_cons h]; rfl
theorem textsW_drop (t : List Bs) (k : Nat) (h : k < t.length) : textsW (t.drop k) = textW t[k] ++ textsW (t.drop (k + 1)) := by
  rw [List.drop_eq_getElem_cons h]; rfl
theorem numsW_len (u : List Nat) : (numsW u).length ≤ 9 * u.length := by
  induction u with
  | nil => simp [numsW]
  | cons x u ih => simp only [numsW, List.length_append, List.length_cons]; have := up_length_le x; omega
theorem textW_len (s : Bs) : (textW s).length ≤ 9 + s.length := by
  simp only [textW, List.length_append]; have := up_length_le s.length; omega
theorem textsW_len (t : List Bs) (m : Nat) (h : ∀ s ∈ t, s.length ≤ m) : (textsW t).length ≤ (9 + m) * t.length := by
  induction t with
  | nil => simp [textsW]
  | cons s t ih =>
    simp only [textsW, List.length_append, List.length_cons]
    have h1 := textW_len s
    have h2 := h s (by simp)
    have h3 := ih (fun x hx => h x (List.mem_cons_of_mem _ hx))
    rw [Nat.mul_succ]; omega

/-- A reader: what is left, and the fault. -/
abbrev St := Bs × Nat
def numR (most : Nat) (st : St) : Nat × St :=
  if st.2 ≠ 0 then (0, st) else if (read st.1).2.2 ≠ 0 then (0, (st.1, (read st.1).2.2)) else if most < (read st.1).1 then (0, (st.1, 9)) else ((read st.1).1, (st.1.drop (read st.1).2.1, 0))
/-- A number of bytes that are there: count, n, e. -/
def countF (s : Bs) (most : Int) : Nat × Nat × Nat :=
  if (read s).2.2 ≠ 0 then (0, 0, (read s).2.2) else if most < 0 ∨ most < ((read s).1 : Int) then (0, 0, 4) else if s.length - (read s).2.1 < (read s).1 then (0, 0, 10) else ((read s).1, (read s).2.1, 0)
def textR (most : Int) (st : St) : Bs × St :=
  if st.2 ≠ 0 then ([], st) else if (countF st.1 most).2.2 ≠ 0 then ([], (st.1, (countF st.1 most).2.2)) else ((st.1.drop (countF st.1 most).2.1).take (countF st.1 most).1, (st.1.drop ((countF st.1 most).2.1 + (countF st.1 most).1), 0))
def boolR (st : St) : Bool × St :=
  if st.2 ≠ 0 then (false, st) else match st.1 with
    | [] => (false, ([], 10))
    | c :: r => if 1 < c.toNat then (false, (c :: r, 8)) else (decide (c.toNat = 1), (r, 0))

theorem numR_whole (x : Nat) (hx : x < 18446744073709551616) (s : Bs) : numR 18446744073709551615 (up x ++ s, 0) = (x, (s, 0)) := by
  have h := read_up x s hx
  simp only [numR, h]
  rw [if_neg (by simp), if_neg (by simp), if_neg (by omega)]
  simp
theorem textR_whole (t s : Bs) (ht : t.length < 18446744073709551616) : textR (t.length : Int) (textW t ++ s, 0) = (t, (s, 0)) := by
  have h := read_up t.length (t ++ s) ht
  have hc : countF (textW t ++ s) (t.length : Int) = (t.length, (up t.length).length, 0) := by
    unfold countF textW
    rw [List.append_assoc, h]
    rw [if_neg (by simp), if_neg (by omega), if_neg (by simp only [List.length_append]; omega)]
  unfold textR
  simp only [hc]
  rw [if_neg (by simp), if_neg (by simp)]
  simp only [textW, List.append_assoc, List.drop_append, List.drop_length, List.nil_append, Nat.sub_self, List.drop_zero, List.take_left']
  simp
theorem boolR_whole (b : Bool) (s : Bs) : boolR (boolW b ++ s, 0) = (b, (s, 0)) := by
  cases b <;> simp [boolR, boolW]

/-- What stands in a reader of bytes that were cut off. -/
def Cut (rem : Bs) (st : St) : Prop := (∃ c, c < rem.length ∧ st = (rem.take c, 0)) ∨ st.2 = 10

theorem numR_stuck (m : Nat) (st : St) (h : st.2 = 10) : (numR m st).2 = st := by unfold numR; rw [if_pos (by omega)]
theorem textR_stuck (m : Int) (st : St) (h : st.2 = 10) : (textR m st).2 = st := by unfold textR; rw [if_pos (by omega)]
theorem boolR_stuck (st : St) (h : st.2 = 10) : (boolR st).2 = st := by unfold boolR; rw [if_pos (by omega)]

theorem take_more (a b : Bs) (c : Nat) (h : a.length ≤ c) : (a ++ b).take c = a ++ b.take (c - a.length) := by
  rw [List.take_append, List.take_of_length_le h]
theorem take_less (a b : Bs) (c : Nat) (h : c ≤ a.length) : (a ++ b).take c = a.take c := by
  rw [List.take_append, Nat.sub_eq_zero_of_le h, List.take_zero, List.append_nil]

theorem cut_num {x : Nat} (hx : x < 18446744073709551616) {rem : Bs} {st : St} (h : Cut (up x ++ rem) st) : Cut rem (numR 18446744073709551615 st).2 := by
  rcases h with ⟨c, hc, rfl⟩ | h
  · by_cases hl : c < (up x).length
    · right
      rw [take_less _ _ _ (by omega)]
      unfold numR
      rw [read_cut x c hl]
      simp
    · left
      rw [take_more _ _ _ (by omega), numR_whole x hx]
      refine ⟨c - (up x).length, ?_, rfl⟩
      rw [List.length_append] at hc; omega
  · rw [numR_stuck _ _ h]; exact .inr h
theorem cut_text {t rem : Bs} (ht : t.length < 18446744073709551616) {st : St} (h : Cut (textW t ++ rem) st) : Cut rem (textR (t.length : Int) st).2 := by
  rcases h with ⟨c, hc, rfl⟩ | h
  · by_cases hl : c < (up t.length).length
    · right
      unfold textW
      rw [List.append_assoc, take_less _ _ _ (by omega)]
      unfold textR countF
      rw [read_cut t.length c hl]
      simp
    · by_cases hl2 : c < (textW t).length
      · right
        have hl3 : c - (up t.length).length < t.length := by unfold textW at hl2; rw [List.length_append] at hl2; omega
        unfold textW
        rw [List.append_assoc, take_more _ _ _ (by omega), take_less _ _ _ (by omega)]
        have hc2 : countF (up t.length ++ t.take (c - (up t.length).length)) (t.length : Int) = (0, 0, 10) := by
          unfold countF
          rw [read_up _ _ ht]
          rw [if_neg (by simp), if_neg (by omega), if_pos]
          dsimp only
          rw [List.length_append, List.length_take]; omega
        unfold textR
        simp only [hc2]
        simp
      · left
        rw [take_more _ _ _ (by omega), textR_whole t _ ht]
        refine ⟨c - (textW t).length, ?_, rfl⟩
        rw [List.length_append] at hc; omega
  · rw [textR_stuck _ _ h]; exact .inr h
theorem cut_bool {b : Bool} {st : St} (h : Cut (boolW b) st) : (boolR st).2.2 = 10 := by
  rcases h with ⟨c, hc, rfl⟩ | h
  · obtain rfl : c = 0 := by simp [boolW] at hc; omega
    simp [boolR]
  · rw [boolR_stuck _ h]; exact h

theorem up_ne (x : Nat) (s : Bs) : up x ++ s ≠ [] := by simp [up]
theorem up_apart {x y : Nat} (hx : x < 18446744073709551616) (hy : y < 18446744073709551616) {a b : Bs} (h : up x ++ a = up y ++ b) : x = y ∧ a = b := by
  have h1 := read_up x a hx
  rw [h, read_up y b hy] at h1
  have : y = x := congrArg (·.1) h1
  subst this
  exact ⟨rfl, List.append_cancel_left h⟩
theorem numsW_inj : ∀ (u v : List Nat), (∀ x ∈ u, x < 18446744073709551616) → (∀ x ∈ v, x < 18446744073709551616) → numsW u = numsW v → u = v := by
  intro u
  induction u with
  | nil => intro v _ _ h; cases v with
    | nil => rfl
    | cons y v => exact absurd h.symm (up_ne _ _)
  | cons x u ih => intro v hu hv h; cases v with
    | nil => exact absurd h (up_ne _ _)
    | cons y v =>
      obtain ⟨rfl, h2⟩ := up_apart (hu x (by simp)) (hv y (by simp)) h
      rw [ih v (fun z hz => hu z (List.mem_cons_of_mem _ hz)) (fun z hz => hv z (List.mem_cons_of_mem _ hz)) h2]
theorem textsW_inj : ∀ (u v : List Bs), (∀ x ∈ u, x.length < 18446744073709551616) → (∀ x ∈ v, x.length < 18446744073709551616) → textsW u = textsW v → u = v := by
  intro u
  induction u with
  | nil => intro v _ _ h; cases v with
    | nil => rfl
    | cons y v => exact absurd h.symm (by simp [textsW, textW, up])
  | cons x u ih => intro v hu hv h; cases v with
    | nil => exact absurd h (by simp [textsW, textW, up])
    | cons y v =>
      simp only [textsW, textW, List.append_assoc] at h
      obtain ⟨h1, h2⟩ := up_apart (hu x (by simp)) (hv y (by simp)) h
      obtain ⟨rfl, h3⟩ := List.append_inj h2 h1
      rw [ih v (fun z hz => hu z (List.mem_cons_of_mem _ hz)) (fun z hz => hv z (List.mem_cons_of_mem _ hz)) h3]

end Go.Proofs.YtaeiahkomdpcoaaDoor.Wire
end

section
/- The walks of wire.Nums, wire.Texts, wire.Bool and of the document's bricks. -/
namespace Go.Proofs.YtaeiahkomdpcoaaDoor.Wire
open Go.RowKit Go.Proofs.YtaeiahkomdpcoaaDoor.Num

theorem below_at {B : Nat} {w wx w' : World} (h : Below B w wx) (h' : Below B wx w') : Below B w w' := h.trans h'

/-- A builder that holds these bytes. -/
def Bld (B b : Nat) (l : Bs) (w : World) : Prop := Lib.IsBuilderF 123 5 B b (Lib.byteCells l) w
theorem bld_fresh (w : World) : Bld w.heap.size w.heap.size [] (w.alloc (.cells #[.pointer none, .slice none 0 0] 123)) := Lib.IsBuilderF.of (Lib.fresh_isBuilder _ _ w)
theorem bld_below {B b : Nat} {l : Bs} {w w' : World} (h : Bld B b l w) (hb : Below w.heap.size w w') : Bld B b l w' := by
  have hg : w.grownBy w' none := ⟨hb.os, hb.tape, hb.output, hb.size, fun i hi _ => hb.block i hi⟩
  rcases h with ⟨hB, v, hbk, hown, hne⟩ | ⟨hB, v, hbk, hown, hne⟩
  · exact .inl ⟨hB, v, (hb.block b (Array.getElem?_eq_some_iff.1 hbk).1).trans hbk, hown.kept hg (by cases hv : v.ownBlock <;> simp), hne⟩
  · exact .inr ⟨hB, v, (hb.block b (Array.getElem?_eq_some_iff.1 hbk).1).trans hbk, hown.kept hg (by cases hv : v.ownBlock <;> simp), hne⟩
theorem write_bs (B b : Nat) (l s : Bs) (w : World) (h : Bld B b l w) (hlen : l.length + s.length ≤ 140737488355328) (hBw : B ≤ w.heap.size) :
    Calls Tryd.prog 86 #[.pointer (some ⟨b, 0, none⟩), .string (bs s)] w fun e w' => e = .returned (.tuple #[.int .i64 (s.length : Int), .nilIface]) ∧ Bld B b (l ++ s) w' ∧ Below B w w' := by
  refine (write_calls B b (Lib.byteCells l) (bs s) w h (by rw [Lib.byteCells_length, bs_size]; exact hlen) hBw).mono ?_
  rintro e w' ⟨rfl, h1, h2⟩
  refine ⟨by rw [bs_size], ?_, h2⟩
  unfold Bld
  rw [Lib.byteCells_append]
  exact h1
theorem string_bs (B b : Nat) (l : Bs) (w : World) (h : Bld B b l w) (hBw : B ≤ w.heap.size) :
    Calls Tryd.prog 88 #[.pointer (some ⟨b, 0, none⟩)] w fun e w' => e = .returned (.string (bs l)) ∧ Below B w w' :=
  (Tryd.Builder_String_any_f B b l w h hBw).mono fun _ _ ⟨h1, _, h2⟩ => ⟨h1, h2⟩

set_option maxHeartbeats 1600000 in
set_option maxRecDepth 100000 in
theorem nums_calls (A : Option Addr) (c : Nat) (u : List Nat) (w : World) (h : ListAt w A (numsV u)) (hu : ∀ x ∈ u, x < 18446744073709551616) (hn : u.length ≤ 1000) :
    Calls Tryd.prog 79 #[.slice A u.length c] w fun e w' => e = .returned (.string (bs (numsW u))) ∧ Below w.heap.size w w' := by
  have hl9 := numsW_len u
  have h0 := bld_fresh w
  have b0 := below_one w (.cells #[.pointer none, .slice none 0 0] 123)
  go_enter Tryd.func79, Tryd.ntmps79
  go_wp2
  go_loopw [8] (fun iv wr => ∃ k : Nat, k ≤ u.length ∧ iv = .int .i64 k ∧ Bld w.heap.size w.heap.size (numsW (u.take k)) wr ∧ Below w.heap.size w wr) (fun iv _ => u.length - (intOf iv).toNat)
  case atStart => exact ⟨0, by omega, rfl, h0, b0⟩
  case round =>
    obtain ⟨k, hk, rfl, hB, hb⟩ := hrel
    have hbs := hb.size
    by_cases hlt : k < u.length
    · obtain ⟨ad, rfl, _, hcx⟩ := (h.below hb).num hlt
      have hx : Hid (u[k] < 18446744073709551616) := hu _ (List.getElem_mem hlt)
      have HK := Lib.hid (numsW_take u k hlt)
      have hl2 : (numsW (u.take k)).length ≤ 9000 := by
        have := numsW_len (u.take k); rw [List.length_take] at this; omega
      obtain ⟨x, hxe⟩ : ∃ x, x = u[k] := ⟨_, rfl⟩
      rw [← hxe] at hcx hx HK
      clear hxe
      have hx9 := up_length_le x
      go_wp2_with fail
      refine (up_calls x _ hx).mono ?_
      rintro e w1 ⟨rfl, hb1⟩
      have hB1 := bld_below hB hb1
      go_wp2_with fail
      refine (write_bs w.heap.size w.heap.size _ (up x) w1 hB1 (by omega) (by have := hb1.size; omega)).mono ?_
      rintro e w2 ⟨rfl, hB2, hb2⟩
      go_wp2
      go_roundw
      case rel =>
        refine ⟨k + 1, by omega, by go_num, ?_, (hb.trans (hb1.mono hbs)).trans hb2⟩
        rw [HK.out]; exact hB2
      case measure => simp [intOf]; omega
    · obtain rfl : k = u.length := by omega
      rw [List.take_length] at hB
      go_wp2_with fail
      refine (string_bs w.heap.size w.heap.size _ _ hB hbs).mono ?_
      rintro e w1 ⟨rfl, hb1⟩
      go_wp2
      go_ret
      exact ⟨rfl, hb.trans hb1⟩

abbrev dt (t : List ByteArray) : List Bs := t.map fun s => s.data.toList
theorem app_bs (l : Bs) (s : ByteArray) : bs l ++ s = bs (l ++ s.data.toList) := by
  rw [← bs_append]; rfl
theorem dt_len (t : List ByteArray) (m : Nat) (h : ∀ s ∈ t, s.size ≤ m) : ∀ s ∈ dt t, s.length ≤ m := fun s hs => by
  obtain ⟨x, hx, rfl⟩ := List.mem_map.1 hs
  have := h x hx
  rwa [size_list]

set_option maxHeartbeats 1600000 in
set_option maxRecDepth 100000 in
theorem texts_calls (A : Option Addr) (c : Nat) (t : List ByteArray) (w : World) (h : ListAt w A (textsV t)) (hu : ∀ s ∈ t, s.size ≤ 4096) (hn : t.length ≤ 1000) :
    Calls Tryd.prog 80 #[.slice A t.length c] w fun e w' => e = .returned (.string (bs (textsW (dt t)))) ∧ Below w.heap.size w w' := by
  have h0 := bld_fresh w
  have b0 := below_one w (.cells #[.pointer none, .slice none 0 0] 123)
  go_enter Tryd.func80, Tryd.ntmps80
  go_wp2
  go_loopw [8] (fun iv wr => ∃ k : Nat, k ≤ t.length ∧ iv = .int .i64 k ∧ Bld w.heap.size w.heap.size (textsW (dt (t.take k))) wr ∧ Below w.heap.size w wr) (fun iv _ => t.length - (intOf iv).toNat)
  case atStart => exact ⟨0, by omega, rfl, h0, b0⟩
  case round =>
    obtain ⟨k, hk, rfl, hB, hb⟩ := hrel
    have hbs := hb.size
    by_cases hlt : k < t.length
    · obtain ⟨ad, rfl, _, hcx⟩ := (h.below hb).text hlt
      have hx4 := hu _ (List.getElem_mem hlt)
      have hkl : k < (dt t).length := by rw [List.length_map]; exact hlt
      have HK := Lib.hid (textsW_take (dt t) k hkl)
      rw [List.getElem_map, ← List.map_take, ← List.map_take] at HK
      have hl2 : (textsW (dt (t.take k))).length ≤ 4105000 := by
        have h1 := textsW_len (dt (t.take k)) 4096 (dt_len _ _ (fun s hs => hu s (List.mem_of_mem_take hs)))
        rw [List.length_map, List.length_take] at h1; omega
      obtain ⟨x, hxe⟩ : ∃ x, x = t[k] := ⟨_, rfl⟩
      rw [← hxe] at hcx hx4 HK
      clear hxe hkl
      have hx9 := up_length_le x.size
      have hxl : (textW x.data.toList).length ≤ 9 + x.size := by have := textW_len x.data.toList; rwa [size_list] at this
      have hu64 : IntKind.u64.wrap (x.size : Int) = (x.size : Int) := IntWalk.u64_in _ (by omega)
      have hsz : ¬ 9223372036854775807 < (bs (up x.size)).size + x.size := by rw [bs_size]; omega
      go_wp2_with fail
      refine (up_calls x.size _ (Lib.hid (by omega))).mono ?_
      rintro e w1 ⟨rfl, hb1⟩
      have hB1 := bld_below hB hb1
      go_wp2_with fail
      rw [app_bs]
      refine (write_bs w.heap.size w.heap.size _ (up x.size ++ x.data.toList) w1 hB1 (by rw [List.length_append, size_list]; omega) (by have := hb1.size; omega)).mono ?_
      rintro e w2 ⟨rfl, hB2, hb2⟩
      go_wp2
      go_roundw
      case rel =>
        refine ⟨k + 1, by omega, by go_num, ?_, (hb.trans (hb1.mono hbs)).trans hb2⟩
        rw [HK.out]
        unfold textW
        rw [size_list]
        exact hB2
      case measure => simp [intOf]; omega
    · obtain rfl : k = t.length := by omega
      rw [List.take_length] at hB
      go_wp2_with fail
      refine (string_bs w.heap.size w.heap.size _ _ hB hbs).mono ?_
      rintro e w1 ⟨rfl, hb1⟩
      go_wp2
      go_ret
      exact ⟨rfl, hb.trans hb1⟩

theorem bool_calls (b : Bool) (w : World) : Calls Tryd.prog 82 #[.bool b] w fun e w' => e = .returned (.string (bs (boolW b))) ∧ Below w.heap.size w w' := by
  cases b
  · go_enter Tryd.func82, Tryd.ntmps82
    go_wp2
    go_ret
    exact ⟨rfl, Below.refl _ _⟩
  · go_enter Tryd.func82, Tryd.ntmps82
    go_wp2
    go_ret
    exact ⟨rfl, Below.refl _ _⟩

end Go.Proofs.YtaeiahkomdpcoaaDoor.Wire
end
