/- Texts merged into one: part 9 of 12. -/
import Derived.Conc.EventLaws
import Derived.Lib.Strings
import Derived.Conc.SmallLaws
import Derived.Test.YtaeiahkomdpcoaaDoorW8
import Derived.Test.YtaeiahkomdpcoaaDoorW5
import Derived.Test.YtaeiahkomdpcoaaDoorW3

section
/- page.put: an item goes into the channel where there is room. -/
namespace Go.Proofs.YtaeiahkomdpcoaaDoor.Chan
open Go Go.RowKit Go.Conc

attribute [local go_sem] Oper.semAt_some

set_option maxRecDepth 100000 in
theorem put_room (c cap s r : Nat) (buf : Array Value) (nm : ByteArray) (n len : Int) (g : Bool) (w : World) (hc : w.heap[c]? = some (.chan cap buf false s r false)) (hroom : buf.size < cap) :
    Calls Tryd.prog 58 #[.chan (some c), .agg #[.string nm, .int .u64 n, .int .i64 len, .bool g]] w fun e w' =>
      e = .returned (.bool true) ∧ w' = (w.alloc (.cells #[.string nm, .int .u64 n, .int .i64 len, .bool g] 59)).setChan c cap (buf.push (.agg #[.string nm, .int .u64 n, .int .i64 len, .bool g])) false (s + 1) r false := by
  have hb0 := below_one w (.cells #[.string nm, .int .u64 n, .int .i64 len, .bool g] 59)
  have hcw := (hb0.block _ (Array.getElem?_eq_some_iff.1 hc).1).trans hc
  clear hc hb0
  go_enter Tryd.func58, Tryd.ntmps58
  iterate 29 go_step
  refine wp_room (c := c) (v := .agg #[.string nm, .int .u64 n, .int .i64 len, .bool g]) (z' := .agg #[.string ⟨#[]⟩, .int .u64 0, .int .i64 0, .bool false]) rfl (by simp [go_sem, execOp, scase, Act.eval]) hcw hroom ?_
  clear hcw
  go_wp2
  go_ret
  exact ⟨rfl, rfl⟩

set_option maxRecDepth 100000 in
theorem put_full (c cap s r : Nat) (buf : Array Value) (nm : ByteArray) (n len : Int) (g : Bool) (w : World) (hc : w.heap[c]? = some (.chan cap buf false s r false)) (hroom : cap ≤ buf.size) :
    Calls Tryd.prog 58 #[.chan (some c), .agg #[.string nm, .int .u64 n, .int .i64 len, .bool g]] w fun e w' =>
      e = .returned (.bool false) ∧ w' = w.alloc (.cells #[.string nm, .int .u64 n, .int .i64 len, .bool g] 59) := by
  have hb0 := below_one w (.cells #[.string nm, .int .u64 n, .int .i64 len, .bool g] 59)
  have hcw := (hb0.block _ (Array.getElem?_eq_some_iff.1 hc).1).trans hc
  clear hc hb0
  go_enter Tryd.func58, Tryd.ntmps58
  iterate 29 go_step
  refine wp_full (c := c) (v := .agg #[.string nm, .int .u64 n, .int .i64 len, .bool g]) (z' := .agg #[.string ⟨#[]⟩, .int .u64 0, .int .i64 0, .bool false]) rfl (by simp [go_sem, execOp, scase, Act.eval]) hcw hroom ?_
  clear hcw
  go_wp2
  go_ret
  exact ⟨rfl, rfl⟩

end Go.Proofs.YtaeiahkomdpcoaaDoor.Chan
end

section
/- A page's items in memory. -/
namespace Go.Proofs.YtaeiahkomdpcoaaDoor.Page
open Go Go.RowKit Go.Deep Go.Proofs.YtaeiahkomdpcoaaDoor.Seq

def itCells (vs : List Ver) : List Value := vs.flatMap fun v => [.string v.nm, .int .u64 (v.n : Int), .int .i64 v.len, .bool v.gone]
theorem itCells_len (vs : List Ver) : (itCells vs).length = vs.length * 4 := by
  induction vs with
  | nil => rfl
  | cons p ps ih => simp only [itCells, List.flatMap_cons, List.length_append, List.length_cons, List.length_nil] at ih ⊢; omega
theorem itCells_app (xs ys : List Ver) : itCells (xs ++ ys) = itCells xs ++ itCells ys := by simp [itCells]
theorem itCells_get : ∀ (ps : List Ver) (i : Nat) (p : Ver), ps[i]? = some p → (itCells ps)[i * 4]? = some (.string p.nm) ∧ (itCells ps)[i * 4 + 1]? = some (.int .u64 (p.n : Int)) ∧ (itCells ps)[i * 4 + 2]? = some (.int .i64 p.len) ∧ (itCells ps)[i * 4 + 3]? = some (.bool p.gone)
  | [], _, _, h => by simp at h
  | q :: ps, 0, p, h => by
    simp at h; subst h
    exact ⟨rfl, rfl, rfl, rfl⟩
  | q :: ps, i + 1, p, h => by
    have ih := itCells_get ps i p (by simpa using h)
    have e : ∀ n, (itCells (q :: ps))[n + 4]? = (itCells ps)[n]? := fun n => by
      show ([.string q.nm, .int .u64 (q.n : Int), .int .i64 q.len, .bool q.gone] ++ itCells ps)[n + 4]? = _
      rw [List.getElem?_append_right (by simp)]; rfl
    refine ⟨?_, ?_, ?_, ?_⟩
    · rw [show (i + 1) * 4 = i * 4 + 4 by omega, e]; exact ih.1
    · rw [show (i + 1) * 4 + 1 = (i * 4 + 1) + 4 by omega, e]; exact ih.2.1
    · rw [show (i + 1) * 4 + 2 = (i * 4 + 2) + 4 by omega, e]; exact ih.2.2.1
    · rw [show (i + 1) * 4 + 3 = (i * 4 + 3) + 4 by omega, e]; exact ih.2.2.2
/-- A row of items. -/
def ItsAt (w : World) (A : Option Addr) (vs : List Ver) : Prop := ∀ i p, vs[i]? = some p → ∃ ad, A = some ad ∧ ad.block < w.heap.size ∧ w.cell? (ad.add (i * 4)) = some (.string p.nm) ∧ w.cell? (ad.add (i * 4 + 1)) = some (.int .u64 (p.n : Int)) ∧ w.cell? (ad.add (i * 4 + 2)) = some (.int .i64 p.len) ∧ w.cell? (ad.add (i * 4 + 3)) = some (.bool p.gone)
theorem ItsAt.nil (w : World) (A : Option Addr) : ItsAt w A [] := fun i p h => by simp at h
theorem ItsAt.below {w w' : World} {A : Option Addr} {vs : List Ver} (h : ItsAt w A vs) (hb : Below w.heap.size w w') : ItsAt w' A vs := fun i s hs => by
  obtain ⟨ad, h0, h1, h2, h3, h4, h5⟩ := h i s hs
  have hk : ∀ n, w'.cell? (ad.add n) = w.cell? (ad.add n) := fun n => World.cell?_of_block (by rw [block_of_add]; exact hb.block _ h1)
  exact ⟨ad, h0, Nat.lt_of_lt_of_le h1 hb.size, (hk _).trans h2, (hk _).trans h3, (hk _).trans h4, (hk _).trans h5⟩
theorem ItsAt.at_ {w : World} {A : Option Addr} {vs : List Ver} (h : ItsAt w A vs) {k : Nat} (hk : k < vs.length) : ∃ ad, A = some ad ∧ ad.block < w.heap.size ∧ w.cell? (ad.add (k * 4)) = some (.string vs[k].nm) ∧ w.cell? ⟨(ad.add (k * 4)).block, (ad.add (k * 4)).off + 1, none⟩ = some (.int .u64 (vs[k].n : Int)) ∧
    w.cell? ⟨(ad.add (k * 4)).block, (ad.add (k * 4)).off + 2, none⟩ = some (.int .i64 vs[k].len) ∧ w.cell? ⟨(ad.add (k * 4)).block, (ad.add (k * 4)).off + 3, none⟩ = some (.bool vs[k].gone) := by
  obtain ⟨ad, h0, h1, h2, h3, h4, h5⟩ := h k _ (List.getElem?_eq_getElem hk)
  refine ⟨ad, h0, h1, h2, ?_, ?_, ?_⟩
  · rw [← h3, ← Deep.add_add]; rfl
  · rw [← h4, ← Deep.add_add]; rfl
  · rw [← h5, ← Deep.add_add]; rfl
theorem ItsAt.other {w : World} {A : Option Addr} {vs : List Ver} (h : ItsAt w A vs) (a : Addr) (hne : ∀ ad, A = some ad → ad.block ≠ a.block) (v : Value) : ItsAt (w.setCell a v) A vs := fun i s hs => by
  obtain ⟨ad, h0, h1, h2, h3, h4, h5⟩ := h i s hs
  have hk : ∀ n, (w.setCell a v).cell? (ad.add n) = w.cell? (ad.add n) := fun n => World.cell?_of_block (by rw [block_of_add]; exact Below.heap_setCell _ _ _ _ (hne ad h0))
  exact ⟨ad, h0, by simpa [World.setCell] using h1, (hk _).trans h2, (hk _).trans h3, (hk _).trans h4, (hk _).trans h5⟩
theorem ItsAt.grown {w w' : World} {A : Option Addr} {vs : List Ver} {o : Option Nat} (h : ItsAt w A vs) (hne : ∀ ad, A = some ad → o ≠ some ad.block) (hg : w.grownBy w' o) : ItsAt w' A vs := fun i s hs => by
  obtain ⟨ad, h0, h1, h2, h3, h4, h5⟩ := h i s hs
  have hk : ∀ n, w'.cell? (ad.add n) = w.cell? (ad.add n) := fun n => World.cell?_of_block (by rw [block_of_add]; exact hg.block _ h1 (fun e => hne ad h0 e.symm))
  exact ⟨ad, h0, Nat.lt_of_lt_of_le h1 hg.size, (hk _).trans h2, (hk _).trans h3, (hk _).trans h4, (hk _).trans h5⟩
abbrev OwnI (w : World) (B : Nat) (A : Option Addr) (cp : Nat) (vs : List Ver) : Prop := w.ownsRow B 59 4 (.slice A vs.length cp) vs.length (itCells vs)
theorem its_of_own {w' : World} {base : Nat} {v : Value} {vs : List Ver} (h : w'.ownsRow base 59 4 v vs.length (itCells vs)) :
    ∃ A c, v = .slice A vs.length c ∧ ItsAt w' A vs ∧ ∀ ad, A = some ad → base ≤ ad.block := by
  rcases h.2 with ⟨hv, hn⟩ | ⟨g, cap, cur, hv, hg, hh, hle, _, _, hcur⟩
  · have hp : vs = [] := List.eq_nil_of_length_eq_zero hn
    exact ⟨none, 0, by rw [hv, hn], by rw [hp]; exact ItsAt.nil _ _, fun ad h => by cases h⟩
  · subst hv
    refine ⟨_, _, rfl, fun i p hp => ⟨_, rfl, (Array.getElem?_eq_some_iff.1 hh).1, ?_, ?_, ?_, ?_⟩, fun ad h => by cases h; exact hg⟩
    · exact h.cells (g := g) rfl _ _ (itCells_get vs i p hp).1
    · exact h.cells (g := g) rfl _ _ (itCells_get vs i p hp).2.1
    · exact h.cells (g := g) rfl _ _ (itCells_get vs i p hp).2.2.1
    · exact h.cells (g := g) rfl _ _ (itCells_get vs i p hp).2.2.2
theorem infoItem : (Tryd.prog.info? 59).map (fun i => (i.zero, i.size, i.bytes)) = some (some (.agg #[.string ⟨#[]⟩, .int .u64 0, .int .i64 0, .bool false]), 4, 40) := by kernel_rfl

/-- A page in a block. -/
def PgRow (w : World) (b : Nat) (A : Option Addr) (n cp : Nat) (m : Bool) : Prop := w.heap[b]? = some (.cells #[.slice A n cp, .bool m] 52 (0, 0))
section
variable {w w' : World} {b : Nat} {A : Option Addr} {n cp : Nat} {m : Bool}
theorem PgRow.lt (h : PgRow w b A n cp m) : b < w.heap.size := (Array.getElem?_eq_some_iff.1 h).1
theorem PgRow.below (h : PgRow w b A n cp m) (hb : Below w.heap.size w w') : PgRow w' b A n cp m := (hb.block _ h.lt).trans h
theorem PgRow.grown {o : Option Nat} (h : PgRow w b A n cp m) (hg : w.grownBy w' o) (hne : o ≠ some b) : PgRow w' b A n cp m := (hg.block _ h.lt (fun e => hne e.symm)).trans h
theorem PgRow.c (h : PgRow w b A n cp m) : w.cell? ⟨b, 0, none⟩ = some (.slice A n cp) ∧ w.cell? ⟨b, 1, none⟩ = some (.bool m) := by
  refine ⟨?_, ?_⟩ <;> (rw [Joins.cell_of_block h]; rfl)
theorem PgRow.f (h : PgRow w b A n cp m) (k : Nat) : w.frozen? ⟨b, k, none⟩ = false := Lib.frozen_of_heap h k
theorem PgRow.set0 (h : PgRow w b A n cp m) (A' : Option Addr) (n' cp' : Nat) : PgRow (w.setCell ⟨b, 0, none⟩ (.slice A' n' cp')) b A' n' cp' m := by
  unfold PgRow at h ⊢; simp [World.setCell, Array.getElem?_modify, h]
theorem PgRow.set1 (h : PgRow w b A n cp m) (m' : Bool) : PgRow (w.setCell ⟨b, 1, none⟩ (.bool m')) b A n cp m' := by
  unfold PgRow at h ⊢; simp [World.setCell, Array.getElem?_modify, h]
theorem PgRow.other (h : PgRow w b A n cp m) (a : Addr) (ha : a.block ≠ b) (v : Value) : PgRow (w.setCell a v) b A n cp m :=
  (Below.heap_setCell _ _ _ _ (fun e => ha e.symm)).trans h
theorem pgRow_new (w : World) (A : Option Addr) (n cp : Nat) (m : Bool) : PgRow (w.alloc (.cells #[.slice A n cp, .bool m] 52)) w.heap.size A n cp m := (MapKept.heap_alloc w _).1
end
theorem own_page {w : World} {B : Nat} {A : Option Addr} {cp : Nat} {vs : List Ver} (h : OwnI w B A cp vs) {b : Nat} {A' : Option Addr} {n c : Nat} {m : Bool} (hb : PgRow w b A' n c m) : (Value.slice A vs.length cp).ownBlock ≠ some b := fun e => by
  rcases h.2 with ⟨hv, _⟩ | ⟨g, cap, cur, hv, _, hh, _⟩
  · rw [hv] at e; cases e
  · rw [hv] at e
    have : g = b := by simpa [Value.ownBlock] using e
    subst this
    unfold PgRow at hb
    rw [hb] at hh
    have h2 := Option.some.inj hh
    injection h2 with _ h3 _
    exact absurd h3 (by decide)
theorem own_page_addr {w : World} {B : Nat} {A : Option Addr} {cp : Nat} {vs : List Ver} (h : OwnI w B A cp vs) {b : Nat} {A' : Option Addr} {n c : Nat} {m : Bool} (hb : PgRow w b A' n c m) : ∀ ad, A = some ad → ad.block ≠ b := fun ad h1 h2 => by
  subst h1
  exact own_page h hb (by simp [Value.ownBlock, h2])
theorem ownI_low {w : World} {B : Nat} {A : Option Addr} {cp : Nat} {vs : List Ver} (h : OwnI w B A cp vs) {p : Nat} (hp : p < B) : (Value.slice A vs.length cp).ownBlock = none ∨ (Value.slice A vs.length cp).ownBlock ≠ some p := by
  cases hb : (Value.slice A vs.length cp).ownBlock with
  | none => exact .inl rfl
  | some k => exact .inr (fun e => by have := (h.lt k hb).1; cases e; omega)
theorem grown_one (w : World) (a : Addr) (v : Value) : w.grownBy (w.setCell a v) (some a.block) :=
  ⟨rfl, rfl, rfl, by simp [World.setCell], fun k hk hne => Below.heap_setCell _ _ _ _ (fun e => hne (by rw [e]))⟩
/-- What is written lies above n₀. -/
theorem below_own {n₀ : Nat} {w a b : World} {o : Option Nat} (h : Below n₀ w a) (k : a.grownBy b o) (hn : n₀ ≤ a.heap.size) (ho : ∀ r, o = some r → n₀ ≤ r) : Below n₀ w b :=
  ⟨k.os.trans h.os, k.tape.trans h.tape, k.output.trans h.output, Nat.le_trans h.size k.size, fun i hi => (k.block i (by omega) (fun e => by have := ho i e.symm; omega)).trans (h.block i hi)⟩

theorem below_grown0 {W W' : World} (h : Below W.heap.size W W') : W.grownBy W' none := ⟨h.os, h.tape, h.output, h.size, fun k hk _ => h.block k hk⟩
/-- What is written lies in block c or above what there was. -/
theorem grown_by {w a b : World} {c : Nat} {o : Option Nat} (h : w.grownBy a (some c)) (k : a.grownBy b o) (ho : ∀ r, o = some r → r = c ∨ w.heap.size ≤ r) : w.grownBy b (some c) :=
  ⟨k.os.trans h.os, k.tape.trans h.tape, k.output.trans h.output, Nat.le_trans h.size k.size, fun i hi hne => (k.block i (Nat.lt_of_lt_of_le hi h.size) (fun e => by
    rcases ho i e.symm with h1 | h1
    · exact hne (by rw [h1])
    · omega)).trans (h.block i hi hne)⟩

end Go.Proofs.YtaeiahkomdpcoaaDoor.Page
end

section
/- page.whole: what lies in the channel becomes a page. -/
namespace Go.Proofs.YtaeiahkomdpcoaaDoor.Page
open Go Go.RowKit Go.Conc Go.Proofs.YtaeiahkomdpcoaaDoor.Seq Go.Proofs.YtaeiahkomdpcoaaDoor.Chan

attribute [local go_sem] Oper.semAt_some

def ChRow (w : World) (c cap : Nat) (vs : List Ver) (closed : Bool) : Prop := ∃ s r, w.heap[c]? = some (.chan cap (vs.map Ver.item).toArray closed s r false)
theorem ChRow.lt {w : World} {c cap : Nat} {vs : List Ver} {closed : Bool} (h : ChRow w c cap vs closed) : c < w.heap.size := let ⟨_, _, h⟩ := h; (Array.getElem?_eq_some_iff.1 h).1
theorem ChRow.grown {w w' : World} {c cap : Nat} {vs : List Ver} {closed : Bool} {o : Option Nat} (h : ChRow w c cap vs closed) (hg : w.grownBy w' o) (hne : o ≠ some c) : ChRow w' c cap vs closed :=
  let ⟨s, r, h'⟩ := h; ⟨s, r, (hg.block _ h.lt (fun e => hne e.symm)).trans h'⟩
theorem ChRow.below {w w' : World} {c cap : Nat} {vs : List Ver} {closed : Bool} (h : ChRow w c cap vs closed) (hb : Below w.heap.size w w') : ChRow w' c cap vs closed :=
  let ⟨s, r, h'⟩ := h; ⟨s, r, (hb.block _ h.lt).trans h'⟩
/-- How much is left in the channel. -/
def left (c : Nat) (w : World) : Nat := match w.heap[c]? with | some (.chan _ buf _ _ _ _) => buf.size | _ => 0
theorem ChRow.left {w : World} {c cap : Nat} {vs : List Ver} {closed : Bool} (h : ChRow w c cap vs closed) : left c w = vs.length := by
  obtain ⟨s, r, h⟩ := h
  unfold Page.left
  rw [h]
  simp
theorem grown_chan (w : World) (c cap : Nat) (buf : Array Value) (cl : Bool) (s r : Nat) (tm : Bool) : w.grownBy (w.setChan c cap buf cl s r tm) (some c) :=
  ⟨rfl, rfl, rfl, by simp [World.setChan], fun k hk hne => by simp only [World.setChan]; rw [Array.getElem?_setIfInBounds_ne (fun e => hne (by rw [e]))]⟩

set_option maxHeartbeats 1600000 in
set_option maxRecDepth 100000 in
theorem whole_calls (c cap : Nat) (vs : List Ver) (more : Bool) (w : World) (hC : ChRow w c cap vs false) (hlen : vs.length ≤ 1000) :
    Calls Tryd.prog 59 #[.chan (some c), .bool more] w fun e w' => ∃ A cp, e = .returned (.agg #[.slice A vs.length cp, .bool more]) ∧ ItsAt w' A vs ∧ (∀ ad, A = some ad → w.heap.size ≤ ad.block) ∧ w.grownBy w' (some c) := by
  obtain ⟨i0, hi, hz0, hz1, hz2⟩ := info_parts infoItem
  have hcl := hC.lt
  have b1 := below_one w (.cells #[.slice none 0 0, .bool false] 52)
  have R1 := pgRow_new w none 0 0 false
  have C1 := hC.below b1
  have b2 := below_one (w.alloc (.cells #[.slice none 0 0, .bool false] 52)) (.cells #[.slice none 0 0, .bool more] 52)
  have R2 := R1.below b2
  have P2 := pgRow_new (w.alloc (.cells #[.slice none 0 0, .bool false] 52)) none 0 0 more
  rw [World.size_alloc] at P2
  obtain ⟨s0, r0, C2⟩ := C1.below b2
  have hclose : ∀ ats ty, (Builtin.close_ ats ty #[.chan (some c)]).run Tryd.prog ((w.alloc (.cells #[.slice none 0 0, .bool false] 52)).alloc (.cells #[.slice none 0 0, .bool more] 52)) = .ok (.tuple #[]) (((w.alloc (.cells #[.slice none 0 0, .bool false] 52)).alloc (.cells #[.slice none 0 0, .bool more] 52)).setChan c cap (vs.map Ver.item).toArray true s0 r0 false) := fun ats ty => run_close_open ats ty C2
  have g3 := grown_chan ((w.alloc (.cells #[.slice none 0 0, .bool false] 52)).alloc (.cells #[.slice none 0 0, .bool more] 52)) c cap (vs.map Ver.item).toArray true s0 r0 false
  have C3 : ChRow (((w.alloc (.cells #[.slice none 0 0, .bool false] 52)).alloc (.cells #[.slice none 0 0, .bool more] 52)).setChan c cap (vs.map Ver.item).toArray true s0 r0 false) c cap vs true :=
    ⟨s0, r0, heap_setChan _ _ _ _ _ _ _ _ (by simp; omega)⟩
  have R3 := R2.grown g3 (fun e => by cases e; omega)
  have P3 := P2.grown g3 (fun e => by cases e; omega)
  have B3 : w.grownBy (((w.alloc (.cells #[.slice none 0 0, .bool false] 52)).alloc (.cells #[.slice none 0 0, .bool more] 52)).setChan c cap (vs.map Ver.item).toArray true s0 r0 false) (some c) :=
    grown_by (grown_by (grown_by ⟨rfl, rfl, rfl, Nat.le_refl _, fun _ _ _ => rfl⟩ (below_grown0 b1) (fun _ e => by cases e)) (below_grown0 b2) (fun _ e => by cases e)) g3 (fun r e => by cases e; exact .inl rfl)
  clear hC b1 R1 C1 b2 R2 P2 C2 g3
  go_enter Tryd.func59, Tryd.ntmps59
  go_upto_region 3 with fail
  clear hclose
  generalize (((w.alloc (.cells #[.slice none 0 0, .bool false] 52)).alloc (.cells #[.slice none 0 0, .bool more] 52)).setChan c cap (vs.map Ver.item).toArray true s0 r0 false) = W3 at C3 R3 P3 B3 ⊢
  have hs3 : w.heap.size + 2 ≤ W3.heap.size := P3.lt
  go_wp2_with fail
  go_loopw [11] (fun _ wr => ∃ (k : Nat) (acc : List Ver) (A : Option Addr) (cp : Nat), k ≤ vs.length ∧ Hid (acc = vs.take k) ∧ ChRow wr c cap (vs.drop k) true ∧ OwnI wr (w.heap.size + 2) A cp acc ∧ PgRow wr w.heap.size none 0 0 false ∧ PgRow wr (w.heap.size + 1) A acc.length cp more ∧ w.grownBy wr (some c)) (fun _ wr => left c wr)
  case atStart => exact ⟨0, [], none, 0, Nat.zero_le _, Lib.hid rfl, C3, World.ownsRow_nil _ _ _ _, R3, P3, B3⟩
  case round =>
    obtain ⟨k, acc, A, cp, hk, HA, hC, hO, hR, hP, hB⟩ := hrel
    by_cases hlt : k < vs.length
    · obtain ⟨sk, rk, hCk⟩ := hC
      have hget : ((vs.drop k).map Ver.item).toArray.getD 0 undef = .agg #[.string vs[k].nm, .int .u64 (vs[k].n : Int), .int .i64 vs[k].len, .bool vs[k].gone] := by
        rw [List.drop_eq_getElem_cons hlt]; rfl
      have hext : ((vs.drop k).map Ver.item).toArray.extract 1 ((vs.drop k).map Ver.item).toArray.size = ((vs.drop (k + 1)).map Ver.item).toArray := by
        rw [List.drop_eq_getElem_cons hlt]
        simp only [List.map_cons, List.size_toArray, List.extract_toArray, List.extract_eq_take_drop, List.drop_succ_cons, List.drop_zero, List.length_cons, Nat.add_sub_cancel]
        rw [List.take_of_length_le (Nat.le_refl _)]
      have hla : acc.length = k := by rw [HA.out, List.length_take]; omega
      have hla2 : acc.length ≤ 1000 := by omega
      have HA2 := Lib.hid (show acc ++ [vs[k]] = vs.take (k + 1) by rw [HA.out, List.take_add_one, List.getElem?_eq_getElem hlt]; rfl)
      have HL := Lib.hid hla
      clear hla HA
      have hmeas : left c wr = vs.length - k := by
        have : ChRow wr c cap (vs.drop k) true := ⟨sk, rk, hCk⟩
        rw [this.left, List.length_drop]
      obtain ⟨x, qx⟩ : ∃ x, x = vs[k] := ⟨_, rfl⟩
      rw [← qx] at hget HA2
      go_upto_region 4 with fail
      refine wp_recv (c := c) (z := .agg #[.string ⟨#[]⟩, .int .u64 0, .int .i64 0, .bool false]) true rfl (by simp [go_sem, execOp, rcase]) hCk (by simp; omega) ?_
      rw [hget, hext]
      have g4 := grown_chan wr c cap ((vs.drop (k + 1)).map Ver.item).toArray true sk (rk + 1) false
      have C4 : ChRow (wr.setChan c cap ((vs.drop (k + 1)).map Ver.item).toArray true sk (rk + 1) false) c cap (vs.drop (k + 1)) true := ⟨sk, rk + 1, heap_setChan _ _ _ _ _ _ _ _ (Array.getElem?_eq_some_iff.1 hCk).1⟩
      have R4 := hR.grown g4 (fun e => by cases e; omega)
      have P4 := hP.grown g4 (fun e => by cases e; omega)
      have O4 : OwnI _ (w.heap.size + 2) A cp acc := hO.kept g4 (ownI_low hO (by omega))
      have hsr : w.heap.size + 2 ≤ wr.heap.size := hP.lt
      have B4 := grown_by hB g4 (fun r e => by cases e; exact .inl rfl)
      clear hCk hget hext g4 hR hP hO hB qx
      generalize wr.setChan c cap ((vs.drop (k + 1)).map Ver.item).toArray true sk (rk + 1) false = W4 at C4 R4 P4 O4 B4 ⊢
      simp only [got, if_true]
      go_upto_region 6 with fail
      have b5 := below_one W4 (.cells #[.string x.nm, .int .u64 (x.n : Int), .int .i64 x.len, .bool x.gone] 59)
      have X5 := (MapKept.heap_alloc W4 (.cells #[.string x.nm, .int .u64 (x.n : Int), .int .i64 x.len, .bool x.gone] 59)).1
      have C5 := C4.below b5
      have R5 := R4.below b5
      have P5 := P4.below b5
      have O5 : OwnI _ (w.heap.size + 2) A cp acc := O4.alloc (.cells #[.string x.nm, .int .u64 (x.n : Int), .int .i64 x.len, .bool x.gone] 59)
      have hs4 : w.heap.size + 2 ≤ W4.heap.size := P4.lt
      have B5 := grown_by B4 (below_grown0 b5) (fun _ e => by cases e)
      clear C4 R4 P4 O4 B4 b5
      generalize W4.alloc (.cells #[.string x.nm, .int .u64 (x.n : Int), .int .i64 x.len, .bool x.gone] 59) = W5 at X5 C5 R5 P5 O5 B5 ⊢
      have hs5 : w.heap.size + 2 ≤ W5.heap.size := P5.lt
      obtain ⟨u0, u1⟩ := P5.c
      have x0 : W5.cell? ⟨W4.heap.size, 0, none⟩ = some (.string x.nm) := by rw [Joins.cell_of_block X5]; rfl
      have x1 : W5.cell? ⟨W4.heap.size, 1, none⟩ = some (.int .u64 (x.n : Int)) := by rw [Joins.cell_of_block X5]; rfl
      have x2 : W5.cell? ⟨W4.heap.size, 2, none⟩ = some (.int .i64 x.len) := by rw [Joins.cell_of_block X5]; rfl
      have x3 : W5.cell? ⟨W4.heap.size, 3, none⟩ = some (.bool x.gone) := by rw [Joins.cell_of_block X5]; rfl
      have b6 := below_one W5 (.cells #[.string x.nm, .int .u64 (x.n : Int), .int .i64 x.len, .bool x.gone] 59)
      have C6 := C5.below b6
      have R6 := R5.below b6
      have P6 := P5.below b6
      have O6 : OwnI _ (w.heap.size + 2) A cp acc := O5.alloc (.cells #[.string x.nm, .int .u64 (x.n : Int), .int .i64 x.len, .bool x.gone] 59)
      have B6 := grown_by B5 (below_grown0 b6) (fun _ e => by cases e)
      have hc6 : W5.heap.size < (W5.alloc (.cells #[.string x.nm, .int .u64 (x.n : Int), .int .i64 x.len, .bool x.gone] 59)).heap.size := by simp
      have o1 := own_page O6 P6
      have o2 := own_page O6 R6
      go_wp2_with (at_builtin; go_loud (refine wpList_append_own _ rfl _ _ 50 rfl (w.heap.size + 2) 59 i0 (.agg #[.string ⟨#[]⟩, .int .u64 0, .int .i64 0, .bool false]) 4 40 Tryd.underlying50 hi hz0 hz1 hz2 rfl (by decide) _ _ _ rfl O6 ⟨W5.heap.size, 0, none⟩ 1 1 [.string x.nm, .int .u64 (x.n : Int), .int .i64 x.len, .bool x.gone] rfl rfl (World.news_of_block (MapKept.heap_alloc W5 _).1) ?c2 ?c3 ?c4 ?c5 ?_))
      case c2 => intro u hu; simp at hu; rcases hu with rfl | rfl | rfl | rfl <;> rfl
      case c3 => unfold maxLen; omega
      case c4 => omega
      case c5 => simp; omega
      intro v' wn hown' hgrow _
      have hown2 : wn.ownsRow (w.heap.size + 2) 59 4 v' (acc ++ [x]).length (itCells (acc ++ [x])) := by
        rw [itCells_app, List.length_append]; exact hown'
      obtain ⟨A', c', rfl, _, _⟩ := its_of_own hown2
      obtain ⟨ac2, qac2⟩ : ∃ a, a = acc ++ [x] := ⟨_, rfl⟩
      rw [← qac2] at hown2 HA2 ⊢
      clear hown' qac2
      have hlow := ownI_low O6 (p := c) (by omega)
      have C7 := C6.grown hgrow (fun e => by rcases hlow with h | h; rw [h] at e; cases e; exact h e)
      have R7 := R6.grown hgrow o2
      have P7 := P6.grown hgrow o1
      have B7 := grown_by B6 hgrow (fun r e => by have := (O6.lt r e).1; omega)
      have hbody := own_page hown2 P7
      obtain ⟨p0, p1⟩ := P7.c
      have pf := P7.f 0
      have P8 := P7.set0 A' ac2.length c'
      have R8 := R7.other ⟨w.heap.size + 1, 0, none⟩ (by show w.heap.size + 1 ≠ w.heap.size; omega) (.slice A' ac2.length c')
      have C8 := C7.grown (grown_one wn ⟨w.heap.size + 1, 0, none⟩ (.slice A' ac2.length c')) (fun e => by have : w.heap.size + 1 = c := Option.some.inj e; omega)
      have O8 : OwnI _ (w.heap.size + 2) A' c' ac2 := hown2.kept (grown_one wn ⟨w.heap.size + 1, 0, none⟩ (.slice A' ac2.length c')) (.inr hbody)
      have B8 := grown_by B7 (grown_one wn ⟨w.heap.size + 1, 0, none⟩ (.slice A' ac2.length c')) (fun r e => by have : w.heap.size + 1 = r := Option.some.inj e; omega)
      clear C7 R7 P7 B7 hown2 hgrow hbody o1 o2 O6 P6 R6 C6 B6 b6 x0 x1 x2 x3 u0 u1 C5 R5 P5 O5 B5 hlow
      go_wp2_with fail
      go_roundw
      case rel => exact ⟨k + 1, ac2, A', c', by omega, HA2, C8, O8, R8, P8, B8⟩
      case measure =>
        rw [hmeas, C8.left, List.length_drop]; omega
    · obtain rfl : k = vs.length := by omega
      rw [List.drop_length] at hC
      obtain ⟨sk, rk, hCk⟩ := hC
      rw [show acc = vs from HA.out.trans (List.take_length ..)] at hO hP
      go_upto_region 4 with fail
      refine wp_shut (c := c) (z := .agg #[.string ⟨#[]⟩, .int .u64 0, .int .i64 0, .bool false]) true rfl (by simp [go_sem, execOp, rcase]) hCk ?_
      obtain ⟨A2, c2, hv2, hI2, hA2⟩ := its_of_own hO
      obtain ⟨rfl, rfl⟩ : A = A2 ∧ cp = c2 := by injection hv2 with e1 _ e3; exact ⟨e1, e3⟩
      have hna := own_page_addr hO hR
      obtain ⟨p0, p1⟩ := hP.c
      obtain ⟨r0, r1⟩ := hR.c
      have f0 := hR.f 0
      have f1 := hR.f 1
      have hG := (hR.set0 A vs.length cp).set1 more
      have hI3 := (hI2.other ⟨w.heap.size, 0, none⟩ hna (.slice A vs.length cp)).other ⟨w.heap.size, 1, none⟩ hna (.bool more)
      have hB3 := grown_by (grown_by hB (grown_one wr ⟨w.heap.size, 0, none⟩ (.slice A vs.length cp)) (fun r e => by have : w.heap.size = r := Option.some.inj e; omega)) (grown_one _ ⟨w.heap.size, 1, none⟩ (.bool more)) (fun r e => by have : w.heap.size = r := Option.some.inj e; omega)
      simp only [got, if_true]
      clear hCk hI2 hB hO hR hP hv2 HA C3 R3 P3 B3
      go_wp2_with fail
      refine bodyPost_ret (results_cell_row rfl _ _ w.heap.size 52 _ (0, 0) _ rfl hG Tryd.underlying52 rfl (by kernel_rfl)) rfl ?_
      exact ⟨A, cp, rfl, hI3, fun ad h => by have := hA2 ad h; omega, hB3⟩

end Go.Proofs.YtaeiahkomdpcoaaDoor.Page
end

section
/- strings.HasPrefix at this translation. -/
namespace Go.Proofs.YtaeiahkomdpcoaaDoor.Page
open Go Go.RowKit Go.Lib

theorem pfx_lib (p s : ByteArray) : pfx p s = Lib.hasPrefix s.data.toList p.data.toList := rfl

set_option maxHeartbeats 1000000 in
theorem slHasPrefix (s p : ByteArray) (w : World) : Calls Tryd.prog 77 #[.string s, .string p] w fun e w' => e = .returned (.bool (pfx p s)) ∧ w' = w := by
  rw [pfx_lib, ← Lib.hasPrefix_of_take, ← Lib.size_eq, ← Lib.size_eq]
  go_enter Tryd.func77, Tryd.ntmps77
  go_wp2
  · rename_i h
    go_ret
    refine ⟨?_, rfl⟩
    show Ending.returned (Value.bool ((s.extract 0 p.size).toList == p.toList)) = _
    rw [Lib.extract_toList, Lib.toList_data]
    simp [h]
  · rename_i h
    go_ret
    refine ⟨?_, rfl⟩
    show Ending.returned (Value.bool false) = _
    simp [h]

set_option maxHeartbeats 1000000 in
theorem hasPrefix_calls (s p : ByteArray) (w : World) : Calls Tryd.prog 57 #[.string s, .string p] w fun e w' => e = .returned (.bool (pfx p s)) ∧ w' = w := by
  go_enter Tryd.func57, Tryd.ntmps57
  go_wp2_with (go_at_call 77; refine (slHasPrefix _ _ _).mono ?_; rintro e w' ⟨rfl, hw⟩; rw [hw])
  go_ret
  exact ⟨rfl, rfl⟩

end Go.Proofs.YtaeiahkomdpcoaaDoor.Page
end

section
/- page.items: its closure hands out the versions of one bucket, in order. -/
namespace Go.Proofs.YtaeiahkomdpcoaaDoor.Seq
open Go Go.RowKit Go.Deep

attribute [local go_sem] Oper.semAt_some

def itemsOf (b : ByteArray) (vs : List Ver) : List Ver := vs.filter fun v => decide (v.bk = b)
theorem itemsOf_snoc (b : ByteArray) (vs : List Ver) (v : Ver) : itemsOf b (vs ++ [v]) = itemsOf b vs ++ (if v.bk = b then [v] else []) := by
  unfold itemsOf
  rw [List.filter_append]
  by_cases h : v.bk = b <;> simp [h]
/-- What lies below n₀. -/
structure ItB (n₀ B : Nat) (A : Option Addr) (c : Nat) (vs : List Ver) (W : World) : Prop where
  b3 : 0 < n₀
  of : OfRd n₀ B A c (vs.map prOf) W
  v : Name.Var0 W
theorem ItB.below {n₀ B : Nat} {A : Option Addr} {c : Nat} {vs : List Ver} {W W' : World} (h : ItB n₀ B A c vs W) (hb : Below n₀ W W') : ItB n₀ B A c vs W' :=
  ⟨h.b3, h.of.below hb, by
    obtain ⟨m, hm, h0⟩ := h.v
    exact ⟨m, (hb.cell (p := ⟨0, 0, none⟩) h.b3).trans hm, Nat.lt_of_lt_of_le h0 hb.size⟩⟩
/-- What page.items' closure reads: beside that its two boxes. -/
structure ItRd (n₀ Bs Bb B : Nat) (A : Option Addr) (c : Nat) (b : ByteArray) (vs : List Ver) (W : World) : Prop where
  c1 : W.cell? ⟨Bs, 0, none⟩ = some (.func (.func 60) #[] #[.pointer (some ⟨B, 0, none⟩)])
  c2 : W.cell? ⟨Bb, 0, none⟩ = some (.string b)
  b : ItB n₀ B A c vs W

/-- What the inner loop keeps between two rounds: the outer party's word, at more blocks than its own iterator has. -/
def InI (n₀ bx l Bb : Nat) (b : ByteArray) (Rd : World → Prop) (J : (Nat → Prop) → Nat → World → Prop) (O : Nat → Prop) (k : Nat) (W : World) : Prop :=
  n₀ ≤ W.heap.size ∧ (∀ i, O i → n₀ ≤ i) ∧ Rd W ∧ W.cell? ⟨bx, 0, none⟩ = some (.func (.yield l) #[] #[]) ∧ ¬ O bx ∧ W.cell? ⟨Bb, 0, none⟩ = some (.string b) ∧ ¬ O Bb ∧ ∃ O1, (∀ i, O i → O1 i) ∧ O1 bx ∧ O1 Bb ∧ J O1 k W
theorem cell_lt {W : World} {a : Addr} {v : Value} (h : W.cell? a = some v) : a.block < W.heap.size := World.block_lt_of_cell? _ _ h
theorem below_of_off {n₀ : Nat} {O : Nat → Prop} {W W' : World} (h : Off O W W') (hn : n₀ ≤ W.heap.size) (hO : ∀ i, O i → n₀ ≤ i) : Below n₀ W W' :=
  ⟨h.os, h.tape, h.output, h.size, fun k hk => h.block k (by omega) (fun ho => by have := hO k ho; omega)⟩
theorem own_sub {O O1 : Nat → Prop} (h : ∀ i, O i → O1 i) (W W' : World) : ∀ i, own O W W' i → own O1 W W' i := fun i hi => hi.elim (fun h1 => .inl (h i h1)) .inr
theorem inI_abide {n₀ bx l Bb : Nat} {b : ByteArray} {Rd : World → Prop} {J : (Nat → Prop) → Nat → World → Prop} (hRd : ∀ W W', Rd W → Below n₀ W W' → Rd W') (hJ : Abide J) : Abide (InI n₀ bx l Bb b Rd J) := fun O k W W' ⟨h1, h2, h3, h4, h5, g4, g5, O1, h6, h7, g7, h8⟩ ho => by
  have hb := below_of_off ho h1 h2
  have hl := cell_lt h4
  have gl := cell_lt g4
  refine ⟨Nat.le_trans h1 ho.size, ?_, hRd _ _ h3 hb, (World.cell?_of_block (ho.block _ hl h5)).trans h4, ?_, (World.cell?_of_block (ho.block _ gl g5)).trans g4, ?_, own O1 W W', own_sub h6 W W', .inl h7, .inl g7, hJ _ _ _ _ h8 (ho.more h6)⟩
  · rintro i (h | h)
    · exact h2 i h
    · omega
  · rintro (h | h)
    · exact h5 h
    · exact absurd hl (by simp only; omega)
  · rintro (h | h)
    · exact g5 h
    · exact absurd gl (by simp only; omega)

theorem seq_nil (w : World) (f : Fn) (x y : Array Value) : (Op.equal 56 (.func f x y) .nilFunc).run Tryd.prog w = .ok false w := by
  unfold Op.equal Op.maxDepth Op.equalIn
  simp only [Sem.run_bind, run_underlying Tryd.underlying56, Result.andThen_ok]
  rfl
theorem seq_eql (w : World) (f : Fn) (x y : Array Value) : (binOp .eql 56 (.func f x y) .nilFunc).run Tryd.prog w = .ok (.bool false) w := by
  unfold binOp
  simp only [Sem.run_bind, seq_nil, Result.andThen_ok, Sem.run_pure]
  try rfl
set_option maxRecDepth 100000 in
set_option maxHeartbeats 4000000 in
theorem items_seq (n : Nat) (hn : 5 ≤ n) (n₀ Bs Bb B : Nat) (A : Option Addr) (c : Nat) (b : ByteArray) (vs : List Ver) (hok : ∀ v ∈ vs, v.Ok) (hreach : vs.length ≤ 100000) :
    SeqO Fence.wide n Tryd.prog 75 #[.pointer (some ⟨Bs, 0, none⟩), .pointer (some ⟨Bb, 0, none⟩)] (fun v : Ver => #[v.item]) n₀ (fun i => i = Bs ∨ i = Bb) (itemsOf b vs) (ItRd n₀ Bs Bb B A c b vs) := fun l J Jx O W hW hRd hown hJ hJx hY h0 => by
  have hb0 := below_one W (.cells #[.func (.yield l) #[] #[]] 112)
  have hw0 : (W.alloc (.cells #[.func (.yield l) #[] #[]] 112)).heap.size = W.heap.size + 1 := by simp
  have hR0 := hRd.b.below (hb0.mono hW)
  have hc1 := (hb0.cell (p := ⟨Bs, 0, none⟩) (cell_lt hRd.c1)).trans hRd.c1
  have hc2 := (hb0.cell (p := ⟨Bb, 0, none⟩) (cell_lt hRd.c2)).trans hRd.c2
  have hbx : (W.alloc (.cells #[.func (.yield l) #[] #[]] 112)).cell? ⟨W.heap.size, 0, none⟩ = some (.func (.yield l) #[] #[]) := by
    rw [Joins.cell_of_block (MapKept.heap_alloc W _).1]; rfl
  have hJ0 : InI n₀ W.heap.size l Bb b (ItB n₀ B A c vs) (fun O k W => J O (itemsOf b (vs.take k)) W) (fun _ => False) 0 (W.alloc (.cells #[.func (.yield l) #[] #[]] 112)) :=
    ⟨by omega, fun _ h => h.elim, hR0, hbx, id, hc2, id, _, fun _ h => h.elim, .inr ⟨Nat.le_refl _, by omega⟩, .inl (hown _ (.inr rfl)), hJ _ _ _ _ h0 (off_of_below hb0)⟩
  have hJA : Abide (fun (O : Nat → Prop) (k : Nat) W => J O (itemsOf b (vs.take k)) W) := fun O k W W' h ho => hJ O _ W W' h ho
  have hIA := inI_abide (n₀ := n₀) (bx := W.heap.size) (l := l) (Bb := Bb) (b := b) (Rd := ItB n₀ B A c vs) (fun W W' h hb => h.below hb) hJA
  refine callsIn_of_wp_marks Tryd.func75 rfl trivial ?_ rfl
  simp only [Tryd.ntmps75, List.size_toArray, List.length_cons, List.length_nil, Nat.reduceAdd, Nat.reduceSub, Array.replicate_succ, Array.replicate_zero, List.push_toArray, List.append_toArray, List.nil_append, List.cons_append]
  have hsn := seq_eql
  gi_wp2
  refine wpIn_scope_straight ?_
  gi_wp2
  refine wpIn_label ?_
  gi_wp2
  refine wpIn_rangeFunc_O rfl (by omega) (gf := 60) (lb := #[.pointer (some ⟨B, 0, none⟩)]) rfl trivial (enters_of Tryd.func60 (by kernel_rfl) rfl)
    (of_seq Fence.wide (n - 1) trivial rfl (by omega) n₀ B A c (vs.map prOf) (by rw [List.length_map]; exact hreach)) (by omega) (fun W' hb => (hR0.below (hb.mono (by omega))).of) (fun _ => rfl)
    (fun O (pre : List Pr) W' => InI n₀ W.heap.size l Bb b (ItB n₀ B A c vs) (fun O k W => J O (itemsOf b (vs.take k)) W) O pre.length W')
    (fun cd O (_ : List Pr) W' => cd = .ret ∧ ∃ O1, (∀ i, O i → O1 i) ∧ ∃ pre' x' rest', itemsOf b vs = pre' ++ x' :: rest' ∧ Jx O1 (pre' ++ [x']) W')
    (fun O pre W1 W2 h ho => hIA O pre.length W1 W2 h ho)
    (fun cd O pre W1 W2 h ho => by
      obtain ⟨rfl, O1, h1, pre', x', rest', h2, h3⟩ := h
      exact ⟨rfl, own O1 W1 W2, own_sub h1 W1 W2, pre', x', rest', h2, hJx _ _ _ _ h3 (ho.more h1)⟩)
    (fun _ => False) (fun _ h => h.elim) (fun _ h => h) hJ0
    (fun O x a' W' => a' = { tmps := #[.func (.yield l) #[] #[], .pointer (some ⟨Bs, 0, none⟩), .pointer (some ⟨Bb, 0, none⟩), .pointer (some ⟨W.heap.size, 0, none⟩), .string x.1, .string x.2, undef, undef, undef, undef, .func (.func 60) #[] #[.pointer (some ⟨B, 0, none⟩)], .bool false, .func (.func 60) #[] #[.pointer (some ⟨B, 0, none⟩)], .string x.1, .string x.2, undef, undef, undef, undef, undef, undef, undef, undef, undef, undef, undef, undef, undef, undef, undef, undef, undef, undef, undef, undef, undef, undef, undef, undef, undef, undef, undef, undef, undef, undef, undef, undef, undef, undef, undef, undef, undef, undef, undef, undef, undef, undef, undef, undef, undef], defers := [] })
    (fun x O a' W1 W2 h _ => h) ?assign ?body ?done ?stop
  case assign =>
    intro l1 O1 pre x W1 K hi hK
    simp only [encPr, List.zip_toArray, List.zip_cons_cons, List.zip_nil_right, List.foldl_toArray', List.foldl_cons, List.foldl_nil]
    gi_wp2
    exact hK _ _ (Kept.refl _ _ _) hi (by simp)
  case body =>
    rintro l1 O1 pre x rest a' W1 hxs ⟨h1, h2, h3, h4, h5, g4, g5, O2, h6, h7, g7, h8⟩ rfl
    have hkl : pre.length < vs.length := by
      have := congrArg List.length hxs
      simp at this; omega
    have hxv : x = prOf vs[pre.length] := by
      have h := congrArg (fun l => l[pre.length]?) hxs
      simp [List.getElem?_map, List.getElem?_eq_getElem hkl] at h
      exact h.symm
    have hvo := hok _ (List.getElem_mem hkl)
    have hits := itemsOf_snoc b (vs.take pre.length) vs[pre.length]
    rw [show vs.take pre.length ++ [vs[pre.length]] = vs.take (pre.length + 1) by rw [List.take_add_one, List.getElem?_eq_getElem hkl]; rfl] at hits
    have hall : ∃ rest', itemsOf b vs = itemsOf b (vs.take (pre.length + 1)) ++ rest' := ⟨itemsOf b (vs.drop (pre.length + 1)), by
      unfold itemsOf; rw [← List.filter_append, List.take_append_drop]⟩
    obtain ⟨v, hv⟩ : ∃ v, v = vs[pre.length] := ⟨_, rfl⟩
    rw [← hv] at hxv hvo hits
    subst hxv
    have HALL := Lib.hid hall
    have HITS := Lib.hid hits
    have HXS := Lib.hid hxs
    clear hall hits hxs hv
    gi_wp2
    refine ⟨trivial, fun h => (by cases h), (CallsIn.inRound l1 (callsIn_wide.2 (nameDec hvo W1 h3.v))).mono ?_⟩
    rintro e W2 ⟨rfl, hb2⟩
    have hKk := (MapKept.heap_alloc W2 (.cells #[.int .u8 3, .string v.bk, .string v.nm, .int .u64 (v.n : Int), .int .i64 0] 24)).1
    have hbk := below_one W2 (.cells #[.int .u8 3, .string v.bk, .string v.nm, .int .u64 (v.n : Int), .int .i64 0] 24)
    gi_wp2
    refine ⟨trivial, fun h => (by cases h), (CallsIn.inRound l1 (callsIn_wide.2 (cellDec hvo _))).mono ?_⟩
    rintro e W3 ⟨⟨A3, cp3, rfl⟩, hb3⟩
    obtain ⟨KV, qKV⟩ : ∃ o : Obj, o = .cells #[.int .u8 3, .string v.bk, .string v.nm, .int .u64 (v.n : Int), .int .i64 0] 24 := ⟨_, rfl⟩
    rw [← qKV] at hKk hbk hb3
    have hKl : W2.heap.size < (W2.alloc KV).heap.size := by simp
    have hK3 := (hb3.block _ hKl).trans hKk
    have b13 := below_of (below_of hb2 hbk) hb3
    obtain ⟨CV, qCV⟩ : ∃ o : Obj, o = .cells #[.int .u8 3, .int .u64 0, .bool v.gone, .string ⟨#[]⟩, .int .i64 v.len, .string v.cel.body.inl, .slice A3 0 cp3] 99 := ⟨_, rfl⟩
    have hbc := below_one W3 CV
    have b14 := below_of b13 hbc
    have hK4 := (hbc.block _ (Array.getElem?_eq_some_iff.1 hK3).1).trans hK3
    rw [qKV] at hK4
    have hC4 := (MapKept.heap_alloc W3 CV).1
    rw [qCV] at hC4 hK4 b14
    clear hKk hbk hb3 hKl hK3 b13 hbc qKV qCV KV CV
    have R4 := h3.below (b14.mono h1)
    have d1 : (W3.alloc (.cells #[.int .u8 3, .int .u64 0, .bool v.gone, .string ⟨#[]⟩, .int .i64 v.len, .string v.cel.body.inl, .slice A3 0 cp3] 99)).cell? ⟨W2.heap.size, 0, none⟩ = some (.int .u8 3) := by rw [Joins.cell_of_block hK4]; rfl
    have d2 : (W3.alloc (.cells #[.int .u8 3, .int .u64 0, .bool v.gone, .string ⟨#[]⟩, .int .i64 v.len, .string v.cel.body.inl, .slice A3 0 cp3] 99)).cell? ⟨W2.heap.size, 1, none⟩ = some (.string v.bk) := by rw [Joins.cell_of_block hK4]; rfl
    have d3 : (W3.alloc (.cells #[.int .u8 3, .int .u64 0, .bool v.gone, .string ⟨#[]⟩, .int .i64 v.len, .string v.cel.body.inl, .slice A3 0 cp3] 99)).cell? ⟨W2.heap.size, 2, none⟩ = some (.string v.nm) := by rw [Joins.cell_of_block hK4]; rfl
    have d4 : (W3.alloc (.cells #[.int .u8 3, .int .u64 0, .bool v.gone, .string ⟨#[]⟩, .int .i64 v.len, .string v.cel.body.inl, .slice A3 0 cp3] 99)).cell? ⟨W2.heap.size, 3, none⟩ = some (.int .u64 (v.n : Int)) := by rw [Joins.cell_of_block hK4]; rfl
    have d5 := (b14.cell (p := ⟨Bb, 0, none⟩) (cell_lt g4)).trans g4
    have d6 := (b14.cell (p := ⟨W.heap.size, 0, none⟩) (cell_lt h4)).trans h4
    have J4 := hJ _ _ _ _ h8 (off_of_below (O := O2) b14)
    have K4 : Kept O1 n₀ W1 _ := kept_of_below b14 h1
    have s4 := b14.size
    by_cases hbb : v.bk = b
    case neg =>
      have hbq : (v.bk.toList == b.toList) = false := by
        rw [ByteArray.toList_eq, ByteArray.toList_eq, beq_eq_false_iff_ne]
        exact fun h => hbb (ByteArray.ext (Array.toList_inj.1 h))
      have hits := HITS.out
      rw [if_neg hbb, List.append_nil] at hits
      gi_wp2
      rw [← hits, show pre.length + 1 = (pre ++ [prOf v]).length by simp] at J4
      exact ⟨K4, Nat.le_trans h1 s4, h2, R4, d6, h5, d5, g5, own O2 W1 _, fun i hi => Or.inl (h6 i hi), Or.inl h7, Or.inl g7, J4⟩
    case pos =>
      subst hbb
      obtain ⟨rest', hall⟩ := HALL.out
      have hits := HITS.out
      rw [if_pos rfl] at hits
      rw [hits, List.append_assoc, List.singleton_append] at hall
      obtain ⟨fn, tmps, assign, body, hy, hR⟩ := hY _ _ _ _ _ hall J4
      unfold Ver.item at hy
      have HA := Lib.hid hall
      have HT := Lib.hid hits
      clear hall hits
      gi_wp2
      refine ⟨fun h => (by cases h), RoundIn.mono (R := _) ⟨hR.1, fun c cs _ => hR.2 c cs (room_wide _)⟩ ?_⟩
      rintro e W5 ⟨hk5, (⟨rfl, hJ5⟩ | ⟨rfl, hJx5⟩)⟩
      · have R5 := R4.below hk5.below
        have d7 := (World.cell?_of_block (hk5.same W.heap.size (Or.inl h7) (cell_lt d6))).trans d6
        have d8 := (World.cell?_of_block (hk5.same Bb (Or.inl g7) (cell_lt d5))).trans d5
        have s5 := hk5.below.size
        gi_wp2
        rw [← HT.out, show pre.length + 1 = (pre ++ [prOf v]).length by simp] at hJ5
        exact ⟨K4.trans (hk5.less fun i hi => Or.inl (h6 i hi)), Nat.le_trans h1 (Nat.le_trans s4 s5), h2, R5, d7, h5, d8, g5, own O2 W1 _, fun i hi => Or.inl (h6 i hi), Or.inl h7, Or.inl g7, hJ5⟩
      · gi_wp2
        exact ⟨K4.trans (hk5.less fun i hi => Or.inl (h6 i hi)), rfl, own O2 W1 _, fun i hi => Or.inl (h6 i hi), _, _, _, HA.out, hJx5⟩
  case done =>
    rintro O1 D W1 hD hOD ⟨_, _, _, _, _, _, _, O2, h12, _, _, hJ2⟩ hK
    rw [List.length_map, List.take_length] at hJ2
    simp only [Exit.inBlock, Exit.noGoto]
    refine ⟨by simp, .inl ⟨_, _, rfl, run_takeDeferred hK, ?_⟩⟩
    exact ⟨_, results_none rfl _ _ _, ⟨_, rfl⟩, O2, .inl (hJ.putObj _ _ hJ2 (h12 _ hOD))⟩
  case stop =>
    rintro O1 D cd pre x rest W1 hD hOD hxs ⟨rfl, O2, h12, pre', x', rest', h2, hJ2⟩ hK
    refine wpIn_ret ?_
    simp only [Exit.inBlock, Exit.noGoto]
    refine ⟨by simp, .inl ⟨_, _, rfl, run_takeDeferred hK, ?_⟩⟩
    exact ⟨_, results_none rfl _ _ _, ⟨_, rfl⟩, O2, .inr ⟨pre', x', rest', h2, hJx.putObj _ _ hJ2 (h12 _ hOD)⟩⟩

end Go.Proofs.YtaeiahkomdpcoaaDoor.Seq
end

section
/- What the walks of page.Names and page.Versions share: page.items, the channel that is made, what a round keeps. -/
namespace Go.Proofs.YtaeiahkomdpcoaaDoor.Page
open Go Go.RowKit Go.Conc Go.Proofs.YtaeiahkomdpcoaaDoor.Seq Go.Proofs.YtaeiahkomdpcoaaDoor.Chan

attribute [local go_sem] Oper.semAt_some

theorem items_calls (sv : Value) (b : ByteArray) (w : World) (hs : sv = .nilFunc ∨ ∃ f x y, sv = .func f x y) : Calls Tryd.prog 56 #[sv, .string b] w fun e w' =>
    e = .returned (.func (.func 75) #[] #[.pointer (some ⟨w.heap.size, 0, none⟩), .pointer (some ⟨w.heap.size + 1, 0, none⟩)]) ∧
    w' = (w.alloc (.cells #[sv] 56)).alloc (.cells #[.string b] 9) := by
  rcases hs with rfl | ⟨f, x, y, rfl⟩ <;>
  · go_enter Tryd.func56, Tryd.ntmps56
    go_wp2
    go_ret
    exact ⟨rfl, rfl⟩

theorem make_chan (most : Nat) (hm : most ≤ 256) (w : World) : (Instr.makeChan 88 (.int .i64 (most : Int))).run Tryd.prog w = .ok (.chan (some w.heap.size)) (w.alloc (.chan most #[] false 0 0 false)) := by
  have h : (Tryd.prog.info? 59).map (·.bytes) = some 40 := by kernel_rfl
  obtain ⟨i, hi, hb⟩ := Option.map_eq_some_iff.1 h
  exact run_makeChan (P := Tryd.prog) (w := w) Tryd.underlying88 hi .i64 most (by omega) (by rw [hb]; omega)

/-- What is written lies outside the iterator's blocks. -/
theorem kept_grown {O : Nat → Prop} {n₀ b : Nat} {W W' : World} (hg : W.grownBy W' (some b)) (hb : ¬ O b) (hn : n₀ ≤ b) (hn' : n₀ ≤ W.heap.size) : Kept O n₀ W W' :=
  ⟨⟨hg.os, hg.tape, hg.output, hg.size, fun k hk => hg.block k (by omega) (fun e => by cases e; omega)⟩, fun k hk hl => hg.block k hl (fun e => by cases e; exact hb hk)⟩
/-- What a round of the caller's keeps in blocks that are not the iterator's. -/
theorem box_off {O : Nat → Prop} {W W' : World} {B : Nat} {t : TypeId} {v : Value} (h : Boxed W B t v) (ho : Off O W W') (hB : ¬ O B) : Boxed W' B t v := (ho.block _ h.lt hB).trans h
theorem ChRow.off {O : Nat → Prop} {W W' : World} {c cap : Nat} {vs : List Ver} {cl : Bool} (h : ChRow W c cap vs cl) (ho : Off O W W') (hB : ¬ O c) : ChRow W' c cap vs cl :=
  let ⟨s, r, h'⟩ := h; ⟨s, r, (ho.block _ h.lt hB).trans h'⟩
theorem PgRow.off {O : Nat → Prop} {W W' : World} {b : Nat} {A : Option Addr} {n cp : Nat} {m : Bool} (h : PgRow W b A n cp m) (ho : Off O W W') (hB : ¬ O b) : PgRow W' b A n cp m := (ho.block _ h.lt hB).trans h
theorem box_grown {W W' : World} {B : Nat} {t : TypeId} {v : Value} {o : Option Nat} (h : Boxed W B t v) (hg : W.grownBy W' o) (hne : o ≠ some B) : Boxed W' B t v := h.kept hg (fun e => hne e.symm)


theorem wpIn_act {F : Fence} {n : Nat} {P : Program} {c : Code} {Q : Exit → Act → World → Prop} {a : Act} {w : World} (h : ∀ a', a' = a → c.wpIn F n P Q a' w) : c.wpIn F n P Q a w := h a rfl
theorem grown_refl (w : World) (o : Option Nat) : w.grownBy w o := ⟨rfl, rfl, rfl, Nat.le_refl _, fun _ _ _ => rfl⟩

theorem leq_ways (x a : ByteArray) : (lt a x = true ∧ Op.bytesLess x.toList a.toList = false ∧ (x.toList == a.toList) = false) ∨ (lt a x = false ∧ Op.bytesLess x.toList a.toList = true ∧ (x.toList == a.toList) = false) ∨ (lt a x = false ∧ Op.bytesLess x.toList a.toList = false ∧ (x.toList == a.toList) = true) := by
  have e : ∀ u v : ByteArray, u ≠ v → (u.toList == v.toList) = false := fun u v h => by
    rw [ByteArray.toList_eq, ByteArray.toList_eq, beq_eq_false_iff_ne]
    exact fun h' => h (ByteArray.ext (Array.toList_inj.1 h'))
  cases h : lt a x with
  | true => exact .inl ⟨rfl, lt_not h, e _ _ (lt_ne h).symm⟩
  | false =>
    rcases lt_tri h with rfl | h'
    · exact .inr (.inr ⟨rfl, lt_irr _, by simp⟩)
    · exact .inr (.inl ⟨rfl, h', e _ _ (lt_ne h')⟩)

/-- What a call of Names or Versions keeps in blocks of its own: the text that is asked for, one thing more, the page to be, 'more', the channel, the channel's box. -/
structure St (n₀ m most : Nat) (t1 : TypeId) (v1 : Value) (w : World) (nm : ByteArray) (out : List Ver) (more : Bool) (W : World) : Prop where
  below : Below n₀ w W
  b0 : Boxed W n₀ 9 (.string nm)
  b1 : Boxed W (n₀ + 1) t1 v1
  b2 : PgRow W (n₀ + 1 + 1) none 0 0 false
  b3 : Boxed W (n₀ + 1 + 1 + 1) 4 (.bool more)
  ch : ChRow W m most out false
  b5 : Boxed W (m + 1) 88 (.chan (some m))
section
variable {n₀ m most : Nat} {t1 : TypeId} {v1 : Value} {w W W' : World} {nm : ByteArray} {out : List Ver} {more : Bool}
theorem St.off {O : Nat → Prop} (h : St n₀ m most t1 v1 w nm out more W) (ho : Off O W W') (hm : n₀ + 4 ≤ m) (hO : ∀ i, i < m + 2 → ¬ O i) : St n₀ m most t1 v1 w nm out more W' :=
  ⟨h.below.trans ⟨ho.os, ho.tape, ho.output, ho.size, fun k hk => ho.block k (by have := h.b0.lt; omega) (hO k (by omega))⟩, box_off h.b0 ho (hO _ (by omega)), box_off h.b1 ho (hO _ (by omega)), h.b2.off ho (hO _ (by omega)), box_off h.b3 ho (hO _ (by omega)), h.ch.off ho (hO _ (by omega)), box_off h.b5 ho (hO _ (by omega))⟩
/-- What turns lies elsewhere. -/
theorem St.grown {o : Option Nat} (h : St n₀ m most t1 v1 w nm out more W) (hg : W.grownBy W' o) (hm : n₀ + 4 ≤ m) (ho : ∀ r, o = some r → m + 2 ≤ r) : St n₀ m most t1 v1 w nm out more W' :=
  have ne : ∀ k, k < m + 2 → o ≠ some k := fun k hk e => by have := ho k e; omega
  ⟨h.below.trans ⟨hg.os, hg.tape, hg.output, hg.size, fun k hk => hg.block k (by have := h.b0.lt; omega) (fun e => ne k (by omega) e.symm)⟩, box_grown h.b0 hg (ne _ (by omega)), box_grown h.b1 hg (ne _ (by omega)), h.b2.grown hg (ne _ (by omega)), box_grown h.b3 hg (ne _ (by omega)), h.ch.grown hg (ne _ (by omega)), box_grown h.b5 hg (ne _ (by omega))⟩
theorem St.setMore (h : St n₀ m most t1 v1 w nm out more W) (hm : n₀ + 4 ≤ m) (v : Bool) : St n₀ m most t1 v1 w nm out v (W.setCell ⟨n₀ + 1 + 1 + 1, 0, none⟩ (.bool v)) :=
  have hg := grown_one W ⟨n₀ + 1 + 1 + 1, 0, none⟩ (.bool v)
  have ne : ∀ k, k ≠ n₀ + 1 + 1 + 1 → some (n₀ + 1 + 1 + 1) ≠ some k := fun k hk e => hk (Option.some.inj e).symm
  ⟨h.below.setCell (by show n₀ ≤ n₀ + 1 + 1 + 1; omega) _, box_grown h.b0 hg (ne _ (by omega)), box_grown h.b1 hg (ne _ (by omega)), h.b2.grown hg (ne _ (by omega)), by
    have := h.b3
    unfold Boxed at this ⊢; simp [World.setCell, Array.getElem?_modify, this], h.ch.grown hg (ne _ (by omega)), box_grown h.b5 hg (ne _ (by omega))⟩
end
theorem box_set {W : World} {B : Nat} {t : TypeId} {v : Value} (h : Boxed W B t v) (v' : Value) : Boxed (W.setCell ⟨B, 0, none⟩ v') B t v' := by
  unfold Boxed at h ⊢; simp [World.setCell, Array.getElem?_modify, h]

/-- put, where there is room. -/
theorem put_st {n₀ m most : Nat} {t1 : TypeId} {v1 : Value} {w W : World} {nm : ByteArray} {out : List Ver} {more : Bool} (x : Ver) (h : St n₀ m most t1 v1 w nm out more W) (hm : n₀ + 4 ≤ m) (hlt : out.length < most) :
    Calls Tryd.prog 58 #[.chan (some m), .agg #[.string x.nm, .int .u64 (x.n : Int), .int .i64 x.len, .bool x.gone]] W fun e W' => e = .returned (.bool true) ∧ St n₀ m most t1 v1 w nm (out ++ [x]) more W' ∧ W.grownBy W' (some m) := by
  obtain ⟨s, r, hc⟩ := h.ch
  refine (put_room m most s r (out.map Ver.item).toArray x.nm (x.n : Int) x.len x.gone W hc (by simpa using hlt)).mono ?_
  rintro e W' ⟨rfl, rfl⟩
  have hb := below_one W (.cells #[.string x.nm, .int .u64 (x.n : Int), .int .i64 x.len, .bool x.gone] 59)
  have h1 := h.grown (below_grown0 hb) hm (fun _ e => by cases e)
  have hp : (out.map Ver.item).toArray.push (.agg #[.string x.nm, .int .u64 (x.n : Int), .int .i64 x.len, .bool x.gone]) = ((out ++ [x]).map Ver.item).toArray := by
    simp [Ver.item]
  rw [hp]
  have hg := grown_chan (W.alloc (.cells #[.string x.nm, .int .u64 (x.n : Int), .int .i64 x.len, .bool x.gone] 59)) m most ((out ++ [x]).map Ver.item).toArray false (s + 1) r false
  have ne : ∀ k, k ≠ m → some m ≠ some k := fun k hk e => hk (Option.some.inj e).symm
  refine ⟨rfl, ⟨?_, box_grown h1.b0 hg (ne _ (by omega)), box_grown h1.b1 hg (ne _ (by omega)), h1.b2.grown hg (ne _ (by omega)), box_grown h1.b3 hg (ne _ (by omega)), ⟨s + 1, r, heap_setChan _ _ _ _ _ _ _ _ h1.ch.lt⟩, box_grown h1.b5 hg (ne _ (by omega))⟩, grown_by (grown_by (grown_refl W _) (below_grown0 hb) (fun _ e => by cases e)) hg (fun r e => by cases e; exact .inl rfl)⟩
  exact below_own h1.below hg (by have := h1.b0.lt; omega) (fun r e => by have : m = r := Option.some.inj e; omega)
theorem put_st_full {n₀ m most : Nat} {t1 : TypeId} {v1 : Value} {w W : World} {nm : ByteArray} {out : List Ver} {more : Bool} (x : Ver) (h : St n₀ m most t1 v1 w nm out more W) (hm : n₀ + 4 ≤ m) (hlt : out.length = most) :
    Calls Tryd.prog 58 #[.chan (some m), .agg #[.string x.nm, .int .u64 (x.n : Int), .int .i64 x.len, .bool x.gone]] W fun e W' => e = .returned (.bool false) ∧ St n₀ m most t1 v1 w nm out more W' ∧ Below W.heap.size W W' := by
  obtain ⟨s, r, hc⟩ := h.ch
  refine (put_full m most s r (out.map Ver.item).toArray x.nm (x.n : Int) x.len x.gone W hc (by simp; omega)).mono ?_
  rintro e W' ⟨rfl, rfl⟩
  have hb := below_one W (.cells #[.string x.nm, .int .u64 (x.n : Int), .int .i64 x.len, .bool x.gone] 59)
  exact ⟨rfl, h.grown (below_grown0 hb) hm (fun _ e => by cases e), hb⟩

/-- merge.Of's iterator. -/
abbrev ofV (B : Nat) : Value := .func (.func 60) #[] #[.pointer (some ⟨B, 0, none⟩)]
/-- What a call that hands back a page returns. -/
def PageR (w : World) (r : List Ver × Bool) (e : Ending) (w' : World) : Prop := ∃ A cp, e = .returned (.tuple #[.agg #[.slice A r.1.length cp, .bool r.2], .int .i64 0]) ∧ ItsAt w' A r.1 ∧ (∀ ad, A = some ad → w.heap.size ≤ ad.block) ∧ Below w.heap.size w w'

/-- The return of a page. -/
theorem ret_page {n : Nat} {fn : Func} {w W3 : World} {r : List Ver × Bool} {os : List Ver} {mo : Bool} (hr : r = (os, mo)) {A' : Option Addr} {cp' D b s1 : Nat} (hA : ∀ ad, A' = some ad → s1 ≤ ad.block) (hs1 : w.heap.size ≤ s1)
    (hI3 : ItsAt W3 A' os) (P3 : PgRow W3 b A' os.length cp' mo) (B3 : Below w.heap.size w W3) (hD : w.heap.size ≤ D ∧ D ≠ b ∧ ∀ ad, A' = some ad → D ≠ ad.block) (K3 : W3.heap[D]? = some (.deferred (some [])))
    {p u : Tmp} (hres : fn.results = #[.cell p 52, .tmp u]) {tmps : Array Value} (hp : tmps.getD p undef = .pointer (some ⟨b, 0, none⟩)) (hu : tmps.getD u undef = .int .i64 0) :
    bodyPostM Fence.wide n Tryd.prog fn (fun e w' => PageR w r e w') .ret { tmps := tmps, defers := [{ target := .collected D, args := #[] }] } W3 := by
  subst hr
  refine ⟨by simp, .inl ⟨_, _, rfl, run_takeDeferred K3, ?_⟩⟩
  have hg : W3.grownBy (W3.putObj D (.deferred none)) (some D) := ⟨rfl, rfl, rfl, by simp, fun k hk hne => World.putObj_heap_other (fun e => hne (by rw [e]))⟩
  have P4 := P3.grown hg (fun e => hD.2.1 (Option.some.inj e))
  have hI4 := hI3.grown (fun ad h e => hD.2.2 ad h (Option.some.inj e)) hg
  have B4 := below_own B3 hg B3.size (fun r e => by have : D = r := Option.some.inj e; omega)
  refine ⟨_, Cell.results_cell2 hres _ _ b 52 _ (0, 0) _ hp P4 Tryd.underlying52 rfl (by kernel_rfl), A', cp', by rw [hu], hI4, fun ad h => by have := hA ad h; omega, B4⟩

end Go.Proofs.YtaeiahkomdpcoaaDoor.Page
end

section
/- name.May and name.Encode of an object's key, however long its name. -/
namespace Go.Proofs.YtaeiahkomdpcoaaDoor.Name
open Go.RowKit

theorem mayB_3 (kb kn : ByteArray) (nn : Nat) : mayB ⟨3, kb, kn, nn, 0⟩ = (bucketL kb.data.toList && objectL kn.data.toList) := by
  unfold mayB
  simp [hasB, hasN]

set_option maxHeartbeats 6400000 in
set_option maxRecDepth 100000 in
theorem may3 (kb kn : ByteArray) (nn : Nat) (w : World) (hb4 : kb.size ≤ 9223372036854775807) (hn4 : kn.size ≤ 9223372036854775807) : Calls Tryd.prog 22 #[.agg #[.int .u8 3, .string kb, .string kn, .int .u64 (nn : Int), .int .i64 0]] w fun e w' => e = .returned (.bool (mayB ⟨3, kb, kn, nn, 0⟩)) ∧ Below w.heap.size w w' := by
  rw [mayB_3]
  have HH := Lib.hid (has_calls 3)
  have HB := Lib.hid (fun W => bucket_calls kb W (by omega))
  have HO := Lib.hid (fun W => object_calls kn W (by omega))
  have hnn : ((nn : Int) == 0) = decide (nn = 0) := by
    by_cases h : nn = 0
    · subst h; rfl
    · rw [decide_eq_false h, beq_eq_false_iff_ne]; omega
  obtain ⟨xb, hxb⟩ : ∃ x, x = bucketL kb.data.toList := ⟨_, rfl⟩
  obtain ⟨xo, hxo⟩ : ∃ x, x = objectL kn.data.toList := ⟨_, rfl⟩
  obtain ⟨zn, hzn⟩ : ∃ x, x = decide (nn = 0) := ⟨_, rfl⟩
  simp only [← hxb] at HB
  simp only [← hxo] at HO
  rw [← hzn] at hnn
  rw [← hxb, ← hxo]
  clear hxb hxo hzn
  unfold hasV at HH
  cases xb <;> cases xo
  all_goals
    go_enter Tryd.func22, Tryd.ntmps22
    go_wp2_with fail
    refine (HH.out _).mono ?_
    rintro e w1 ⟨rfl, rfl⟩
    go_wp2_with fail
    refine (HB.out _).mono ?_
    rintro e w2 ⟨rfl, hb2⟩
    have q2 : w2.cell? ⟨w.heap.size, 2, none⟩ = some (.string kn) := (hb2.cell (p := ⟨w.heap.size, 2, none⟩) (by simp)).trans (by simp)
    have q3 : w2.cell? ⟨w.heap.size, 3, none⟩ = some (.int .u64 (nn : Int)) := (hb2.cell (p := ⟨w.heap.size, 3, none⟩) (by simp)).trans (by simp)
    have q4 : w2.cell? ⟨w.heap.size, 4, none⟩ = some (.int .i64 0) := (hb2.cell (p := ⟨w.heap.size, 4, none⟩) (by simp)).trans (by simp)
    go_wp2_with (go_at_call 20; refine (HO.out _).mono ?_; rintro e w3 ⟨rfl, rfl⟩)
    go_ret
    exact ⟨rfl, below_of (below_one _ _) hb2⟩

/-- Encode of an object's key. -/
theorem enc3 (kb kn : ByteArray) (nn : Nat) (w : World) (hv : Var0 w) (hb : kb.size ≤ 9223372036854775807) (hn : kn.size ≤ 9223372036854775807) (ht : nn ≤ top) :
    Calls Tryd.prog 11 #[.agg #[.int .u8 3, .string kb, .string kn, .int .u64 (nn : Int), .int .i64 0]] w fun e w' => e = .returned (encR ⟨3, kb, kn, nn, 0⟩) ∧ Below w.heap.size w w' := by
  unfold encR
  cases hm : mayB ⟨3, kb, kn, nn, 0⟩
  · have HM := Lib.hid (fun W => may3 kb kn nn W hb hn)
    rw [hm] at HM
    clear hm
    go_enter Tryd.func11, Tryd.ntmps11
    go_wp2_with fail
    refine (HM.out _).mono ?_
    rintro e w1 ⟨rfl, hb1⟩
    go_wp2
    go_ret2
    exact ⟨rfl, below_of (below_one _ _) hb1⟩
  · have h := hm
    rw [mayB_3, Bool.and_eq_true] at h
    obtain ⟨q1, q3⟩ := h
    unfold bucketL at q1
    unfold objectL at q3
    simp only [Bool.and_eq_true, decide_eq_true_eq] at q1 q3
    refine encode_3 kb kn nn 0 w hv ⟨?_, ?_, by show (3 : Nat) < 256; decide, ht⟩ hm
    · have := q1.1.1.1.2
      show kb.size ≤ 4096
      have e : kb.size = kb.data.toList.length := rfl
      omega
    · have := q3.2
      show kn.size ≤ 4096
      have e : kn.size = kn.data.toList.length := rfl
      omega

end Go.Proofs.YtaeiahkomdpcoaaDoor.Name
end

section
/- hoardlaw24.pair: a version as a pair, or nothing. -/
namespace Go.Proofs.YtaeiahkomdpcoaaDoor.Page
open Go Go.RowKit Go.Proofs.YtaeiahkomdpcoaaDoor.Seq Go.Proofs.YtaeiahkomdpcoaaDoor.Cell

/-- May a version be? -/
def okB (v : Ver) : Bool := Name.mayB v.key && mayCB v.cel
def pairS (v : Ver) : Pr := if okB v = true then prOf v else (none', none')
theorem okB_ok {v : Ver} (h : okB v = true) (hn : v.n ≤ Name.top) : v.Ok := by
  unfold okB at h
  rw [Bool.and_eq_true] at h
  exact ⟨h.1, hn, (mayCB_iff _).1 h.2⟩
structure VFit (v : Ver) : Prop where
  bk : v.bk.size ≤ 9223372036854775807
  nm : v.nm.size ≤ 9223372036854775807
  n : v.n ≤ Name.top

def PrRow (w : World) (b : Nat) (p : Pr) : Prop := w.heap[b]? = some (.cells #[.string p.1, .string p.2] 64 (0, 0))
section
variable {w w' : World} {b : Nat} {p : Pr}
theorem PrRow.lt (h : PrRow w b p) : b < w.heap.size := (Array.getElem?_eq_some_iff.1 h).1
theorem PrRow.below (h : PrRow w b p) (hb : Below w.heap.size w w') : PrRow w' b p := (hb.block _ h.lt).trans h
theorem PrRow.other (h : PrRow w b p) (a : Addr) (ha : a.block ≠ b) (v : Value) : PrRow (w.setCell a v) b p := (Below.heap_setCell _ _ _ _ (fun e => ha e.symm)).trans h
theorem PrRow.c (h : PrRow w b p) : w.cell? ⟨b, 0, none⟩ = some (.string p.1) ∧ w.cell? ⟨b, 1, none⟩ = some (.string p.2) := by
  refine ⟨?_, ?_⟩ <;> (rw [Joins.cell_of_block h]; rfl)
theorem PrRow.f (h : PrRow w b p) (k : Nat) : w.frozen? ⟨b, k, none⟩ = false := Lib.frozen_of_heap h k
theorem PrRow.set (h : PrRow w b p) (q : Pr) : PrRow ((w.setCell ⟨b, 0, none⟩ (.string q.1)).setCell ⟨b, 1, none⟩ (.string q.2)) b q := by
  unfold PrRow at h ⊢; simp [World.setCell, Array.getElem?_modify, h]
theorem prRow_new (w : World) (p : Pr) : PrRow (w.alloc (.cells #[.string p.1, .string p.2] 64)) w.heap.size p := (MapKept.heap_alloc w _).1
end

theorem celEnc (v : Ver) (w : World) : Calls Tryd.prog 61 #[.agg #[.int .u8 3, .int .u64 0, .bool v.gone, .string ⟨#[]⟩, .int .i64 v.len, .string (if v.gone then ⟨#[]⟩ else v.tx), .slice none 0 0]] w fun e w' =>
    e = .returned (if mayCB v.cel = true then .tuple #[.string (prOf v).2, .int .i64 0] else .tuple #[.string ⟨#[]⟩, .int .i64 2]) ∧ Below w.heap.size w w' := by
  have h := Cell.encode_calls v.cel none 0 w (by unfold Ver.cel; cases v.gone <;> exact PcsAt.nil _ _) (by unfold Ver.cel; cases v.gone <;> simp [Body.zero]) (by show (3 : Nat) < 256; decide)
  have e : cvs v.cel none 0 = #[.int .u8 3, .int .u64 0, .bool v.gone, .string ⟨#[]⟩, .int .i64 v.len, .string (if v.gone then ⟨#[]⟩ else v.tx), .slice none 0 0] := by
    unfold cvs Ver.cel Ver.len
    cases v.gone <;> rfl
  rw [e] at h
  exact h

set_option maxHeartbeats 1600000 in
set_option maxRecDepth 100000 in
theorem pair_calls (v : Ver) (w : World) (hv : Name.Var0 w) (hf : VFit v) : Calls Tryd.prog 34 #[.string v.bk, .string v.nm, .int .u64 (v.n : Int), .string v.tx, .bool v.gone] w fun e w' =>
    e = .returned (.agg #[.string (pairS v).1, .string (pairS v).2]) ∧ Below w.heap.size w w' := by
  have E1 : Hid (∀ W, Name.Var0 W → Calls Tryd.prog 11 #[.agg #[.int .u8 3, .string v.bk, .string v.nm, .int .u64 (v.n : Int), .int .i64 0]] W fun e w' => e = .returned (if Name.mayB v.key = true then .tuple #[.string (prOf v).1, .int .i64 0] else .tuple #[.string ⟨#[]⟩, .int .i64 2]) ∧ Below W.heap.size W w') :=
    fun W h => Name.enc3 v.bk v.nm v.n W h hf.bk hf.nm hf.n
  have E2 : Hid (∀ W, _) := fun W => celEnc v W
  have b1 := below_one w (.cells #[.string ⟨#[]⟩, .string ⟨#[]⟩] 64)
  have v1 := hv.below b1
  have p1 := prRow_new w (⟨#[]⟩, ⟨#[]⟩)
  obtain ⟨m1, q1⟩ : ∃ m, m = Name.mayB v.key := ⟨_, rfl⟩
  obtain ⟨m2, q2⟩ : ∃ m, m = mayCB v.cel := ⟨_, rfl⟩
  have HR : Hid (pairS v = if m1 && m2 then prOf v else (none', none')) := by
    show _ = _
    unfold pairS okB
    rw [q1, q2]
  rw [← q1] at E1
  rw [← q2] at E2
  clear q1 q2
  obtain ⟨⟨s1, s2⟩, qs⟩ : ∃ s, s = prOf v := ⟨_, rfl⟩
  rw [← qs] at E1 E2 HR
  obtain ⟨ln, ql⟩ : ∃ l, l = v.len := ⟨_, rfl⟩
  have hl : v.gone = false → ln = (v.tx.size : Int) := fun h => by rw [ql]; unfold Ver.len; rw [h]; rfl
  have hl0 : v.gone = true → ln = 0 := fun h => by rw [ql]; unfold Ver.len; rw [h]; rfl
  rw [← ql] at E2
  obtain ⟨R, qR⟩ : ∃ R, R = pairS v := ⟨_, rfl⟩
  rw [← qR] at HR ⊢
  obtain ⟨bk, nm, n, tx, g⟩ := v
  simp only at E1 E2 hl hl0 ⊢
  clear qs ql qR hv hf
  go_enter Tryd.func34, Tryd.ntmps34
  go_wp2_with fail
  refine (E1.out _ v1).mono ?_
  rintro e w2 ⟨rfl, b2⟩
  have p2 := p1.below b2
  have c2 := below_of b1 b2
  clear E1 p1 b1 b2 v1
  cases g
  case true =>
    obtain rfl := hl0 rfl
    clear hl hl0
    have b3 := below_one w2 (.cells #[.int .u8 3, .int .u64 0, .bool true, .string ⟨#[]⟩, .int .i64 0, .string ⟨#[]⟩, .slice none 0 0] 99)
    have R3 := row_new w2 #[.int .u8 3, .int .u64 0, .bool true, .string ⟨#[]⟩, .int .i64 0, .string ⟨#[]⟩, .slice none 0 0]
    have p3 := p2.below b3
    have c3 := below_of c2 b3
    clear p2 c2 b3
    cases m1 <;> cases m2
    all_goals
      obtain rfl := HR.out
      clear HR
      simp only [Bool.false_eq_true, if_true, if_false] at E2 ⊢
      go_wp2_with fail
      refine (E2.out _).mono ?_
      rintro e w4 ⟨rfl, b4⟩
      have p4 := p3.below b4
      have c4 := below_of c3 b4
      obtain ⟨z0, z1⟩ := p4.c
      have f0 := p4.f 0
      have f1 := p4.f 1
      have p5 := p4.set (none', none')
      have p6 := p4.set (s1, s2)
      have c5 := (c4.setCell (p := ⟨w.heap.size, 0, none⟩) (Nat.le_refl _) (.string none')).setCell (p := ⟨w.heap.size, 1, none⟩) (Nat.le_refl _) (.string none')
      have c6 := (c4.setCell (p := ⟨w.heap.size, 0, none⟩) (Nat.le_refl _) (.string s1)).setCell (p := ⟨w.heap.size, 1, none⟩) (Nat.le_refl _) (.string s2)
      clear p3 c3 b4 p4 c4 R3 E2
      go_wp2_with fail
      first
        | (refine bodyPost_ret (results_cell_row rfl _ _ w.heap.size 64 _ (0, 0) _ rfl p5 Tryd.underlying64 rfl (by kernel_rfl)) rfl ?_; exact ⟨rfl, c5⟩)
        | (refine bodyPost_ret (results_cell_row rfl _ _ w.heap.size 64 _ (0, 0) _ rfl p6 Tryd.underlying64 rfl (by kernel_rfl)) rfl ?_; exact ⟨rfl, c6⟩)
  case false =>
    obtain rfl := hl rfl
    clear hl hl0
    have b3 := below_one w2 (.cells #[.int .u8 3, .int .u64 0, .bool false, .string ⟨#[]⟩, .int .i64 (tx.size : Int), .string tx, .slice none 0 0] 99)
    have R3 := row_new w2 #[.int .u8 3, .int .u64 0, .bool false, .string ⟨#[]⟩, .int .i64 (tx.size : Int), .string tx, .slice none 0 0]
    have p3 := p2.below b3
    have c3 := below_of c2 b3
    clear p2 c2 b3
    cases m1 <;> cases m2
    all_goals
      obtain rfl := HR.out
      clear HR
      simp only [Bool.false_eq_true, if_true, if_false] at E2 ⊢
      go_wp2_with fail
      refine (E2.out _).mono ?_
      rintro e w4 ⟨rfl, b4⟩
      have p4 := p3.below b4
      have c4 := below_of c3 b4
      obtain ⟨z0, z1⟩ := p4.c
      have f0 := p4.f 0
      have f1 := p4.f 1
      have p5 := p4.set (none', none')
      have p6 := p4.set (s1, s2)
      have c5 := (c4.setCell (p := ⟨w.heap.size, 0, none⟩) (Nat.le_refl _) (.string none')).setCell (p := ⟨w.heap.size, 1, none⟩) (Nat.le_refl _) (.string none')
      have c6 := (c4.setCell (p := ⟨w.heap.size, 0, none⟩) (Nat.le_refl _) (.string s1)).setCell (p := ⟨w.heap.size, 1, none⟩) (Nat.le_refl _) (.string s2)
      clear p3 c3 b4 p4 c4 R3 E2
      go_wp2_with fail
      first
        | (refine bodyPost_ret (results_cell_row rfl _ _ w.heap.size 64 _ (0, 0) _ rfl p5 Tryd.underlying64 rfl (by kernel_rfl)) rfl ?_; exact ⟨rfl, c5⟩)
        | (refine bodyPost_ret (results_cell_row rfl _ _ w.heap.size 64 _ (0, 0) _ rfl p6 Tryd.underlying64 rfl (by kernel_rfl)) rfl ?_; exact ⟨rfl, c6⟩)

end Go.Proofs.YtaeiahkomdpcoaaDoor.Page
end

section
/- hoardlaw24.rows, in plain Lean: versions in the order of their keys, none twice. -/
namespace Go.Proofs.YtaeiahkomdpcoaaDoor.Page
open Go Go.Proofs.YtaeiahkomdpcoaaDoor.Seq

def kB : ByteArray := ⟨#[107]⟩
def jB : ByteArray := ⟨#[106]⟩
def keyOf (v : Ver) : ByteArray := (prOf v).1
theorem keyOf_ne (v : Ver) : keyOf v ≠ none' := fun h => by
  have := congrArg (fun b : ByteArray => b.data.toList) h
  have e : (keyOf v).data.toList = Name.encL v.key := by unfold keyOf prOf; simp [Name.bs]
  simp only [e] at this
  unfold Name.encL none' at this
  cases this
def bef (v : Ver) (u : Ver) : Bool := lt (keyOf u) (keyOf v)
def insV (out : List Ver) (v : Ver) : List Ver :=
  if okB v = true then
    (if (out.dropWhile (bef v)).head?.map keyOf = some (keyOf v) then out else out.takeWhile (bef v) ++ v :: out.dropWhile (bef v))
  else out
def rowsV (l : List Ver) : List Ver := l.foldl insV []
theorem rowsV_snoc (l : List Ver) (v : Ver) : rowsV (l ++ [v]) = insV (rowsV l) v := by
  unfold rowsV
  rw [List.foldl_append]
  rfl
theorem insV_length (out : List Ver) (v : Ver) : (insV out v).length ≤ out.length + 1 := by
  unfold insV
  split
  · split
    · omega
    · have := congrArg List.length (List.takeWhile_append_dropWhile (p := bef v) (l := out))
      rw [List.length_append] at this
      rw [List.length_append, List.length_cons]
      omega
  · omega
/-- What holds of each version of a row. -/
def AllIn (b : ByteArray) (out : List Ver) : Prop := ∀ u ∈ out, okB u = true ∧ u.bk = b ∧ u.n ≤ Name.top
theorem insV_all {b : ByteArray} {out : List Ver} {v : Ver} (h : AllIn b out) (hv : v.bk = b) (hn : v.n ≤ Name.top) : AllIn b (insV out v) := by
  unfold insV
  split
  · rename_i ho
    split
    · exact h
    · intro u hu
      rcases List.mem_append.1 hu with hu | hu
      · exact h u (List.takeWhile_subset _ hu)
      · rcases List.mem_cons.1 hu with rfl | hu
        · exact ⟨ho, hv, hn⟩
        · exact h u (List.dropWhile_subset _ hu)
  · exact h
def SrtK (out : List Ver) : Prop := out.Pairwise fun a b => lt (keyOf a) (keyOf b) = true
theorem insV_srt {out : List Ver} {v : Ver} (h : SrtK out) : SrtK (insV out v) := by
  unfold insV
  split
  · split
    · exact h
    · rename_i hne
      have h0 : SrtK (out.takeWhile (bef v) ++ out.dropWhile (bef v)) := by rw [List.takeWhile_append_dropWhile]; exact h
      obtain ⟨h1, h2, h3⟩ := List.pairwise_append.1 h0
      have ha : ∀ u ∈ out.takeWhile (bef v), lt (keyOf u) (keyOf v) = true := fun u hu => by
        exact List.all_eq_true.1 (List.all_takeWhile (p := bef v) (l := out)) u hu
      have hb : ∀ u ∈ out.dropWhile (bef v), lt (keyOf v) (keyOf u) = true := by
        cases hd : out.dropWhile (bef v) with
        | nil => intro u hu; cases hu
        | cons x xs =>
          rw [hd] at hne h2
          have hx : bef v x = false := by
            have := List.head?_dropWhile_not (bef v) out
            rw [hd] at this
            simpa using this
          have hxv : lt (keyOf v) (keyOf x) = true := by
            rcases lt_tri hx with h4 | h4
            · exact absurd (by rw [h4]; rfl) hne
            · exact h4
          intro u hu
          rcases List.mem_cons.1 hu with rfl | hu
          · exact hxv
          · exact lt_trans hxv ((List.pairwise_cons.1 h2).1 u hu)
      refine List.pairwise_append.2 ⟨h1, List.pairwise_cons.2 ⟨hb, h2⟩, fun u hu w hw => ?_⟩
      rcases List.mem_cons.1 hw with rfl | hw
      · exact ha u hu
      · exact h3 u hu w hw
  · exact h

theorem key_names {a b : Ver} (ha : a.Ok) (hb : b.Ok) (hk : a.bk = b.bk) (h : lt (keyOf a) (keyOf b) = true) : lt b.nm a.nm = false := by
  rw [lt_cmp, decide_eq_true_iff] at h
  have ea : (keyOf a).data.toList = Name.encL a.key := by unfold keyOf prOf; simp [Name.bs]
  have eb : (keyOf b).data.toList = Name.encL b.key := by unfold keyOf prOf; simp [Name.bs]
  rw [ea, eb, Name.cmpL_enc ha.k hb.k ha.n hb.n] at h
  unfold Name.cmpK Ver.key at h
  simp only [hk, Name.cmpL_self] at h
  rw [show Name.cmpN 3 3 = 0 from by decide, Name.zero_orZ, Name.zero_orZ] at h
  rw [lt_cmp, decide_eq_false_iff_not, Name.cmpL_neg a.nm.data.toList b.nm.data.toList]
  unfold Name.orZ at h
  split at h
  · omega
  · omega
theorem okB_name {v : Ver} (h : okB v = true) : v.nm ≠ none' := fun e => by
  unfold okB at h
  rw [Bool.and_eq_true] at h
  have h3 := (Name.may_facts h.1).2.2.2.1 rfl
  unfold Name.objectL Ver.key at h3
  simp only [e, decide_eq_true_eq] at h3
  have : none'.data.toList.length = 0 := rfl
  omega
theorem srt_names {b : ByteArray} {out : List Ver} (h : SrtK out) (ha : AllIn b out) : Srt out := by
  refine List.Pairwise.imp_of_mem ?_ h
  intro x y hx hy hxy
  exact key_names (okB_ok (ha x hx).1 (ha x hx).2.2) (okB_ok (ha y hy).1 (ha y hy).2.2) ((ha x hx).2.1.trans (ha y hy).2.1.symm) hxy
theorem fold_facts {b : ByteArray} : ∀ (l acc : List Ver), (∀ v ∈ l, v.bk = b ∧ v.n ≤ Name.top) → AllIn b acc → SrtK acc → AllIn b (l.foldl insV acc) ∧ SrtK (l.foldl insV acc) ∧ (l.foldl insV acc).length ≤ acc.length + l.length
  | [], acc, _, h1, h2 => ⟨h1, h2, by simp⟩
  | v :: l, acc, h, h1, h2 => by
    have hv := h v List.mem_cons_self
    obtain ⟨i1, i2, i3⟩ := fold_facts l (insV acc v) (fun u hu => h u (List.mem_cons_of_mem _ hu)) (insV_all h1 hv.1 hv.2) (insV_srt h2)
    refine ⟨i1, i2, ?_⟩
    have := insV_length acc v
    simp only [List.foldl_cons, List.length_cons]
    omega
theorem rowsV_facts {b : ByteArray} (l : List Ver) (h : ∀ v ∈ l, v.bk = b ∧ v.n ≤ Name.top) : AllIn b (rowsV l) ∧ SrtK (rowsV l) ∧ (rowsV l).length ≤ l.length := by
  have := fold_facts l [] h (fun u hu => by cases hu) .nil
  simpa [rowsV] using this
theorem itemsOf_self {b : ByteArray} {vs : List Ver} (h : ∀ v ∈ vs, v.bk = b) : itemsOf b vs = vs := List.filter_eq_self.2 fun v hv => by simpa using h v hv
theorem itemsOf_none {b : ByteArray} {vs : List Ver} (h : ∀ v ∈ vs, v.bk ≠ b) : itemsOf b vs = [] := List.filter_eq_nil_iff.2 fun v hv => by simpa using h v hv
theorem itemsOf_app (b : ByteArray) (xs ys : List Ver) : itemsOf b (xs ++ ys) = itemsOf b xs ++ itemsOf b ys := List.filter_append ..

/-- Where the walk along a row stands still. -/
theorem tw_at {p : Ver → Bool} {out : List Ver} {k : Nat} (hk : k ≤ out.length) (h1 : ∀ j (hj : j < out.length), j < k → p out[j] = true) (h2 : ∀ (h : k < out.length), p out[k] = false) : out.takeWhile p = out.take k ∧ out.dropWhile p = out.drop k := by
  induction out generalizing k with
  | nil => simp at hk; subst hk; exact ⟨rfl, rfl⟩
  | cons u us ih =>
    cases k with
    | zero =>
      have := h2 (by simp)
      simp only [List.getElem_cons_zero] at this
      simp [this]
    | succ k =>
      have h0 := h1 0 (by simp) (by omega)
      simp only [List.getElem_cons_zero] at h0
      obtain ⟨i1, i2⟩ := ih (k := k) (by simpa using hk) (fun j hj hjk => by have := h1 (j + 1) (by simpa using hj) (by omega); simpa using this) (fun h => by have := h2 (by simpa using h); simpa using this)
      simp [h0, i1, i2]

end Go.Proofs.YtaeiahkomdpcoaaDoor.Page
end
