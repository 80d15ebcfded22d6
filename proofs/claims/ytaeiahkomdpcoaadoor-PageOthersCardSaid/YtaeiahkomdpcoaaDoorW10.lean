/- Texts merged into one: part 10 of 12. -/
import Derived.Deep.RegionHeld3
import Derived.Deep.CutRange
import Derived.Deep.CutBlock
import Derived.Deep.Onto
import Derived.Test.YtaeiahkomdpcoaaDoorW9

section
/- Versions in memory; the walk of hoardlaw24.many. -/
namespace Go.Proofs.YtaeiahkomdpcoaaDoor.Page
open Go Go.RowKit Go.Deep Go.Proofs.YtaeiahkomdpcoaaDoor.Seq

/-- A row of versions (what bucket they are of is not said). -/
def VsAt (w : World) (A : Option Addr) (l : List Ver) : Prop := ∀ i p, l[i]? = some p → ∃ ad, A = some ad ∧ ad.block < w.heap.size ∧ w.cell? (ad.add (i * 4)) = some (.string p.nm) ∧ w.cell? (ad.add (i * 4 + 1)) = some (.int .u64 (p.n : Int)) ∧ w.cell? (ad.add (i * 4 + 2)) = some (.string p.tx) ∧ w.cell? (ad.add (i * 4 + 3)) = some (.bool p.gone) ∧ VFit p
theorem VsAt.below {w w' : World} {A : Option Addr} {l : List Ver} (h : VsAt w A l) (hb : Below w.heap.size w w') : VsAt w' A l := fun i s hs => by
  obtain ⟨ad, h0, h1, h2, h3, h4, h5, h6⟩ := h i s hs
  have hk : ∀ n, w'.cell? (ad.add n) = w.cell? (ad.add n) := fun n => World.cell?_of_block (by rw [block_of_add]; exact hb.block _ h1)
  exact ⟨ad, h0, Nat.lt_of_lt_of_le h1 hb.size, (hk _).trans h2, (hk _).trans h3, (hk _).trans h4, (hk _).trans h5, h6⟩
theorem VsAt.at_ {w : World} {A : Option Addr} {l : List Ver} (h : VsAt w A l) {k : Nat} (hk : k < l.length) : ∃ ad, A = some ad ∧ ad.block < w.heap.size ∧ w.cell? (ad.add (k * 4)) = some (.string l[k].nm) ∧ w.cell? ⟨(ad.add (k * 4)).block, (ad.add (k * 4)).off + 1, none⟩ = some (.int .u64 (l[k].n : Int)) ∧
    w.cell? ⟨(ad.add (k * 4)).block, (ad.add (k * 4)).off + 2, none⟩ = some (.string l[k].tx) ∧ w.cell? ⟨(ad.add (k * 4)).block, (ad.add (k * 4)).off + 3, none⟩ = some (.bool l[k].gone) ∧ VFit l[k] := by
  obtain ⟨ad, h0, h1, h2, h3, h4, h5, h6⟩ := h k _ (List.getElem?_eq_getElem hk)
  refine ⟨ad, h0, h1, h2, ?_, ?_, ?_, h6⟩
  · rw [← h3, ← Deep.add_add]; rfl
  · rw [← h4, ← Deep.add_add]; rfl
  · rw [← h5, ← Deep.add_add]; rfl

def ManyR (n : Nat) (e : Ending) : Prop := ∃ b, e = .returned (.bool b) ∧ (b = false → n ≤ 60)

set_option maxHeartbeats 1600000 in
set_option maxRecDepth 100000 in
theorem many_calls (A : Option Addr) (c : Nat) (l : List Ver) (w : World) (h : VsAt w A l) :
    Calls Tryd.prog 27 #[.slice A l.length c] w fun e w' => ManyR l.length e ∧ Below w.heap.size w w' := by
  go_enter Tryd.func27, Tryd.ntmps27
  go_wp2
  go_loopw [3, 4] (fun nv iv wr => ∃ (x : Int) (k : Nat), k ≤ l.length ∧ k ≤ 500 ∧ nv = .int .i64 x ∧ iv = .int .i64 k ∧ Below w.heap.size w wr) (fun _ iv _ => 501 - (intOf iv).toNat)
  case atStart => exact ⟨0, 0, by omega, by omega, rfl, rfl, Below.refl _ _⟩
  case round =>
    obtain ⟨x, k, hk, hk5, rfl, rfl, hB⟩ := hrel
    by_cases hlt : k < l.length ∧ k < 500
    · obtain ⟨ad, rfl, _, c0, _, c2, _, _⟩ := (h.below hB).at_ hlt.1
      obtain ⟨v, qv⟩ : ∃ v, v = l[k] := ⟨_, rfl⟩
      rw [← qv] at c0 c2
      clear qv
      obtain ⟨e1, e2⟩ := hlt
      go_upto_region 5 with fail
      go_region
      go_wp2_with fail
      go_roundw
      case rel => exact ⟨_, k + 1, by omega, by omega, rfl, by go_num, hB.drew⟩
      case measure => simp [intOf]; omega
    · by_cases h6 : 60 < l.length
      · have q6 : (60 : Int) < (l.length : Int) := by omega
        by_cases hlt1 : k < l.length
        · have hk0 : ¬ k < 500 := fun h => hlt ⟨hlt1, h⟩
          clear hlt
          go_wp2
          go_ret
          exact ⟨⟨true, rfl, fun h => by cases h⟩, hB⟩
        · clear hlt
          go_wp2
          go_ret
          exact ⟨⟨true, rfl, fun h => by cases h⟩, hB⟩
      · have q6 : ¬ (60 : Int) < (l.length : Int) := by omega
        have hlt1 : ¬ k < l.length := fun h => hlt ⟨h, by omega⟩
        clear hlt
        obtain ⟨y, qy⟩ : ∃ y, y = decide (4096 < x) := ⟨_, rfl⟩
        go_wp2
        go_ret
        exact ⟨⟨_, rfl, fun _ => by omega⟩, hB⟩

end Go.Proofs.YtaeiahkomdpcoaaDoor.Page
end

section
/- The walk of hoardlaw24.rows. -/
namespace Go.Proofs.YtaeiahkomdpcoaaDoor.Page
open Go Go.RowKit Go.Deep Go.Proofs.YtaeiahkomdpcoaaDoor.Seq

/-- Nothing is appended. -/
theorem run_append_empty {P : Program} {w : World} {t ty e : TypeId} {i : TypeInfo} (ht : P.underlying t = some (.slice e)) (hi : P.info? e = some i) {base size : Nat} {v : Value} {n : Nat} {xs : List Value} (hown : w.ownsRow base e size v n xs) (c : Nat) :
    (Builtin.append_ #[t, t] ty #[v, .slice none 0 c]).run P w = .ok v w := by
  rcases hown.2 with ⟨rfl, rfl⟩ | ⟨g, cap, cur, rfl, hb, hg, hn, _⟩
  · simp [Builtin.append_, run_underlying ht, sizeOf, typeInfo, hi, Builtin.lenOf, Builtin.firstCells]
  · simp [Builtin.append_, run_underlying ht, sizeOf, typeInfo, hi, Builtin.lenOf, Builtin.firstCells, hn, storeCells]
theorem wpList_append_empty {P : Program} {w : World} {ops : Array Oper} {rest : List Oper} {o : Oper} {a : Act} {Q : Exit → Act → World → Prop} (hgd : o.guard = none) (s x : Operand) (t : TypeId)
    (ho : o.op = .call { callee := .builtin .append, args := #[s, x], argTypes := #[t, t] }) (e : TypeId) (i : TypeInfo) (ht : P.underlying t = some (.slice e)) (hi : P.info? e = some i) (base size : Nat)
    (v : Value) (n : Nat) (xs : List Value) (hs : a.eval s = v) (hown : w.ownsRow base e size v n xs) (c : Nat) (hx : a.eval x = .slice none 0 c)
    (h : wpList P ops Q rest (a.put o.dst v) w) : wpList P ops Q (o :: rest) a w :=
  wpList_plain hgd fun _ hK => by
    have hr := run_append_empty (ty := o.type) ht hi hown c
    unfold Oper.wp execOp
    simp only [ho, resolve, invoke, builtin, Sem.run_bind, Sem.run_pure, Result.andThen_ok, List.map_toArray, List.map_cons, List.map_nil, hs, hx, hr]
    exact hK _ _ h

def prCells (out : List Ver) : List Value := out.flatMap fun v => [.string (prOf v).1, .string (prOf v).2]
theorem prCells_len (out : List Ver) : (prCells out).length = out.length * 2 := by
  induction out with
  | nil => rfl
  | cons p ps ih => simp only [prCells, List.flatMap_cons, List.length_append, List.length_cons, List.length_nil] at ih ⊢; omega
theorem prCells_app (xs ys : List Ver) : prCells (xs ++ ys) = prCells xs ++ prCells ys := by simp [prCells]
theorem prCells_one (out : List Ver) : ∀ u ∈ prCells out, u.oneCell' = true := fun u hu => by
  obtain ⟨p, _, hu⟩ := List.mem_flatMap.1 hu
  simp at hu
  rcases hu with rfl | rfl <;> rfl
theorem prCells_get : ∀ (out : List Ver) (i : Nat) (p : Ver), out[i]? = some p → (prCells out)[i * 2]? = some (.string (prOf p).1) ∧ (prCells out)[i * 2 + 1]? = some (.string (prOf p).2)
  | [], _, _, h => by simp at h
  | q :: ps, 0, p, h => by
    simp at h; subst h
    exact ⟨rfl, rfl⟩
  | q :: ps, i + 1, p, h => by
    have ih := prCells_get ps i p (by simpa using h)
    have e : ∀ n, (prCells (q :: ps))[n + 2]? = (prCells ps)[n]? := fun n => by
      show ([.string (prOf q).1, .string (prOf q).2] ++ prCells ps)[n + 2]? = _
      rw [List.getElem?_append_right (by simp)]; rfl
    refine ⟨?_, ?_⟩
    · rw [show (i + 1) * 2 = i * 2 + 2 by omega, e]; exact ih.1
    · rw [show (i + 1) * 2 + 1 = (i * 2 + 1) + 2 by omega, e]; exact ih.2
theorem infoPair : (Tryd.prog.info? 64).map (fun i => (i.zero, i.size, i.bytes)) = some (some (.agg #[.string ⟨#[]⟩, .string ⟨#[]⟩]), 2, 32) := by kernel_rfl
abbrev OwnP (w : World) (B : Nat) (A : Option Addr) (cp : Nat) (out : List Ver) : Prop := w.ownsRow B 64 2 (.slice A out.length cp) out.length (prCells out)

theorem OwnP.below {w w' : World} {B : Nat} {A : Option Addr} {cp : Nat} {out : List Ver} (h : OwnP w B A cp out) (hb : Below w.heap.size w w') : OwnP w' B A cp out :=
  World.ownsRow.kept h (below_grown0 hb) (by
    cases hv : (Value.slice A out.length cp).ownBlock with
    | none => exact .inl rfl
    | some k => exact .inr (by simp))
theorem OwnP.at_ {w : World} {B : Nat} {A : Option Addr} {cp : Nat} {out : List Ver} (h : OwnP w B A cp out) {k : Nat} (hk : k < out.length) : ∃ ad, A = some ad ∧ ad.block < w.heap.size ∧ w.cell? (ad.add (k * 2)) = some (.string (keyOf out[k])) := by
  rcases h.2 with ⟨hv, hn⟩ | ⟨g, cap, cur, hv, hg, hh, hle, _, _, hcur⟩
  · omega
  · cases hv
    exact ⟨_, rfl, (Array.getElem?_eq_some_iff.1 hh).1, World.ownsRow.cells h (g := g) rfl _ _ (prCells_get out k _ (List.getElem?_eq_getElem hk)).1⟩
theorem OwnP.form {w : World} {B : Nat} {A : Option Addr} {cp : Nat} {out : List Ver} (h : OwnP w B A cp out) (hne : 0 < out.length) :
    ∃ ad, A = some ad ∧ ad.block < w.heap.size ∧ out.length ≤ cp ∧ cp ≤ maxLen ∧ ∀ i u, (prCells out)[i]? = some u → w.cell? (ad.add i) = some u := by
  rcases h.2 with ⟨hv, hn⟩ | ⟨g, cap, cur, hv, hg, hh, hle, hm, _, hcur⟩
  · omega
  · cases hv
    exact ⟨_, rfl, (Array.getElem?_eq_some_iff.1 hh).1, hle, hm, fun i u hu => World.ownsRow.cells h (g := g) rfl _ _ hu⟩
theorem prCells_take {out : List Ver} {j i : Nat} {u : Value} (h : (prCells (out.take j))[i]? = some u) : (prCells out)[i]? = some u := by
  have e : prCells out = prCells (out.take j) ++ prCells (out.drop j) := by rw [← prCells_app, List.take_append_drop]
  rw [e, List.getElem?_append_left (List.getElem?_eq_some_iff.1 h).1]
  exact h
theorem prCells_drop {out : List Ver} {j i : Nat} {u : Value} (hj : j ≤ out.length) (h : (prCells (out.drop j))[i]? = some u) : (prCells out)[j * 2 + i]? = some u := by
  have e : prCells out = prCells (out.take j) ++ prCells (out.drop j) := by rw [← prCells_app, List.take_append_drop]
  have hl : (prCells (out.take j)).length = j * 2 := by rw [prCells_len, List.length_take, Nat.min_eq_left hj]
  rw [e, List.getElem?_append_right (by omega), hl, show j * 2 + i - j * 2 = i by omega]
  exact h
/-- The row of pairs that a row of versions is. -/
theorem OwnP.prs {w : World} {B : Nat} {A : Option Addr} {cp : Nat} {out : List Ver} (h : OwnP w B A cp out) : PrsAt w.heap.size w A (out.map prOf) := fun i p hp => by
  rw [List.getElem?_map] at hp
  obtain ⟨v, hv, rfl⟩ := Option.map_eq_some_iff.1 hp
  rcases h.2 with ⟨hv', hn⟩ | ⟨g, cap, cur, hv', hg, hh, hle, _, _, hcur⟩
  · have : out = [] := List.eq_nil_of_length_eq_zero hn
    rw [this] at hv; cases hv
  · cases hv'
    have hl := (Array.getElem?_eq_some_iff.1 hh).1
    exact ⟨_, rfl, hl, hl, World.ownsRow.cells h (g := g) rfl _ _ (prCells_get out i _ hv).1, World.ownsRow.cells h (g := g) rfl _ _ (prCells_get out i _ hv).2⟩

theorem fold_len : ∀ l acc : List Ver, (l.foldl insV acc).length ≤ acc.length + l.length
  | [], acc => by simp
  | v :: l, acc => by
    have h1 := fold_len l (insV acc v)
    have h2 := insV_length acc v
    simp only [List.foldl_cons, List.length_cons]
    omega
theorem rows_len (l : List Ver) : (rowsV l).length ≤ l.length := by
  have := fold_len l []
  simpa [rowsV] using this

theorem none_nil (s : ByteArray) : s.toList.isEmpty = decide (s = none') := by
  rw [ByteArray.toList_eq]
  by_cases h : s = none'
  · subst h; rfl
  · rw [decide_eq_false h, Bool.eq_false_iff]
    intro e
    rw [List.isEmpty_iff] at e
    exact h (ByteArray.ext (Array.toList_inj.1 e))
theorem own_new {w w3 : World} {base : Nat} {out : List Ver} {j : Nat} {pr : Pr} {v : Ver} {v3 : Value} (hp : pr = prOf v) (hj : j ≤ out.length) (h : w3.ownsRow base 64 2 v3 (j + 1 + (out.length - j)) (prCells (out.take j) ++ .string pr.1 :: .string pr.2 :: prCells (out.drop j))) (hb : w.heap.size ≤ base) :
    ∃ A cp, v3 = .slice (some A) (out.take j ++ v :: out.drop j).length cp ∧ OwnP w3 w.heap.size (some A) cp (out.take j ++ v :: out.drop j) := by
  have hl : (out.take j ++ v :: out.drop j).length = j + 1 + (out.length - j) := by
    rw [List.length_append, List.length_cons, List.length_take, List.length_drop, Nat.min_eq_left hj]; omega
  have hc : prCells (out.take j ++ v :: out.drop j) = prCells (out.take j) ++ .string pr.1 :: .string pr.2 :: prCells (out.drop j) := by
    rw [prCells_app, hp]; rfl
  obtain ⟨g, cap, rfl, _, _⟩ := h.form (by omega)
  refine ⟨_, cap, by rw [hl], ?_⟩
  unfold OwnP
  rw [hl, hc]
  exact h.mono hb
theorem beq_toList {a b : ByteArray} (h : (a.toList == b.toList) = true) : a = b := by
  rw [beq_iff_eq, ByteArray.toList_eq, ByteArray.toList_eq] at h
  exact ByteArray.ext (Array.toList_inj.1 h)
theorem rows_step {l : List Ver} {k : Nat} (hlt : k < l.length) : rowsV (l.take (k + 1)) = insV (rowsV (l.take k)) l[k] := by
  rw [List.take_add_one, List.getElem?_eq_getElem hlt]
  exact rowsV_snoc _ _
theorem rows_bad {l out : List Ver} {k : Nat} {v : Ver} {pr : Pr} {hlt : k < l.length} (ho : out = rowsV (l.take k)) (hv : v = l[k]) (hp : pr = pairS v) (hz : pr.1.toList.isEmpty = true) : out = rowsV (l.take (k + 1)) := by
  rw [rows_step hlt, ← ho, ← hv]
  rw [none_nil, decide_eq_true_eq] at hz
  have hb : okB v = false := by
    cases h : okB v with
    | false => rfl
    | true =>
      unfold pairS at hp
      rw [if_pos h] at hp
      subst hp
      exact absurd hz (keyOf_ne v)
  unfold insV
  rw [if_neg (by rw [hb]; decide)]
theorem rows_good {l out : List Ver} {k : Nat} {v : Ver} {pr : Pr} {hlt : k < l.length} (ho : out = rowsV (l.take k)) (hv : v = l[k]) (hp : pr = pairS v) (hz : pr.1.toList.isEmpty = false) {j : Nat} (hj : j ≤ out.length)
    (hJ : (∀ i (h : i < out.length), i < j → lt (keyOf out[i]) pr.1 = true) ∧ ∀ h : j < out.length, lt (keyOf out[j]) pr.1 = false) :
    pr = prOf v ∧ ((∀ h : j < out.length, keyOf out[j] ≠ pr.1) → rowsV (l.take (k + 1)) = out.take j ++ v :: out.drop j) ∧ (∀ h : j < out.length, keyOf out[j] = pr.1 → rowsV (l.take (k + 1)) = out) := by
  have hb : okB v = true := by
    cases h : okB v with
    | true => rfl
    | false =>
      unfold pairS at hp
      rw [if_neg (by rw [h]; decide)] at hp
      subst hp
      rw [none_nil, decide_eq_false_iff_not] at hz
      exact absurd rfl hz
  have hpr : pr = prOf v := by rw [hp]; unfold pairS; rw [if_pos hb]
  subst hpr
  have h1 := tw_at (p := bef v) hj (fun i h hi => hJ.1 i h hi) (fun h => hJ.2 h)
  have hins : rowsV (l.take (k + 1)) = if (out.drop j).head?.map keyOf = some (keyOf v) then out else out.take j ++ v :: out.drop j := by
    rw [rows_step hlt, ← ho, ← hv]
    unfold insV
    rw [if_pos hb, h1.1, h1.2]
  refine ⟨rfl, fun hne => ?_, fun h he => ?_⟩
  · rw [hins, if_neg]
    intro hh
    rcases Nat.lt_or_ge j out.length with h | h
    · rw [List.drop_eq_getElem_cons h] at hh
      exact hne h (Option.some.inj hh)
    · rw [List.drop_eq_nil_of_le h] at hh; cases hh
  · rw [hins, if_pos]
    rw [List.drop_eq_getElem_cons h]
    exact congrArg some he

/-- A version's cells, and what a call of pair asks. -/
structure VIn (w0 : World) (a : Addr) (v : Ver) (w' : World) : Prop where
  c0 : w'.cell? a = some (.string v.nm)
  c1 : w'.cell? ⟨a.block, a.off + 1, none⟩ = some (.int .u64 (v.n : Int))
  c2 : w'.cell? ⟨a.block, a.off + 2, none⟩ = some (.string v.tx)
  c3 : w'.cell? ⟨a.block, a.off + 3, none⟩ = some (.bool v.gone)
  lt : a.block < w0.heap.size
  z : Name.Var0 w0
  b : Below w0.heap.size w0 w'
theorem VIn.below {w0 w1 w2 : World} {a : Addr} {v : Ver} (h : VIn w0 a v w1) (hb : Below w1.heap.size w1 w2) : VIn w0 a v w2 :=
  have hl : a.block < w1.heap.size := Nat.lt_of_lt_of_le h.lt h.b.size
  ⟨(World.cell?_of_block (hb.block _ hl)).trans h.c0, (World.cell?_of_block (a := ⟨a.block, a.off + 1, none⟩) (hb.block _ hl)).trans h.c1, (World.cell?_of_block (a := ⟨a.block, a.off + 2, none⟩) (hb.block _ hl)).trans h.c2, (World.cell?_of_block (a := ⟨a.block, a.off + 3, none⟩) (hb.block _ hl)).trans h.c3, h.lt, h.z, below_of h.b hb⟩
theorem VIn.v0 {w0 w1 : World} {a : Addr} {v : Ver} (h : VIn w0 a v w1) : Name.Var0 w1 := h.z.below h.b
theorem VIn.drew {w0 w1 : World} {a : Addr} {v : Ver} (h : VIn w0 a v w1) : VIn w0 a v w1.drew := h.below (below_drew (Below.refl _ _))
theorem VIn.alloc {w0 w1 : World} {a : Addr} {v : Ver} (h : VIn w0 a v w1) (o : Obj) : VIn w0 a v (w1.alloc o) := h.below (below_one _ _)
theorem VIn.set2 {w0 w1 : World} {a : Addr} {v : Ver} (h : VIn w0 a v w1) {g : Nat} (hg : w0.heap.size ≤ g) (x y : Value) : VIn w0 a v ((w1.setCell ⟨g, 0, none⟩ x).setCell ⟨g, 1, none⟩ y) := by
  have hb : Below w0.heap.size w0 ((w1.setCell ⟨g, 0, none⟩ x).setCell ⟨g, 1, none⟩ y) := (h.b.setCell (p := ⟨g, 0, none⟩) hg x).setCell (p := ⟨g, 1, none⟩) hg y
  have hk : ∀ b : Addr, b.block < w0.heap.size → ((w1.setCell ⟨g, 0, none⟩ x).setCell ⟨g, 1, none⟩ y).cell? b = w1.cell? b := fun b hlt => (World.cell?_of_block (hb.block _ hlt)).trans (World.cell?_of_block (h.b.block _ hlt)).symm
  exact ⟨(hk _ h.lt).trans h.c0, (hk ⟨a.block, a.off + 1, none⟩ h.lt).trans h.c1, (hk ⟨a.block, a.off + 2, none⟩ h.lt).trans h.c2, (hk ⟨a.block, a.off + 3, none⟩ h.lt).trans h.c3, h.lt, h.z, hb⟩
theorem VIn.keep {w0 w1 : World} {a : Addr} {v : Ver} (h : VIn w0 a v w1) : w1.cell? a = some (.string v.nm) ∧ w1.cell? ⟨a.block, a.off + 1, none⟩ = some (.int .u64 (v.n : Int)) ∧ w1.cell? ⟨a.block, a.off + 2, none⟩ = some (.string v.tx) ∧ w1.cell? ⟨a.block, a.off + 3, none⟩ = some (.bool v.gone) ∧ VIn w0 a v w1 := ⟨h.c0, h.c1, h.c2, h.c3, h⟩

set_option maxHeartbeats 3200000 in
set_option maxRecDepth 100000 in
theorem rows_calls (A : Option Addr) (c : Nat) (l : List Ver) (w : World) (h : VsAt w A l) (hl : l.length ≤ 60) (hk : ∀ v ∈ l, v.bk = kB) (hv : Name.Var0 w) :
    Calls Tryd.prog 29 #[.slice A l.length c] w fun e w' => ∃ Ao cp, e = .returned (.slice Ao (rowsV l).length cp) ∧ OwnP w' w.heap.size Ao cp (rowsV l) ∧ Below w.heap.size w w' := by
  obtain ⟨i0, hi, hz0, hz1, hz2⟩ := info_parts infoPair
  go_enter Tryd.func29, Tryd.ntmps29
  go_wp2_with fail
  go_loopw [3, 4] (fun ov iv wr => ∃ (k : Nat) (out : List Ver) (Ao : Option Addr) (cp : Nat), k ≤ l.length ∧ ov = .slice Ao out.length cp ∧ iv = .int .i64 k ∧ Hid (out = rowsV (l.take k)) ∧ Hid (out = [] → Ao = none ∧ cp = 0) ∧ OwnP wr w.heap.size Ao cp out ∧ Below w.heap.size w wr) (fun _ iv _ => l.length - (intOf iv).toNat)
  case atStart => exact ⟨0, [], none, 0, by omega, rfl, rfl, Lib.hid rfl, Lib.hid (fun _ => ⟨rfl, rfl⟩), World.ownsRow_nil _ _ _ _, Below.refl _ _⟩
  case round =>
    obtain ⟨k, out, Ao, cp, hkl, rfl, rfl, HO, HN, hown, hB⟩ := hrel
    by_cases hlt : k < l.length
    · obtain ⟨ad, rfl, hbl, c0, c1, c2, c3, hfit⟩ := (h.below hB).at_ hlt
      have HH := Lib.hid h
      clear h
      obtain ⟨v, qv⟩ : ∃ v, v = l[k] := ⟨_, rfl⟩
      have hvk := hk _ (List.getElem_mem hlt)
      rw [← qv] at c0 c1 c2 c3 hfit hvk
      have HV := Lib.hid qv
      clear qv
      have hv1 := hv.below hB
      have HP := Lib.hid (fun W (h : Name.Var0 W) => pair_calls v W h hfit)
      rw [hvk] at HP
      have HK := Lib.hid hvk
      clear hvk
      obtain ⟨pr, qpr⟩ : ∃ p, p = pairS v := ⟨_, rfl⟩
      rw [← qpr] at HP
      have HPR := Lib.hid qpr
      clear qpr
      go_upto_region 5 with fail
      go_cut [5] from 8 to 83 (fun s5 wx => ∃ g, s5 = .pointer (some ⟨g, 0, none⟩) ∧ wr.heap.size ≤ g ∧ PrRow wx g pr ∧ Below wr.heap.size wr wx)
      case first =>
        have V0 : VIn wr (ad.add (k * 4)) v wr := ⟨c0, c1, c2, c3, by rw [block_of_add]; exact hbl, hv1, Below.refl _ _⟩
        have V1 := V0.drew
        clear c0 c1 c2 c3 V0
        go_region_held3 (fun w' => w'.cell? (ad.add (k * 4)) = some (.string v.nm) ∧ w'.cell? ⟨(ad.add (k * 4)).block, (ad.add (k * 4)).off + 1, none⟩ = some (.int .u64 (v.n : Int)) ∧ w'.cell? ⟨(ad.add (k * 4)).block, (ad.add (k * 4)).off + 2, none⟩ = some (.string v.tx) ∧ w'.cell? ⟨(ad.add (k * 4)).block, (ad.add (k * 4)).off + 3, none⟩ = some (.bool v.gone) ∧ VIn wr (ad.add (k * 4)) v w')
          (first | exact VIn.keep (by assumption) | exact VIn.keep (VIn.alloc (by assumption) _) | exact VIn.keep (VIn.set2 (by assumption) (Nat.le_refl _) _ _))
          (first
            | (go_at_call 34; refine (HP.out (wr.drew.alloc (.cells #[.string ⟨#[]⟩, .string ⟨#[]⟩] 64)) (VIn.v0 (w0 := wr) (a := ad.add (k * 4)) (v := v) (VIn.alloc V1 _))).mono ?_; rintro e wE ⟨rfl, hbE⟩; have HKE := VIn.below (w0 := wr) (a := ad.add (k * 4)) (v := v) (VIn.alloc V1 _) hbE; have PE : PrRow wE wr.heap.size (⟨#[]⟩, ⟨#[]⟩) := (prRow_new wr.drew (⟨#[]⟩, ⟨#[]⟩)).below hbE; obtain ⟨z0, z1⟩ := PE.c; have y0 := PE.f 0; have y1 := PE.f 1)
            | (go_at_call 34; refine (HP.out wr.drew (VIn.v0 (w0 := wr) (a := ad.add (k * 4)) (v := v) V1)).mono ?_; rintro e wE ⟨rfl, hbE⟩; have HKE := VIn.below (w0 := wr) (a := ad.add (k * 4)) (v := v) V1 hbE))
        · go_wp2_with fail
          go_meet
          case rel => exact ⟨_, rfl, HKE.b.size, prRow_new wE pr, HKE.b.alloc HKE.b.size _⟩
        · go_wp2_with fail
          go_meet
          case rel => exact ⟨_, rfl, Nat.le_refl _, PE.set pr, (HKE.b.setCell (p := ⟨wr.heap.size, 0, none⟩) (Nat.le_refl _) _).setCell (p := ⟨wr.heap.size, 1, none⟩) (Nat.le_refl _) _⟩
      case rest =>
        obtain ⟨g, rfl, hg, PR, hB5⟩ := hcut
        have hO5 := OwnP.below hown hB5
        have hBw := hB.trans (hB5.mono hB.size)
        clear c0 c1 c2 c3 hbl HP hfit hv1 hown hB
        have hlo : out.length ≤ 60 := by
          have := (rows_len (l.take k)); rw [← HO.out, List.length_take] at this; omega
        go_upto_block 2 with fail
        go_cut [6] from 35 to 83 (fun s6 wx => ∃ j : Nat, j ≤ out.length ∧ s6 = .int .i64 (j : Int) ∧ Hid ((∀ i (h : i < out.length), i < j → lt (keyOf out[i]) pr.1 = true) ∧ ∀ h : j < out.length, lt (keyOf out[j]) pr.1 = false) ∧ PrRow wx g pr ∧ OwnP wx w.heap.size Ao cp out ∧ Below w.heap.size w wx)
        case first =>
          obtain ⟨p0, p1⟩ := PR.c
          go_wp2_with fail
          go_loopw [6] (fun iv wq => ∃ j : Nat, j ≤ out.length ∧ iv = .int .i64 (j : Int) ∧ Hid (∀ i (h : i < out.length), i < j → lt (keyOf out[i]) pr.1 = true) ∧ PrRow wq g pr ∧ OwnP wq w.heap.size Ao cp out ∧ Below w.heap.size w wq) (fun iv _ => out.length - (intOf iv).toNat)
          case atStart => exact ⟨0, by omega, rfl, Lib.hid (fun i h hi => absurd hi (by omega)), PR, hO5, hBw⟩
          case round =>
            clear PR hO5 hBw p0 p1
            obtain ⟨j, hj, rfl, HB, PR, hO5, hBw⟩ := hrel
            obtain ⟨p0, p1⟩ := PR.c
            by_cases hjl : j < out.length
            · obtain ⟨ad', rfl, had', e0⟩ := OwnP.at_ hO5 hjl
              obtain ⟨kj, qk⟩ : ∃ x, x = keyOf out[j] := ⟨_, rfl⟩
              rw [← qk] at e0
              obtain ⟨b1, q1⟩ : ∃ x, Op.bytesLess kj.toList pr.1.toList = x := ⟨_, rfl⟩
              have HQ := Lib.hid qk
              have HQ1 := Lib.hid q1
              clear qk
              cases b1
              case true =>
                go_upto_region 7 with fail
                go_region
                go_wp2_with fail
                go_roundw
                case rel => exact ⟨j + 1, by omega, by go_num, Lib.hid (fun i h hi => by
                  rcases Nat.lt_or_ge i j with h1 | h1
                  · exact HB.out i h h1
                  · obtain rfl : i = j := by omega
                    rw [← HQ.out]; exact HQ1.out), PR, hO5, hBw.drew⟩
                case measure => simp [intOf]; omega
              case false =>
                go_upto_region 7 with fail
                go_region
                go_wp2_with fail
                go_meet
                case rel => exact ⟨j, hj, rfl, Lib.hid ⟨HB.out, fun h => by rw [← HQ.out]; exact HQ1.out⟩, PR, hO5, hBw.drew⟩
            · go_upto_region 7 with fail
              go_region
              go_wp2_with fail
              go_meet
              case rel => exact ⟨j, hj, rfl, Lib.hid ⟨HB.out, fun h => absurd h hjl⟩, PR, hO5, hBw.drew⟩
        case rest =>
          clear PR hO5 hBw
          obtain ⟨j, hj, rfl, HJ, PR, hO5, hBw⟩ := hcut
          clear hg
          obtain ⟨p0, p1⟩ := PR.c
          obtain ⟨z, qz⟩ : ∃ z, pr.1.toList.isEmpty = z := ⟨_, rfl⟩
          have HZ := Lib.hid qz
          cases z
          case true =>
            have HE : Hid (out = rowsV (l.take (k + 1))) := rows_bad (hlt := hlt) HO.out HV.out HPR.out HZ.out
            go_upto_region 9 with fail
            go_region
            go_wp2_with fail
            go_roundw
            case rel => exact ⟨k + 1, out, Ao, cp, by omega, rfl, by go_num, HE, HN, hO5, hBw.drew⟩
            case measure => simp [intOf]; omega
          case false =>
            have HG := Lib.hid (rows_good (hlt := hlt) HO.out HV.out HPR.out HZ.out hj HJ.out)
            by_cases hjl : j < out.length
            · obtain ⟨ad', rfl, had', hcp, hcm, HC⟩ := OwnP.form hO5 (by omega)
              have e0 := HC _ _ (prCells_get out j _ (List.getElem?_eq_getElem hjl)).1
              obtain ⟨kj, qk⟩ : ∃ x, x = keyOf out[j] := ⟨_, rfl⟩
              rw [show (prOf out[j]).1 = kj from qk.symm] at e0
              obtain ⟨b1, q1⟩ : ∃ x, (kj.toList == pr.1.toList) = x := ⟨_, rfl⟩
              have HQ := Lib.hid qk
              have HQ1 := Lib.hid q1
              have HC' := Lib.hid HC
              clear qk HC
              cases b1
              case true =>
                have HE : Hid (out = rowsV (l.take (k + 1))) := (HG.out.2.2 hjl (by rw [← HQ.out]; exact beq_toList HQ1.out)).symm
                go_upto_region 9 with fail
                go_region
                go_wp2_with fail
                go_roundw
                case rel => exact ⟨k + 1, out, some ad', cp, by omega, rfl, by go_num, HE, HN, hO5, hBw.drew⟩
                case measure => simp [intOf]; omega
              case false =>
                have HE : Hid (rowsV (l.take (k + 1)) = out.take j ++ v :: out.drop j) := HG.out.2.1 (fun h => by rw [← HQ.out]; exact fun e => by rw [e] at HQ1; have := HQ1.out; simp at this)
                go_upto_region 9 with fail
                go_region
                go_upto_region 11 with fail
                have j0 : (0 : Int) ≤ (j : Int) := by omega
                have j1 : (j : Int) ≤ (cp : Int) := by omega
                have O1 : wc.drew.ownsRow wc.heap.size 64 2 (.slice none 0 0) 0 [] := World.ownsRow_nil _ _ _ _
                have n1 : ∀ i u, (prCells (out.take j))[i]? = some u → wc.drew.cell? (ad'.add i) = some u := fun i u hu => HC'.out _ _ (prCells_take hu)
                have l1 : (prCells (out.take j)).length = j * 2 := by rw [prCells_len, List.length_take, Nat.min_eq_left hj]
                go_wp2_with (at_builtin; go_loud (refine wpList_append_own _ rfl _ _ 48 rfl wc.heap.size 64 i0 (.agg #[.string ⟨#[]⟩, .string ⟨#[]⟩]) 2 32 Tryd.underlying48 hi hz0 hz1 hz2 rfl (by decide) _ _ _ rfl O1 ad' j cp (prCells (out.take j)) rfl l1 n1 (prCells_one _) ?c3 ?c4 (Nat.le_refl _) ?_))
                case c3 => unfold maxLen; omega
                case c4 => omega
                intro v1 w1 hown1 hg1 _
                have O1' := hown1.alloc (.cells #[.string pr.1, .string pr.2] 64)
                have hs1 : wc.heap.size ≤ w1.heap.size := hg1.size
                have P1 : PrRow w1 g pr := (hg1.block _ PR.lt (by simp [Value.ownBlock])).trans PR
                have C1 : Hid (∀ i u, (prCells out)[i]? = some u → (w1.alloc (.cells #[.string pr.1, .string pr.2] 64)).cell? (ad'.add i) = some u) := fun i u hu => by
                  have e1 := World.grownBy.cell_far hg1 (ad'.add i) (by rw [block_of_add]; exact had') (by simp [Value.ownBlock])
                  have e2 := (below_one w1 (.cells #[.string pr.1, .string pr.2] 64)).cell (p := ad'.add i) (by rw [block_of_add]; omega)
                  exact e2.trans (e1.trans (HC'.out i u hu))
                have G1 := Lib.hid (below_own hBw.drew hg1 (by exact hBw.size) (by simp [Value.ownBlock]))
                clear p0 p1 O1 n1 l1 hO5 PR
                obtain ⟨p0, p1⟩ := P1.c
                have N1 := World.news_of_block (MapKept.heap_alloc w1 (.cells #[.string pr.1, .string pr.2] 64)).1
                go_wp2_with (at_builtin; go_loud (refine wpList_append_own _ rfl _ _ 48 rfl wc.heap.size 64 i0 (.agg #[.string ⟨#[]⟩, .string ⟨#[]⟩]) 2 32 Tryd.underlying48 hi hz0 hz1 hz2 rfl (by decide) _ _ _ rfl O1' ⟨w1.heap.size, 0, none⟩ 1 1 [.string pr.1, .string pr.2] rfl rfl N1 ?c2 ?c3 ?c4 ?c5 ?_))
                case c2 => exact ⟨rfl, rfl⟩
                case c3 => unfold maxLen; omega
                case c4 => omega
                case c5 => omega
                intro v2 w2 hown2 hg2 _
                go_upto_region 13 with fail
                have j2 : (j : Int) ≤ (out.length : Int) := by omega
                have j3 : (out.length : Int) ≤ (cp : Int) := by omega
                have C2 : ∀ i u, (prCells (out.drop j))[i]? = some u → w2.cell? ((ad'.add (j * 2)).add i) = some u := fun i u hu => by
                  have hne : v1.ownBlock ≠ some ad'.block := fun e => by have := (O1'.lt _ e).1; omega
                  rw [Deep.add_add]
                  have e1 := World.grownBy.cell_far hg2 (ad'.add (j * 2 + i)) (by rw [block_of_add]; simp; omega) (by rw [block_of_add]; exact fun e => hne e.symm)
                  exact e1.trans (C1.out _ u (prCells_drop hj hu))
                have l2 : (prCells (out.drop j)).length = (out.length - j) * 2 := by rw [prCells_len, List.length_drop]
                have hs2 : w1.heap.size + 1 ≤ w2.heap.size := by have := hg2.size; simpa using this
                have B2 : Below w.heap.size w w2 := below_own (G1.out.alloc (by have := hBw.size; omega) _) hg2 (by have := hBw.size; simp; omega) (fun r e => by have := (O1'.lt _ e).1; have := hBw.size; omega)
                obtain ⟨g2, cp2, rfl, _, _⟩ := hown2.form (by omega)
                have lcp : (0 : Int) ≤ (j : Int) := by omega
                clear C1 N1 O1' hg2 p0 p1
                go_wp2_with (at_builtin; go_loud (refine wpList_append_own _ rfl _ _ 48 rfl wc.heap.size 64 i0 (.agg #[.string ⟨#[]⟩, .string ⟨#[]⟩]) 2 32 Tryd.underlying48 hi hz0 hz1 hz2 rfl (by decide) _ _ _ rfl hown2 (ad'.add (j * 2)) (out.length - j) _ (prCells (out.drop j)) rfl l2 C2 (prCells_one _) ?c3 ?c4 ?c5 ?_))
                case c3 => unfold maxLen; omega
                case c4 => omega
                case c5 => omega
                intro v3 w3 hown3 hg3 _
                obtain ⟨A3, cp3, rfl, O3⟩ := own_new (v := v) (HG.out.1) hj hown3 hBw.size
                have B3 := below_own B2 hg3 B2.size (fun r e => by have : g2 = r := Option.some.inj e; have := (hown2.lt _ rfl).1; have := hBw.size; omega)
                obtain ⟨o3, q3⟩ : ∃ o, o = out.take j ++ v :: out.drop j := ⟨_, rfl⟩
                have HE3 : Hid (o3 = rowsV (l.take (k + 1))) := q3.trans HE.out.symm
                have HN3 : Hid (o3 = [] → some A3 = none ∧ cp3 = 0) := fun h => by rw [q3] at h; simp at h
                rw [← q3] at O3 ⊢
                clear q3 hown3 hg3 hown2 B2 C2 HE HG
                go_wp2_with fail
                go_roundw
                case rel => exact ⟨k + 1, o3, some A3, cp3, by omega, rfl, by go_num, HE3, HN3, O3, B3⟩
                case measure => simp [intOf]; omega
            · by_cases h0 : 0 < out.length
              · obtain ⟨ad', rfl, had', hcp, hcm, HC⟩ := OwnP.form hO5 h0
                have HC' := Lib.hid HC
                clear HC
                by_cases hcc : j = cp
                · subst hcc
                  have HE : Hid (rowsV (l.take (k + 1)) = out.take j ++ v :: out.drop j) := HG.out.2.1 (fun h => absurd h hjl)
                  go_upto_region 9 with fail
                  go_region
                  go_upto_region 11 with fail
                  have j0 : (0 : Int) ≤ (j : Int) := by omega
                  have j1 : (j : Int) ≤ (j : Int) := by omega
                  have O1 : wc.drew.ownsRow wc.heap.size 64 2 (.slice none 0 0) 0 [] := World.ownsRow_nil _ _ _ _
                  have n1 : ∀ i u, (prCells (out.take j))[i]? = some u → wc.drew.cell? (ad'.add i) = some u := fun i u hu => HC'.out _ _ (prCells_take hu)
                  have l1 : (prCells (out.take j)).length = j * 2 := by rw [prCells_len, List.length_take, Nat.min_eq_left hj]
                  go_wp2_with (at_builtin; go_loud (refine wpList_append_own _ rfl _ _ 48 rfl wc.heap.size 64 i0 (.agg #[.string ⟨#[]⟩, .string ⟨#[]⟩]) 2 32 Tryd.underlying48 hi hz0 hz1 hz2 rfl (by decide) _ _ _ rfl O1 ad' j j (prCells (out.take j)) rfl l1 n1 (prCells_one _) ?c3 ?c4 (Nat.le_refl _) ?_))
                  case c3 => unfold maxLen; omega
                  case c4 => omega
                  intro v1 w1 hown1 hg1 _
                  have O1' := hown1.alloc (.cells #[.string pr.1, .string pr.2] 64)
                  have hs1 : wc.heap.size ≤ w1.heap.size := hg1.size
                  have P1 : PrRow w1 g pr := (hg1.block _ PR.lt (by simp [Value.ownBlock])).trans PR
                  have C1 : Hid (∀ i u, (prCells out)[i]? = some u → (w1.alloc (.cells #[.string pr.1, .string pr.2] 64)).cell? (ad'.add i) = some u) := fun i u hu => by
                    have e1 := World.grownBy.cell_far hg1 (ad'.add i) (by rw [block_of_add]; exact had') (by simp [Value.ownBlock])
                    have e2 := (below_one w1 (.cells #[.string pr.1, .string pr.2] 64)).cell (p := ad'.add i) (by rw [block_of_add]; omega)
                    exact e2.trans (e1.trans (HC'.out i u hu))
                  have G1 := Lib.hid (below_own hBw.drew hg1 (by exact hBw.size) (by simp [Value.ownBlock]))
                  clear p0 p1 O1 n1 l1 hO5 PR
                  obtain ⟨p0, p1⟩ := P1.c
                  have N1 := World.news_of_block (MapKept.heap_alloc w1 (.cells #[.string pr.1, .string pr.2] 64)).1
                  go_wp2_with (at_builtin; go_loud (refine wpList_append_own _ rfl _ _ 48 rfl wc.heap.size 64 i0 (.agg #[.string ⟨#[]⟩, .string ⟨#[]⟩]) 2 32 Tryd.underlying48 hi hz0 hz1 hz2 rfl (by decide) _ _ _ rfl O1' ⟨w1.heap.size, 0, none⟩ 1 1 [.string pr.1, .string pr.2] rfl rfl N1 ?c2 ?c3 ?c4 ?c5 ?_))
                  case c2 => exact ⟨rfl, rfl⟩
                  case c3 => unfold maxLen; omega
                  case c4 => omega
                  case c5 => omega
                  intro v2 w2 hown2 hg2 _
                  go_upto_region 13 with fail
                  have j2 : (j : Int) ≤ (out.length : Int) := by omega
                  have j3 : (out.length : Int) ≤ (j : Int) := by omega
                  have C2 : ∀ (b : Addr) i u, (prCells (out.drop j))[i]? = some u → w2.cell? (b.add i) = some u := fun b i u hu => by
                    rw [List.drop_eq_nil_of_le (by omega)] at hu; simp [prCells] at hu
                  have l2 : (prCells (out.drop j)).length = 0 * 2 := by rw [prCells_len, List.length_drop]; omega
                  have hs2 : w1.heap.size + 1 ≤ w2.heap.size := by have := hg2.size; simpa using this
                  have B2 : Below w.heap.size w w2 := below_own (G1.out.alloc (by have := hBw.size; omega) _) hg2 (by have := hBw.size; simp; omega) (fun r e => by have := (O1'.lt _ e).1; have := hBw.size; omega)
                  obtain ⟨g2, cp2, rfl, _, _⟩ := hown2.form (by omega)
                  have lcp : (0 : Int) ≤ (j : Int) := by omega
                  clear C1 N1 O1' hg2 p0 p1
                  go_wp2_with (at_builtin; go_loud (refine wpList_append_own _ rfl _ _ 48 rfl wc.heap.size 64 i0 (.agg #[.string ⟨#[]⟩, .string ⟨#[]⟩]) 2 32 Tryd.underlying48 hi hz0 hz1 hz2 rfl (by decide) _ _ _ rfl hown2 ad' 0 0 (prCells (out.drop j)) rfl l2 (C2 _) (prCells_one _) ?c3 ?c4 ?c5 ?_))
                  case c3 => unfold maxLen; omega
                  case c4 => omega
                  case c5 => omega
                  intro v3 w3 hown3 hg3 _
                  obtain ⟨A3, cp3, rfl, O3⟩ := own_new (v := v) (HG.out.1) hj (by rw [show out.length - j = 0 by omega]; exact hown3) hBw.size
                  have B3 := below_own B2 hg3 B2.size (fun r e => by have : g2 = r := Option.some.inj e; have := (hown2.lt _ rfl).1; have := hBw.size; omega)
                  obtain ⟨o3, q3⟩ : ∃ o, o = out.take j ++ v :: out.drop j := ⟨_, rfl⟩
                  have HE3 : Hid (o3 = rowsV (l.take (k + 1))) := q3.trans HE.out.symm
                  have HN3 : Hid (o3 = [] → some A3 = none ∧ cp3 = 0) := fun h => by rw [q3] at h; simp at h
                  rw [← q3] at O3 ⊢
                  clear q3 hown3 hg3 hown2 B2 C2 HE HG
                  go_wp2_with fail
                  go_roundw
                  case rel => exact ⟨k + 1, o3, some A3, cp3, by omega, rfl, by go_num, HE3, HN3, O3, B3⟩
                  case measure => simp [intOf]; omega
                · have hcc1 : ¬ (j : Int) = (cp : Int) := by omega
                  have hcc2 : (j : Int) < (cp : Int) := by omega
                  have HE : Hid (rowsV (l.take (k + 1)) = out.take j ++ v :: out.drop j) := HG.out.2.1 (fun h => absurd h hjl)
                  go_upto_region 9 with fail
                  go_region
                  go_upto_region 11 with fail
                  have j0 : (0 : Int) ≤ (j : Int) := by omega
                  have j1 : (j : Int) ≤ (cp : Int) := by omega
                  have O1 : wc.drew.ownsRow wc.heap.size 64 2 (.slice none 0 0) 0 [] := World.ownsRow_nil _ _ _ _
                  have n1 : ∀ i u, (prCells (out.take j))[i]? = some u → wc.drew.cell? (ad'.add i) = some u := fun i u hu => HC'.out _ _ (prCells_take hu)
                  have l1 : (prCells (out.take j)).length = j * 2 := by rw [prCells_len, List.length_take, Nat.min_eq_left hj]
                  go_wp2_with (at_builtin; go_loud (refine wpList_append_own _ rfl _ _ 48 rfl wc.heap.size 64 i0 (.agg #[.string ⟨#[]⟩, .string ⟨#[]⟩]) 2 32 Tryd.underlying48 hi hz0 hz1 hz2 rfl (by decide) _ _ _ rfl O1 ad' j cp (prCells (out.take j)) rfl l1 n1 (prCells_one _) ?c3 ?c4 (Nat.le_refl _) ?_))
                  case c3 => unfold maxLen; omega
                  case c4 => omega
                  intro v1 w1 hown1 hg1 _
                  have O1' := hown1.alloc (.cells #[.string pr.1, .string pr.2] 64)
                  have hs1 : wc.heap.size ≤ w1.heap.size := hg1.size
                  have P1 : PrRow w1 g pr := (hg1.block _ PR.lt (by simp [Value.ownBlock])).trans PR
                  have C1 : Hid (∀ i u, (prCells out)[i]? = some u → (w1.alloc (.cells #[.string pr.1, .string pr.2] 64)).cell? (ad'.add i) = some u) := fun i u hu => by
                    have e1 := World.grownBy.cell_far hg1 (ad'.add i) (by rw [block_of_add]; exact had') (by simp [Value.ownBlock])
                    have e2 := (below_one w1 (.cells #[.string pr.1, .string pr.2] 64)).cell (p := ad'.add i) (by rw [block_of_add]; omega)
                    exact e2.trans (e1.trans (HC'.out i u hu))
                  have G1 := Lib.hid (below_own hBw.drew hg1 (by exact hBw.size) (by simp [Value.ownBlock]))
                  clear p0 p1 O1 n1 l1 hO5 PR
                  obtain ⟨p0, p1⟩ := P1.c
                  have N1 := World.news_of_block (MapKept.heap_alloc w1 (.cells #[.string pr.1, .string pr.2] 64)).1
                  go_wp2_with (at_builtin; go_loud (refine wpList_append_own _ rfl _ _ 48 rfl wc.heap.size 64 i0 (.agg #[.string ⟨#[]⟩, .string ⟨#[]⟩]) 2 32 Tryd.underlying48 hi hz0 hz1 hz2 rfl (by decide) _ _ _ rfl O1' ⟨w1.heap.size, 0, none⟩ 1 1 [.string pr.1, .string pr.2] rfl rfl N1 ?c2 ?c3 ?c4 ?c5 ?_))
                  case c2 => exact ⟨rfl, rfl⟩
                  case c3 => unfold maxLen; omega
                  case c4 => omega
                  case c5 => omega
                  intro v2 w2 hown2 hg2 _
                  go_upto_region 13 with fail
                  have j2 : (j : Int) ≤ (out.length : Int) := by omega
                  have j3 : (out.length : Int) ≤ (cp : Int) := by omega
                  have C2 : ∀ (b : Addr) i u, (prCells (out.drop j))[i]? = some u → w2.cell? (b.add i) = some u := fun b i u hu => by
                    rw [List.drop_eq_nil_of_le (by omega)] at hu; simp [prCells] at hu
                  have l2 : (prCells (out.drop j)).length = (out.length - j) * 2 := by rw [prCells_len, List.length_drop]
                  have hs2 : w1.heap.size + 1 ≤ w2.heap.size := by have := hg2.size; simpa using this
                  have B2 : Below w.heap.size w w2 := below_own (G1.out.alloc (by have := hBw.size; omega) _) hg2 (by have := hBw.size; simp; omega) (fun r e => by have := (O1'.lt _ e).1; have := hBw.size; omega)
                  obtain ⟨g2, cp2, rfl, _, _⟩ := hown2.form (by omega)
                  have lcp : (0 : Int) ≤ (j : Int) := by omega
                  clear C1 N1 O1' hg2 p0 p1
                  go_wp2_with (at_builtin; go_loud (refine wpList_append_own _ rfl _ _ 48 rfl wc.heap.size 64 i0 (.agg #[.string ⟨#[]⟩, .string ⟨#[]⟩]) 2 32 Tryd.underlying48 hi hz0 hz1 hz2 rfl (by decide) _ _ _ rfl hown2 _ (out.length - j) _ (prCells (out.drop j)) rfl l2 (C2 _) (prCells_one _) ?c3 ?c4 ?c5 ?_))
                  case c3 => unfold maxLen; omega
                  case c4 => omega
                  case c5 => omega
                  intro v3 w3 hown3 hg3 _
                  obtain ⟨A3, cp3, rfl, O3⟩ := own_new (v := v) (HG.out.1) hj hown3 hBw.size
                  have B3 := below_own B2 hg3 B2.size (fun r e => by have : g2 = r := Option.some.inj e; have := (hown2.lt _ rfl).1; have := hBw.size; omega)
                  obtain ⟨o3, q3⟩ : ∃ o, o = out.take j ++ v :: out.drop j := ⟨_, rfl⟩
                  have HE3 : Hid (o3 = rowsV (l.take (k + 1))) := q3.trans HE.out.symm
                  have HN3 : Hid (o3 = [] → some A3 = none ∧ cp3 = 0) := fun h => by rw [q3] at h; simp at h
                  rw [← q3] at O3 ⊢
                  clear q3 hown3 hg3 hown2 B2 C2 HE HG
                  go_wp2_with fail
                  go_roundw
                  case rel => exact ⟨k + 1, o3, some A3, cp3, by omega, rfl, by go_num, HE3, HN3, O3, B3⟩
                  case measure => simp [intOf]; omega
              · have h1 : out = [] := List.eq_nil_of_length_eq_zero (by omega)
                subst h1
                obtain ⟨rfl, rfl⟩ := HN.out rfl
                obtain rfl : j = 0 := by simpa using hj
                have HE : Hid (rowsV (l.take (k + 1)) = [v]) := HG.out.2.1 (fun h => absurd h hjl)
                have HP : Hid (pr = prOf v) := HG.out.1
                simp only [List.length_nil] at *
                clear hO5 HG HJ hj
                go_upto_region 9 with fail
                go_region
                go_upto_region 12 with (at_builtin; go_loud (refine wpList_append_empty rfl _ _ 48 rfl 64 i0 Tryd.underlying48 hi wc.heap.size 2 (.slice none 0 0) 0 [] rfl (World.ownsRow_nil _ _ _ _) 0 rfl ?_))
                have P1 : PrRow wc.drew g pr := PR
                have G1 := Lib.hid (hBw.alloc hBw.size (.cells #[.string pr.1, .string pr.2] 64)).drew
                have hsw := hBw.size
                have O1' : (wc.drew.alloc (.cells #[.string pr.1, .string pr.2] 64)).ownsRow wc.heap.size 64 2 (.slice none 0 0) 0 [] := World.ownsRow_nil _ _ _ _
                have N1 := World.news_of_block (MapKept.heap_alloc wc.drew (.cells #[.string pr.1, .string pr.2] 64)).1
                go_wp2_with (at_builtin; go_loud (refine wpList_append_own _ rfl _ _ 48 rfl wc.heap.size 64 i0 (.agg #[.string ⟨#[]⟩, .string ⟨#[]⟩]) 2 32 Tryd.underlying48 hi hz0 hz1 hz2 rfl (by decide) _ _ _ rfl O1' ⟨wc.heap.size, 0, none⟩ 1 1 [.string pr.1, .string pr.2] rfl rfl N1 ?c2 ?c3 ?c4 ?c5 ?_))
                case c2 => exact ⟨rfl, rfl⟩
                case c3 => unfold maxLen; omega
                intro v2 w2 hown2 hg2 _
                obtain ⟨g2, cp2, rfl, _, _⟩ := hown2.form (by omega)
                have B2 : Below w.heap.size w w2 := below_own G1.out hg2 (by simp; omega) (fun r e => by simp [Value.ownBlock] at e)
                have O3 : OwnP w2 w.heap.size (some ⟨g2, 0, none⟩) cp2 [v] := by
                  have := World.ownsRow.mono hown2 hsw
                  rw [HP.out] at this
                  exact this
                obtain ⟨o3, q3⟩ : ∃ o, o = [v] := ⟨_, rfl⟩
                have HE3 : Hid (o3 = rowsV (l.take (k + 1))) := q3.trans HE.out.symm
                have HN3 : Hid (o3 = [] → some (⟨g2, 0, none⟩ : Addr) = none ∧ cp2 = 0) := fun h => by rw [q3] at h; simp at h
                have hl3 : o3.length = 1 := by rw [q3]; rfl
                rw [← q3] at O3
                clear q3 HE HP hg2 P1 G1 O1' N1
                go_upto_region 4 with (at_builtin; go_loud (refine wpList_append_empty rfl _ _ 48 rfl 64 i0 Tryd.underlying48 hi wc.heap.size 2 _ _ _ rfl hown2 0 rfl ?_))
                go_wp2_with fail
                go_roundw
                case rel => exact ⟨k + 1, o3, some ⟨g2, 0, none⟩, cp2, by omega, by rw [hl3], by go_num, HE3, HN3, O3, B2⟩
                case measure => simp [intOf]; omega
    · have hk2 : k = l.length := by omega
      subst hk2
      go_wp2_with fail
      go_ret
      have HO' : out = rowsV l := HO.out.trans (by rw [List.take_length])
      exact ⟨Ao, cp, by rw [HO']; rfl, by rw [← HO']; exact hown, hB⟩

end Go.Proofs.YtaeiahkomdpcoaaDoor.Page
end

section
/- The document's example, in plain Lean: what pages its four pairs have. -/
namespace Go.Proofs.YtaeiahkomdpcoaaDoor.Page
open Go Go.Proofs.YtaeiahkomdpcoaaDoor.Seq

def aN : ByteArray := ⟨#[97]⟩
def wv0 : Ver := ⟨kB, aN, 3, ⟨#[120, 121, 122]⟩, false⟩
def wv1 : Ver := ⟨kB, aN, 1, ⟨#[]⟩, true⟩
def wv2 : Ver := ⟨kB, ⟨#[98]⟩, 2, ⟨#[]⟩, true⟩
def wv3 : Ver := ⟨kB, ⟨#[99]⟩, 4, ⟨#[]⟩, false⟩
def wvs : List Ver := [wv0, wv1, wv2, wv3]
theorem ok0 : okB wv0 = true := by kernel_rfl
theorem ok1 : okB wv1 = true := by kernel_rfl
theorem ok2 : okB wv2 = true := by kernel_rfl
theorem ok3 : okB wv3 = true := by kernel_rfl
theorem wvs_ok : ∀ v ∈ wvs, v.Ok := fun v hv => by
  unfold wvs at hv
  simp only [List.mem_cons, List.not_mem_nil, or_false] at hv
  rcases hv with rfl | rfl | rfl | rfl
  · exact okB_ok ok0 (by decide)
  · exact okB_ok ok1 (by decide)
  · exact okB_ok ok2 (by decide)
  · exact okB_ok ok3 (by decide)
theorem pair0 : pairS wv0 = prOf wv0 := by unfold pairS; rw [if_pos ok0]
theorem pair1 : pairS wv1 = prOf wv1 := by unfold pairS; rw [if_pos ok1]
theorem pair2 : pairS wv2 = prOf wv2 := by unfold pairS; rw [if_pos ok2]
theorem pair3 : pairS wv3 = prOf wv3 := by unfold pairS; rw [if_pos ok3]
theorem w_items : itemsOf kB wvs = wvs := List.filter_eq_self.2 fun v hv => by
  unfold wvs at hv
  simp only [List.mem_cons, List.not_mem_nil, or_false] at hv
  rcases hv with rfl | rfl | rfl | rfl <;> rfl
theorem w_sel1 : cutP 1 (sel none' none' none' (itemsOf kB wvs)) = ([wv0], true) := by
  rw [w_items]
  unfold cutP wvs sel sel sel sel sel okV
  simp only [lt_cmp]
  rfl
theorem w_sel2 : cutP 5 (sel none' aN none' (itemsOf kB wvs)) = ([wv3], false) := by
  rw [w_items]
  unfold cutP wvs sel sel sel sel sel okV
  simp only [lt_cmp]
  rfl
theorem w_selV : cutP 5 (selV aN 0 (itemsOf kB wvs)) = ([wv0, wv1], false) := by
  rw [w_items]
  rfl
theorem w_any3 : ((wvs.map prOf).any fun p => pfx ⟨#[3, 107]⟩ p.1) = true := by kernel_rfl
theorem w_any2 : ((wvs.map prOf).any fun p => pfx ⟨#[2]⟩ p.1) = false := by kernel_rfl
theorem w_len0 : wv0.len = 3 := rfl

end Go.Proofs.YtaeiahkomdpcoaaDoor.Page
end

section
/- page.Names over merge.Of's iterator. -/
namespace Go.Proofs.YtaeiahkomdpcoaaDoor.Page
open Go Go.RowKit Go.Conc Go.Proofs.YtaeiahkomdpcoaaDoor.Seq Go.Proofs.YtaeiahkomdpcoaaDoor.Chan

attribute [local go_sem] Oper.semAt_some

set_option maxHeartbeats 4000000 in
set_option maxRecDepth 100000 in
theorem names_gen (sv : Value) (hsv : sv = .nilFunc ∨ ∃ f x y, sv = .func f x y) (xs : List Ver) (b pre aft : ByteArray) (most : Nat) (w : World)
    (hseq : ∀ Bs Bb, SeqO Fence.wide 19 Tryd.prog 75 #[.pointer (some ⟨Bs, 0, none⟩), .pointer (some ⟨Bb, 0, none⟩)] (fun v : Ver => #[v.item]) w.heap.size (fun i => i = Bs ∨ i = Bb) xs (fun W => W.cell? ⟨Bs, 0, none⟩ = some sv ∧ W.cell? ⟨Bb, 0, none⟩ = some (.string b) ∧ Below w.heap.size w W))
    (hb : Name.bucketL b.data.toList = true) (hbs : b.size ≤ 1000) (h1 : pre.size ≤ 200) (h2 : aft.size ≤ 200) (hm1 : 1 ≤ most) (hm2 : most ≤ 256) :
    Calls Tryd.prog 30 #[sv, .string b, .string pre, .string aft, .int .i64 (most : Int)] w fun e w' => PageR w (cutP most (sel pre aft none' (xs))) e w' := by
  have HB := Lib.hid (fun W => callsIn_wide (n := 19).2 (Name.bucket_calls b W (by omega)))
  have HI := Lib.hid (fun W => callsIn_wide (n := 19).2 (items_calls sv b W hsv))
  rw [hb] at HB
  have hmc := make_chan most hm2
  have e1 : decide (200 < (pre.size : Int)) = false := decide_eq_false (by omega)
  have e2 : decide (200 < (aft.size : Int)) = false := decide_eq_false (by omega)
  have e3 : decide ((most : Int) < 1) = false := decide_eq_false (by omega)
  have e4 : decide (256 < (most : Int)) = false := decide_eq_false (by omega)
  refine callsIn_wide (n := 20).1 (callsIn_of_wp_marks Tryd.func30 rfl trivial ?_ rfl)
  simp only [Tryd.ntmps30, List.size_toArray, List.length_cons, List.length_nil, Nat.reduceAdd, Nat.reduceSub, Array.replicate_succ, Array.replicate_zero, List.push_toArray, List.append_toArray, List.nil_append, List.cons_append]
  gi_wp2
  refine wpIn_scope_straight ?_
  gi_wp2
  obtain ⟨W4, hW4⟩ : ∃ W4, W4 = (((w.alloc (.cells #[.string pre] 9)).alloc (.cells #[.string aft] 9)).alloc (.cells #[.slice none 0 0, .bool false] 52)).alloc (.cells #[.bool false] 4) := ⟨_, rfl⟩
  have hs4 : W4.heap.size = w.heap.size + 4 := by rw [hW4]; simp
  have B4 : Below w.heap.size w W4 := by rw [hW4]; exact below_alloc (below_alloc (below_alloc (below_one w _) _) _) _
  have x0 : Boxed W4 w.heap.size 9 (.string pre) := by
    rw [hW4]; exact (((Boxed.new w _ _).kept (below_grown0 (below_one _ _)) (by simp)).kept (below_grown0 (below_one _ _)) (by simp)).kept (below_grown0 (below_one _ _)) (by simp)
  have x1 : Boxed W4 (w.heap.size + 1) 9 (.string aft) := by
    have := ((Boxed.new (w.alloc (.cells #[.string pre] 9)) 9 (.string aft)).kept (below_grown0 (below_one _ (.cells #[.slice none 0 0, .bool false] 52))) (by simp)).kept (below_grown0 (below_one _ (.cells #[.bool false] 4))) (by simp)
    rw [World.size_alloc, ← hW4] at this; exact this
  have x2 : PgRow W4 (w.heap.size + 1 + 1) none 0 0 false := by
    have := (pgRow_new ((w.alloc (.cells #[.string pre] 9)).alloc (.cells #[.string aft] 9)) none 0 0 false).below (below_one _ (.cells #[.bool false] 4))
    rw [World.size_alloc, World.size_alloc, ← hW4] at this; exact this
  have x3 : Boxed W4 (w.heap.size + 1 + 1 + 1) 4 (.bool false) := by
    have := Boxed.new (((w.alloc (.cells #[.string pre] 9)).alloc (.cells #[.string aft] 9)).alloc (.cells #[.slice none 0 0, .bool false] 52)) 4 (.bool false)
    rw [World.size_alloc, World.size_alloc, World.size_alloc, ← hW4] at this; exact this
  rw [← hW4]
  clear hW4
  refine ⟨trivial, (HB.out W4).mono ?_⟩
  rintro e W5 ⟨rfl, hb5⟩
  have g5 := below_grown0 hb5
  have y0 := x0.kept g5 (by simp)
  have y1 := x1.kept g5 (by simp)
  have y2 := x2.grown g5 (by simp)
  have y3 := x3.kept g5 (by simp)
  have B5 := B4.trans (hb5.mono (by omega))
  have hs5 : w.heap.size + 4 ≤ W5.heap.size := by have := hb5.size; omega
  have c0 := y0.cell
  have c1 := y1.cell
  clear x0 x1 x2 x3 B4 hb5 hs4 g5
  gi_wp2
  refine wpIn_label ?_
  gi_wp2
  obtain ⟨m, hm⟩ : ∃ m, m = W5.heap.size := ⟨_, rfl⟩
  rw [← hm]
  obtain ⟨W6, hW6⟩ : ∃ W6, W6 = ((W5.alloc (.chan most #[] false 0 0 false)).alloc (.cells #[.chan (some m)] 88)).alloc (.cells #[.string ⟨#[]⟩] 9) := ⟨_, rfl⟩
  have hs6 : W6.heap.size = m + 3 := by rw [hW6, hm]; simp
  have bd : Below W5.heap.size W5 W6 := by rw [hW6]; exact below_alloc (below_alloc (below_one _ _) _) _
  have z4 : ChRow W6 m most [] false := ⟨0, 0, by
    rw [hW6, hm, Below.heap_alloc _ _ _ (by simp; omega), Below.heap_alloc _ _ _ (by simp)]
    exact (World.alloc_heap_new W5 _)⟩
  have z5 : Boxed W6 (m + 1) 88 (.chan (some m)) := by
    have := (Boxed.new (W5.alloc (.chan most #[] false 0 0 false)) 88 (.chan (some m))).kept (below_grown0 (below_one _ (.cells #[.string ⟨#[]⟩] 9))) (by simp)
    rw [World.size_alloc, ← hm, ← hW6] at this; exact this
  have z6 : Boxed W6 (m + 1 + 1) 9 (.string none') := by
    have := Boxed.new ((W5.alloc (.chan most #[] false 0 0 false)).alloc (.cells #[.chan (some m)] 88)) 9 (.string none')
    rw [World.size_alloc, World.size_alloc, ← hm] at this; rw [hW6]; exact this
  have g6 := below_grown0 bd
  have S6 : St w.heap.size m most 9 (.string aft) w pre [] false W6 :=
    ⟨B5.trans (bd.mono (by omega)), y0.kept g6 (by simp), y1.kept g6 (by simp), y2.grown g6 (by simp), y3.kept g6 (by simp), z4, z5⟩
  rw [← hW6]
  have hm4 : w.heap.size + 4 ≤ m := by omega
  clear hW6 z4 z5 y0 y1 y2 y3 B5 hs5 c0 c1 bd g6 hm hmc e1 e2 e3 e4
  refine ⟨trivial, (HI.out W6).mono ?_⟩
  rintro e W7 ⟨rfl, hW7⟩
  have b7 : Below W6.heap.size W6 W7 := by rw [hW7]; exact below_alloc (below_one _ _) _
  have hs7 : W7.heap.size = m + 5 := by rw [hW7]; simp; omega
  have k1 : W7.cell? ⟨W6.heap.size, 0, none⟩ = some sv := by
    rw [hW7, World.cell?_of_block (Below.heap_alloc _ _ _ (by simp)), Joins.cell_of_block (MapKept.heap_alloc W6 _).1]; rfl
  have k2 : W7.cell? ⟨W6.heap.size + 1, 0, none⟩ = some (.string b) := by
    have := (Boxed.new (W6.alloc (.cells #[sv] 56)) 9 (.string b)).cell
    rw [World.size_alloc] at this
    rw [hW7]; exact this
  have S7 := S6.grown (below_grown0 b7) hm4 (fun _ e => by cases e)
  have z7 := z6.kept (below_grown0 b7) (by simp)
  have r7 := And.intro k1 (And.intro k2 S7.below)
  clear hW7 S6 z6 b7 k1 k2
  rw [hs6] at r7
  rw [hs6]
  clear hs6 HB HI
  gi_wp2
  refine wpIn_act (fun a0 ha0 => ?_)
  have q7 : St w.heap.size m most 9 (.string aft) w pre (sel pre aft none' []) false W7 := S7
  clear S7
  refine wpIn_rangeFunc_O rfl (by omega) (gf := 75) (lb := #[.pointer (some ⟨m + 3, 0, none⟩), .pointer (some ⟨m + 3 + 1, 0, none⟩)]) (by rw [ha0]; rfl) trivial (enters_of Tryd.func75 (by kernel_rfl) rfl)
    (hseq (m + 3) (m + 3 + 1)) (by omega)
    (fun W' hb => ⟨(hb.cell (p := ⟨m + 3, 0, none⟩) (by show m + 3 < _; omega)).trans r7.1, (hb.cell (p := ⟨m + 3 + 1, 0, none⟩) (by show m + 3 + 1 < _; omega)).trans r7.2.1, r7.2.2.trans (hb.mono (by omega))⟩) (fun _ => rfl)
    (fun O (ps : List Ver) W' => (∀ i, O i → m + 3 ≤ i ∧ i < W'.heap.size) ∧ m + 5 ≤ W'.heap.size ∧ (sel pre aft none' ps).length ≤ most ∧ St w.heap.size m most 9 (.string aft) w pre (sel pre aft none' ps) false W' ∧ Boxed W' (m + 1 + 1) 9 (.string (lastN none' ps)))
    (fun cd O (_ : List Ver) W' => cd = .exit 0 ∧ (∀ i, O i → m + 3 ≤ i ∧ i < W'.heap.size) ∧ m + 5 ≤ W'.heap.size ∧ ∃ out, Hid (cutP most (sel pre aft none' (xs)) = (out, true)) ∧ out.length ≤ most ∧ St w.heap.size m most 9 (.string aft) w pre out true W')
    (fun O ps X Y ⟨h1, h2, h3, h4, h5⟩ ho => ⟨fun i hi => by
      have := ho.size
      rcases hi with h | h
      · have := h1 i h; omega
      · omega, Nat.le_trans h2 ho.size, h3, h4.off ho hm4 (fun i hi h => by have := h1 i h; omega), box_off h5 ho (fun h => by have := h1 _ h; omega)⟩)
    (fun cd O ps X Y ⟨h1, h2, hs, out, h3, h4, h5⟩ ho => ⟨h1, fun i hi => by
      have := ho.size
      rcases hi with h | h
      · have := h2 i h; omega
      · omega, Nat.le_trans hs ho.size, out, h3, h4, h5.off ho hm4 (fun i hi h => by have := h2 i h; omega)⟩)
    (fun i => i = m + 3 ∨ i = m + 3 + 1) (fun i h => by omega) (fun i h => h) ⟨fun i hi => by omega, by omega, Nat.zero_le _, q7, z7⟩
    (fun O x a' W' => ∃ nb, a' = { tmps := (a0.tmps.setIfInBounds 44 x.item).setIfInBounds 15 (.pointer (some ⟨nb, 0, none⟩)), defers := [] } ∧ m + 5 ≤ nb ∧ ¬ O nb ∧ W'.heap[nb]? = some (.cells #[.string x.nm, .int .u64 (x.n : Int), .int .i64 x.len, .bool x.gone] 59 (0, 0)))
    (fun x O a' X Y ⟨nb, h1, h2, h3, h4⟩ ho => ⟨nb, h1, h2, fun h => h.elim h3 (fun h => by have := (Array.getElem?_eq_some_iff.1 h4).1; omega), (ho.block _ (Array.getElem?_eq_some_iff.1 h4).1 h3).trans h4⟩) ?assign ?body ?done ?stop
  case assign =>
    intro l1 O1 ps x W1 K hi hK
    have hb := below_one W1 (.cells #[.string x.nm, .int .u64 (x.n : Int), .int .i64 x.len, .bool x.gone] 59)
    have hx := (MapKept.heap_alloc W1 (.cells #[.string x.nm, .int .u64 (x.n : Int), .int .i64 x.len, .bool x.gone] 59)).1
    obtain ⟨h1, h2, h3, h4, h5⟩ := hi
    have hK' := hK { tmps := (a0.tmps.setIfInBounds 44 x.item).setIfInBounds 15 (.pointer (some ⟨W1.heap.size, 0, none⟩)), defers := [] } _ (kept_of_below hb (by omega)) ⟨fun i hi => by have := h1 i hi; simp; omega, by simp; omega, h3, h4.grown (below_grown0 hb) hm4 (fun _ e => by cases e), h5.kept (below_grown0 hb) (by simp)⟩
      ⟨W1.heap.size, rfl, h2, fun h => by have := h1 _ h; omega, hx⟩
    rw [ha0] at hK' ⊢
    simp only [Ver.item, List.zip_toArray, List.zip_cons_cons, List.zip_nil_right, List.foldl_toArray', List.foldl_cons, List.foldl_nil, List.setIfInBounds_toArray, List.set_cons_succ, List.set_cons_zero] at hK' ⊢
    clear hK
    gi_wp2
    exact hK'
  case body =>
    rintro l1 O1 ps x rest a' W1 hxs ⟨hN, hS, hl, hSt, hL⟩ ⟨nb, rfl, hnb, hnO, hX⟩
    have gL := grown_one W1 ⟨m + 1 + 1, 0, none⟩ (.string x.nm)
    have S2 := hSt.grown gL hm4 (fun r e => by have : m + 1 + 1 = r := Option.some.inj e; omega)
    have L2 := box_set hL (.string x.nm)
    have K2 : Kept O1 w.heap.size W1 _ := kept_grown gL (fun h => by have : m + 3 ≤ m + 1 + 1 := (hN _ h).1; omega) (by show w.heap.size ≤ m + 1 + 1; omega) (by omega)
    have X2 := (gL.block nb (Array.getElem?_eq_some_iff.1 hX).1 (fun e => by have : nb = m + 1 + 1 := Option.some.inj e; omega)).trans hX
    have x0 : W1.cell? ⟨nb, 0, none⟩ = some (.string x.nm) := by rw [Joins.cell_of_block hX]; rfl
    have y0 : (W1.setCell ⟨m + 1 + 1, 0, none⟩ (.string x.nm)).cell? ⟨nb, 0, none⟩ = some (.string x.nm) := by rw [Joins.cell_of_block X2]; rfl
    have y1 : (W1.setCell ⟨m + 1 + 1, 0, none⟩ (.string x.nm)).cell? ⟨nb, 1, none⟩ = some (.int .u64 (x.n : Int)) := by rw [Joins.cell_of_block X2]; rfl
    have y2 : (W1.setCell ⟨m + 1 + 1, 0, none⟩ (.string x.nm)).cell? ⟨nb, 2, none⟩ = some (.int .i64 x.len) := by rw [Joins.cell_of_block X2]; rfl
    have y3 : (W1.setCell ⟨m + 1 + 1, 0, none⟩ (.string x.nm)).cell? ⟨nb, 3, none⟩ = some (.bool x.gone) := by rw [Joins.cell_of_block X2]; rfl
    have l0 := hL.cell
    have l1' := hL.frozen
    have c0 := S2.b0.cell
    have c1 := S2.b1.cell
    have c5 := S2.b5.cell
    have s2 : m + 5 ≤ (W1.setCell ⟨m + 1 + 1, 0, none⟩ (.string x.nm)).heap.size := by simp [World.setCell]; omega
    have hN2 : ∀ i, O1 i → m + 3 ≤ i ∧ i < (W1.setCell ⟨m + 1 + 1, 0, none⟩ (.string x.nm)).heap.size := fun i hi => by have := hN i hi; simp [World.setCell]; omega
    have hsn := sel_snoc pre aft none' ps x
    have hln := lastN_snoc none' ps x
    obtain ⟨last, qlast⟩ : ∃ l, l = lastN none' ps := ⟨_, rfl⟩
    rw [← qlast] at hL l0 hsn
    obtain ⟨os, qos⟩ : ∃ l, l = sel pre aft none' ps := ⟨_, rfl⟩
    rw [← qos] at hl hSt S2 hsn
    have HSN := Lib.hid hsn
    have HLN := Lib.hid hln
    have HXS := Lib.hid hxs
    have HQ := Lib.hid qlast
    have HO := Lib.hid qos
    clear hsn hln hxs hSt hL hX gL qlast qos X2
    rw [ha0]
    simp only [Ver.item, List.setIfInBounds_toArray, List.set_cons_succ, List.set_cons_zero]
    clear ha0
    have hskip : okV pre aft last x = false → (sel pre aft none' (ps ++ [x])).length ≤ most ∧ St w.heap.size m most 9 (.string aft) w pre (sel pre aft none' (ps ++ [x])) false (W1.setCell ⟨m + 1 + 1, 0, none⟩ (.string x.nm)) ∧ Boxed (W1.setCell ⟨m + 1 + 1, 0, none⟩ (.string x.nm)) (m + 1 + 1) 9 (.string (lastN none' (ps ++ [x]))) := fun h => by
      rw [HSN.out, h, HLN.out, if_neg (by simp), List.append_nil]
      exact ⟨hl, S2, L2⟩
    obtain ⟨g, qg⟩ : ∃ g, g = x.gone := ⟨_, rfl⟩
    rw [← qg] at y3 ⊢
    have HG := Lib.hid qg
    clear qg
    by_cases q1 : x.nm = last
    · have h1 : (x.nm.toList == last.toList) = true := by rw [q1]; simp
      have Q1 := Lib.hid q1
      clear q1
      gi_wp2
      exact ⟨K2, hN2, s2, hskip (by unfold okV; simp [Q1.out])⟩
    · have h1 : (x.nm.toList == last.toList) = false := by
        rw [ByteArray.toList_eq, ByteArray.toList_eq, beq_eq_false_iff_ne]
        exact fun h => q1 (ByteArray.ext (Array.toList_inj.1 h))
      have Q1 := Lib.hid q1
      clear q1
      cases g
      case true =>
        gi_wp2
        exact ⟨K2, hN2, s2, hskip (by unfold okV; simp [← HG.out])⟩
      case false =>
        rcases leq_ways x.nm aft with ⟨w1, w2, w3⟩ | ⟨w1, w2, w3⟩ | ⟨w1, w2, w3⟩
        case inr.inl =>
          have W1' := Lib.hid w1
          clear w1
          gi_wp2
          exact ⟨K2, hN2, s2, hskip (by unfold okV; simp [W1'.out])⟩
        case inr.inr =>
          have W1' := Lib.hid w1
          clear w1
          gi_wp2
          exact ⟨K2, hN2, s2, hskip (by unfold okV; simp [W1'.out])⟩
        case inl =>
          have W1' := Lib.hid w1
          clear w1
          gi_wp2
          refine ⟨trivial, (CallsIn.inRound l1 (callsIn_wide.2 (hasPrefix_calls x.nm pre _))).mono ?_⟩
          rintro e W3 ⟨rfl, hW3⟩
          rw [hW3]
          clear hW3
          obtain ⟨bp, qbp⟩ : ∃ bp, bp = pfx pre x.nm := ⟨_, rfl⟩
          rw [← qbp]
          have HP := Lib.hid qbp
          clear qbp
          cases bp
          case false =>
            gi_wp2
            exact ⟨K2, hN2, s2, hskip (by unfold okV; simp [← HP.out])⟩
          case true =>
            have hokV : okV pre aft last x = true := by
              unfold okV
              rw [W1'.out, ← HP.out, ← HG.out, decide_eq_false Q1.out]; rfl
            have HOK := Lib.hid hokV
            clear hokV
            by_cases hroom : os.length < most
            · have hP := put_st x S2 hm4 hroom
              rw [← HG.out] at hP
              gi_wp2
              refine ⟨trivial, (CallsIn.inRound l1 (callsIn_wide.2 hP)).mono ?_⟩
              rintro e W4 ⟨rfl, S4, g4⟩
              have L4 := L2.kept g4 (fun e => by have : m + 1 + 1 = m := Option.some.inj e; omega)
              have K4 := K2.trans (kept_grown (O := O1) (n₀ := w.heap.size) g4 (fun h => by have := (hN2 _ h).1; omega) (by omega) (by omega))
              have hs4 := g4.size
              have hN4 : ∀ i, O1 i → m + 3 ≤ i ∧ i < W4.heap.size := fun i hi => by have := hN2 i hi; omega
              clear hP
              gi_wp2
              refine ⟨K4, hN4, Nat.le_trans s2 hs4, ?_⟩
              rw [HSN.out, HLN.out, if_pos HOK.out]
              exact ⟨by rw [List.length_append]; simp; omega, S4, L4⟩
            · have hfull : os.length = most := by omega
              have hP := put_st_full x S2 hm4 hfull
              rw [← HG.out] at hP
              gi_wp2
              refine ⟨trivial, (CallsIn.inRound l1 (callsIn_wide.2 hP)).mono ?_⟩
              rintro e W4 ⟨rfl, S4, b4⟩
              have hs4 := b4.size
              have d3 := S4.b3.cell
              have f3 := S4.b3.frozen
              have S5 := S4.setMore hm4 true
              have K5 := (K2.trans (kept_of_below (O := O1) (n₀ := w.heap.size) b4 (by omega))).trans (kept_grown (O := O1) (n₀ := w.heap.size) (grown_one W4 ⟨w.heap.size + 1 + 1 + 1, 0, none⟩ (.bool true)) (fun h => by have : m + 3 ≤ w.heap.size + 1 + 1 + 1 := (hN2 _ h).1; omega) (by show w.heap.size ≤ w.heap.size + 1 + 1 + 1; omega) (by omega))
              have hN5 : ∀ i, O1 i → m + 3 ≤ i ∧ i < (W4.setCell ⟨w.heap.size + 1 + 1 + 1, 0, none⟩ (.bool true)).heap.size := fun i hi => by have h := (hN2 i hi).2; exact ⟨(hN2 i hi).1, Nat.lt_of_lt_of_le h (by simpa [World.setCell] using hs4)⟩
              have s5 : m + 5 ≤ (W4.setCell ⟨w.heap.size + 1 + 1 + 1, 0, none⟩ (.bool true)).heap.size := by simp [World.setCell] at s2 hs4 ⊢; omega
              have hcut : Hid (cutP most (sel pre aft none' (xs)) = (os, true)) := by
                have h := sel_stop (p := pre) (a := aft) (l := none') (most := most) HXS.out (by rw [← HO.out]; exact hfull) (by rw [← HQ.out]; exact HOK.out)
                rw [← HO.out] at h
                exact h
              clear hP
              gi_wp2
              exact ⟨K5, rfl, hN5, s5, os, hcut, by omega, S5⟩
  case done =>
    rintro O1 D W1 hD hOD ⟨hN, hS, hl, hSt, hL⟩ hK
    obtain ⟨os, qos⟩ : ∃ l, l = sel pre aft none' (xs) := ⟨_, rfl⟩
    rw [← qos] at hl hSt
    have HQ : Hid (cutP most (sel pre aft none' (xs)) = (os, false)) := by rw [← qos]; exact cut_all hl
    clear qos hL
    have hm' := hN D hOD
    have c3 := hSt.b3.cell
    have c5 := hSt.b5.cell
    have HW := Lib.hid (callsIn_wide (n := 19).2 (whole_calls m most os false W1 hSt.ch (by omega)))
    simp only [Exit.inBlock, Exit.then]
    rw [ha0]
    clear ha0
    gi_wp2
    refine ⟨trivial, HW.out.mono ?_⟩
    rintro e W2 ⟨A', cp', rfl, hI, hA, hg⟩
    have P2 := hSt.b2.grown hg (fun e => by have : m = w.heap.size + 1 + 1 := Option.some.inj e; omega)
    obtain ⟨p0, p1⟩ := P2.c
    have f0 := P2.f 0
    have f1 := P2.f 1
    have P3 := (P2.set0 A' os.length cp').set1 false
    have hDl := (Array.getElem?_eq_some_iff.1 hK).1
    have K2 := (hg.block D hDl (fun e => by have : D = m := Option.some.inj e; omega)).trans hK
    have K3 : ((W2.setCell ⟨w.heap.size + 1 + 1, 0, none⟩ (.slice A' os.length cp')).setCell ⟨w.heap.size + 1 + 1, 1, none⟩ (.bool false)).heap[D]? = some (.deferred (some [])) :=
      (Below.heap_setCell _ _ _ _ (by show D ≠ w.heap.size + 1 + 1; omega)).trans ((Below.heap_setCell _ _ _ _ (by show D ≠ w.heap.size + 1 + 1; omega)).trans K2)
    have hna : ∀ ad, A' = some ad → ad.block ≠ w.heap.size + 1 + 1 := fun ad h => by have := hA ad h; omega
    have hI3 := (hI.other ⟨w.heap.size + 1 + 1, 0, none⟩ hna (.slice A' os.length cp')).other ⟨w.heap.size + 1 + 1, 1, none⟩ hna (.bool false)
    have B2 := below_own hSt.below hg (by omega) (fun r e => by have : m = r := Option.some.inj e; omega)
    have B3 := (B2.setCell (p := ⟨w.heap.size + 1 + 1, 0, none⟩) (by show w.heap.size ≤ w.heap.size + 1 + 1; omega) (.slice A' os.length cp')).setCell (p := ⟨w.heap.size + 1 + 1, 1, none⟩) (by show w.heap.size ≤ w.heap.size + 1 + 1; omega) (.bool false)
    clear P2 K2 HW hSt hI B2 c3 c5
    gi_wp2
    exact ret_page HQ.out hA (by omega) hI3 P3 B3 ⟨by omega, by omega, fun ad h e => by have := hA ad h; omega⟩ K3 rfl rfl rfl
  case stop =>
    rintro O1 D cd ps x rest W1 hD hOD hxs ⟨rfl, hN, hS, os, HQ, hl, hSt⟩ hK
    have hm' := hN D hOD
    refine wpIn_exit ?_
    have c3 := hSt.b3.cell
    have c5 := hSt.b5.cell
    have HW := Lib.hid (callsIn_wide (n := 19).2 (whole_calls m most os true W1 hSt.ch (by omega)))
    simp only [Exit.inBlock, Exit.then]
    rw [ha0]
    clear ha0
    gi_wp2
    refine ⟨trivial, HW.out.mono ?_⟩
    rintro e W2 ⟨A', cp', rfl, hI, hA, hg⟩
    have P2 := hSt.b2.grown hg (fun e => by have : m = w.heap.size + 1 + 1 := Option.some.inj e; omega)
    obtain ⟨p0, p1⟩ := P2.c
    have f0 := P2.f 0
    have f1 := P2.f 1
    have P3 := (P2.set0 A' os.length cp').set1 true
    have hDl := (Array.getElem?_eq_some_iff.1 hK).1
    have K2 := (hg.block D hDl (fun e => by have : D = m := Option.some.inj e; omega)).trans hK
    have K3 : ((W2.setCell ⟨w.heap.size + 1 + 1, 0, none⟩ (.slice A' os.length cp')).setCell ⟨w.heap.size + 1 + 1, 1, none⟩ (.bool true)).heap[D]? = some (.deferred (some [])) :=
      (Below.heap_setCell _ _ _ _ (by show D ≠ w.heap.size + 1 + 1; omega)).trans ((Below.heap_setCell _ _ _ _ (by show D ≠ w.heap.size + 1 + 1; omega)).trans K2)
    have hna : ∀ ad, A' = some ad → ad.block ≠ w.heap.size + 1 + 1 := fun ad h => by have := hA ad h; omega
    have hI3 := (hI.other ⟨w.heap.size + 1 + 1, 0, none⟩ hna (.slice A' os.length cp')).other ⟨w.heap.size + 1 + 1, 1, none⟩ hna (.bool true)
    have B2 := below_own hSt.below hg (by omega) (fun r e => by have : m = r := Option.some.inj e; omega)
    have B3 := (B2.setCell (p := ⟨w.heap.size + 1 + 1, 0, none⟩) (by show w.heap.size ≤ w.heap.size + 1 + 1; omega) (.slice A' os.length cp')).setCell (p := ⟨w.heap.size + 1 + 1, 1, none⟩) (by show w.heap.size ≤ w.heap.size + 1 + 1; omega) (.bool true)
    clear P2 K2 HW hSt hI B2 c3 c5
    gi_wp2
    exact ret_page HQ.out hA (by omega) hI3 P3 B3 ⟨by omega, by omega, fun ad h e => by have := hA ad h; omega⟩ K3 rfl rfl rfl

theorem names_calls (B : Nat) (A : Option Addr) (c : Nat) (vs : List Ver) (b pre aft : ByteArray) (most : Nat) (w : World) (hok : ∀ v ∈ vs, v.Ok) (hreach : vs.length ≤ 100000) (hR : ItB w.heap.size B A c vs w)
    (hb : Name.bucketL b.data.toList = true) (hbs : b.size ≤ 1000) (h1 : pre.size ≤ 200) (h2 : aft.size ≤ 200) (hm1 : 1 ≤ most) (hm2 : most ≤ 256) :
    Calls Tryd.prog 30 #[ofV B, .string b, .string pre, .string aft, .int .i64 (most : Int)] w fun e w' => PageR w (cutP most (sel pre aft none' (itemsOf b vs))) e w' :=
  names_gen (ofV B) (.inr ⟨_, _, _, rfl⟩) (itemsOf b vs) b pre aft most w (fun Bs Bb l J Jx O W hW hRd => items_seq 19 (by omega) w.heap.size Bs Bb B A c b vs hok hreach l J Jx O W hW ⟨hRd.1, hRd.2.1, hR.below hRd.2.2⟩) hb hbs h1 h2 hm1 hm2

end Go.Proofs.YtaeiahkomdpcoaaDoor.Page
end
