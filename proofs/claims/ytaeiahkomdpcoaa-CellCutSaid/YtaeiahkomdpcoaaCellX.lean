/- For any cell, any place to cut and any text behind it hoardlaw14.CellCut returns true. No condition on the input. -/
import Derived.Test.YtaeiahkomdpcoaaCellW
import Derived.Test.YtaeiahkomdpcoaaLaw
import Derived.Deep.Slices
import Derived.Deep.Fields
import Derived.ChangeSame
import Derived.ChangeSlices
namespace Go.Proofs.Ytaeiahkomdpcoaa.CellCut
open Go.RowKit Go.Proofs.Ytaeiahkomdpcoaa.Num Go.Proofs.Ytaeiahkomdpcoaa.Wire Go.Proofs.Ytaeiahkomdpcoaa.Cell

theorem walk (c : Cel) (A : Option Addr) (cp : Nat) (at0 : Nat) (hat : at0 < 65536) (m : ByteArray) (w : World) (hP : PcsAt w A c.body.pcs) (hk : c.kind < 256) : Calls Try.prog 7 #[.agg (cvs c A cp), .int .u16 at0, .string m] w fun e w' => e = .returned (.bool true) ∧ Below w.heap.size w w' := cut_calls c A cp at0 hat m w hP hk

open Go.ChangeShapes Go.WideShapes Go.Deep Go.Joins

section
variable {H : Type} {enc : TypeId × Value → H} {P : Program} {w : World} {base : Nat} {spare : Nat → Bool} {held : Bool}
theorem open_slice_fields {t e : TypeId} {fs : Array Field} {fuel : Nat} {cs : List Value} {x : DataW H × List MemPlace} (ht : P.underlying t = some (.slice e)) (he : P.underlying e = some (.struct fs))
    (hone : oneCellFields P fs = true) (hC : P.cellsOf e = fs.size) (h : DataW.trod enc P w base spare held fuel t cs = some x) :
    (cs = [.slice none 0 0] ∧ x = (.nil, [])) ∨
    ∃ (a : Addr) (len cap m : Nat) (D : Nat → DataW H) (Pl : Nat → List MemPlace), cs = [.slice (some a) len cap] ∧ base ≤ a.block ∧ len ≤ cap ∧ cap ≤ maxLen ∧ m = (if spare a.block then cap else len) ∧
      x = (.slice ((List.range len).map D) ((List.range (m - len)).map fun j => D (len + j)), MemPlace.row a (m * fs.size) ++ (List.range m).flatMap Pl) ∧
      ∀ i, i < m → ∃ (ys : List (DataW H × List MemPlace)) (n : Nat), D i = .agg (ys.map (·.1)) ∧ Pl i = ys.flatMap (·.2) ∧ ys.length = fs.size ∧
        ∀ (j : Nat) (f : Field), fs[j]? = some f → ∃ (v : Value) (y : DataW H × List MemPlace), w.cell? (a.add (i * fs.size + j)) = some v ∧ ys[j]? = some y ∧ DataW.trod enc P w base spare held n f.type [v] = some y := by
  rcases open_slice ht h with h0 | ⟨a, len, cap, m, n, D, Pl, hcs, hb, hl, hm, hmm, hx, hi⟩
  · exact .inl h0
  · refine .inr ⟨a, len, cap, m, D, Pl, hcs, hb, hl, hm, hmm, by rw [hC] at hx; exact hx, fun i him => ?_⟩
    obtain ⟨cs', hc, ht'⟩ := hi i him
    rw [hC] at hc
    obtain ⟨ys, n', hn', hy, hlen, hyl, hf⟩ := DataW.trod_struct he ht'
    obtain ⟨_, hcl, hat⟩ := World.cells?_some hc
    simp only [Prod.mk.injEq] at hy
    refine ⟨ys, n', hy.1, hy.2, hyl, fun j f hj => ?_⟩
    obtain ⟨ho, hk⟩ := hone_of hone j f hj
    have hjl : j < fs.size := (Array.getElem?_eq_some_iff.1 hj).1
    have hcell := hat j hjl
    have hv : cs'[j]? = some (cs'[j]'(by omega)) := List.getElem?_eq_getElem (by omega)
    have h1 := hf j f hj
    rw [ho, hk] at h1
    have hone' : (cs'.drop j).take 1 = [cs'[j]'(by omega)] := by
      rw [List.drop_eq_getElem_cons (by omega)]
      rfl
    rw [hone'] at h1
    have hys : ys[j]? = some (ys[j]'(by omega)) := List.getElem?_eq_getElem (by omega)
    refine ⟨_, _, ?_, hys, h1.trans hys⟩
    rw [← Go.Deep.add_add, hcell, hv]
end

section
variable {H : Type} {enc : TypeId × Value → H} {W : World}
theorem open_pcsAt {fuel : Nat} {cs : List Value} {x : DataW H × List MemPlace} (h : DataW.trod enc Try.prog W 0 (fun _ => true) true fuel 46 cs = some x) :
    ∃ A c ps, cs = [.slice A ps.length c] ∧ PcsAt W A ps := by
  rcases open_slice_fields Try.underlying46 Try.underlying75 (by kernel_rfl) (by kernel_rfl) h with ⟨rfl, _⟩ | ⟨a, len, cap, m, D, Pl, rfl, _, hl, hm, hmm, _, hel⟩
  · exact ⟨none, 0, [], rfl, fun i s hs => by cases hs⟩
  · rw [if_pos rfl] at hmm
    have hex : ∀ i, ∃ s : Piece, i < len → W.cell? (a.add (i * 3)) = some (.int .i64 s.row) ∧ W.cell? (a.add (i * 3 + 1)) = some (.int .u64 (s.stamp : Int)) ∧ W.cell? (a.add (i * 3 + 2)) = some (.int .i64 s.len) := fun i => by
      by_cases hi : i < len
      · obtain ⟨ys, n, _, _, _, hf⟩ := hel i (by omega)
        obtain ⟨v0, y0, hc0, _, ht0⟩ := hf 0 _ rfl
        obtain ⟨v1, y1, hc1, _, ht1⟩ := hf 1 _ rfl
        obtain ⟨v2, y2, hc2, _, ht2⟩ := hf 2 _ rfl
        obtain ⟨k0, e0, _, _⟩ := DataW.trod_int Try.underlying3 ht0
        obtain ⟨k1, e1, _, w1⟩ := DataW.trod_int Try.underlying26 ht1
        obtain ⟨k2, e2, _, _⟩ := DataW.trod_int Try.underlying3 ht2
        simp at e0 e1 e2
        subst e0 e1 e2
        obtain ⟨x1, rfl⟩ := Int.eq_ofNat_of_zero_le (bounds_u64 w1).1
        exact ⟨⟨k0, x1, k2⟩, fun _ => ⟨hc0, hc1, hc2⟩⟩
      · exact ⟨⟨0, 0, 0⟩, fun h => absurd h hi⟩
    obtain ⟨f, hf⟩ := Classical.skolem.1 hex
    refine ⟨some a, cap, (List.range len).map f, by simp, fun i s hs => ?_⟩
    have hi : i < len := by
      rcases Nat.lt_or_ge i len with h | h
      · exact h
      · rw [List.getElem?_eq_none (by simpa using h)] at hs; cases hs
    have : s = f i := by
      rw [List.getElem?_map, List.getElem?_range hi] at hs
      exact (Option.some.inj hs).symm
    subst this
    have h1 := hf i hi
    refine ⟨a, rfl, ?_, h1⟩
    have := block_lt_of_cell h1.1
    rwa [block_of_add] at this

theorem array7 {cs : Array Value} (h : cs.size = 7) : ∃ a b c d e f g, cs = #[a, b, c, d, e, f, g] := by
  obtain ⟨l⟩ := cs
  match l, h with
  | [a, b, c, d, e, f, g], _ => exact ⟨a, b, c, d, e, f, g, rfl⟩

set_option maxRecDepth 100000 in
theorem open_cell {r : Reach} {b0 : Nat} {v : Value} {d : DataW H} {p : List MemPlace} (hv : Value.okWide Try.prog W r b0 50 v) (h : DataW.Trod enc Try.prog W 0 (fun _ => true) true 50 v d p) :
    ∃ (c : Cel) (A : Option Addr) (cp : Nat), v = .agg (cvs c A cp) ∧ c.kind < 256 ∧ PcsAt W A c.body.pcs := by
  obtain ⟨cs, rfl, hsz⟩ := okWide_struct Try.underlying50 hv
  obtain ⟨c0, c1, c2, c3, c4, c5, c6, rfl⟩ := array7 (hsz.trans (by kernel_rfl))
  obtain ⟨fuel, hf⟩ := h
  obtain ⟨ys, n, _, _, _, hyl, hfl⟩ := DataW.trod_struct Try.underlying50 hf
  have hyl5 : ys.length = 5 := hyl
  have g0 := hfl 0 _ rfl
  have g1 := hfl 1 _ rfl
  have g2 := hfl 2 _ rfl
  have g3 := hfl 3 _ rfl
  have g4 := hfl 4 _ rfl
  have ku8 : Try.prog.cellsOf 5 = 1 := by kernel_rfl
  have kst : Try.prog.cellsOf 9 = 1 := by kernel_rfl
  have ku64 : Try.prog.cellsOf 26 = 1 := by kernel_rfl
  have kin : Try.prog.cellsOf 3 = 1 := by kernel_rfl
  have kbo : Try.prog.cellsOf 4 = 1 := by kernel_rfl
  have kby : Try.prog.cellsOf 48 = 3 := by kernel_rfl
  have ksl : Try.prog.cellsOf 46 = 1 := by kernel_rfl
  have y0 : ys[0]? = some (ys[0]'(by omega)) := List.getElem?_eq_getElem (by omega)
  have y1 : ys[1]? = some (ys[1]'(by omega)) := List.getElem?_eq_getElem (by omega)
  have y2 : ys[2]? = some (ys[2]'(by omega)) := List.getElem?_eq_getElem (by omega)
  have y3 : ys[3]? = some (ys[3]'(by omega)) := List.getElem?_eq_getElem (by omega)
  have y4 : ys[4]? = some (ys[4]'(by omega)) := List.getElem?_eq_getElem (by omega)
  obtain ⟨a0, e0, _, w0⟩ := DataW.trod_int Try.underlying5 (g0.trans y0)
  obtain ⟨a1, e1, _, w1⟩ := DataW.trod_int Try.underlying26 (g1.trans y1)
  obtain ⟨a2, e2, _⟩ := DataW.trod_bool Try.underlying4 (g2.trans y2)
  obtain ⟨a3, e3, _, _⟩ := DataW.trod_string Try.underlying9 (g3.trans y3)
  obtain ⟨zs, n', _, _, _, hzl, hfz⟩ := DataW.trod_struct Try.underlying48 (g4.trans y4)
  have hzl3 : zs.length = 3 := hzl
  have q0 := hfz 0 _ rfl
  have q1 := hfz 1 _ rfl
  have q2 := hfz 2 _ rfl
  have z0 : zs[0]? = some (zs[0]'(by omega)) := List.getElem?_eq_getElem (by omega)
  have z1 : zs[1]? = some (zs[1]'(by omega)) := List.getElem?_eq_getElem (by omega)
  have z2 : zs[2]? = some (zs[2]'(by omega)) := List.getElem?_eq_getElem (by omega)
  obtain ⟨a4, e4, _, _⟩ := DataW.trod_int Try.underlying3 (q0.trans z0)
  obtain ⟨a5, e5, _, _⟩ := DataW.trod_string Try.underlying9 (q1.trans z1)
  obtain ⟨A6, c6', ps, e6, hP⟩ := open_pcsAt (q2.trans z2)
  simp [Value.cells, ku8] at e0
  simp [Value.cells, ku64] at e1
  simp [Value.cells, kbo] at e2
  simp [Value.cells, kst] at e3
  simp [Value.cells, kby, kin] at e4
  simp [Value.cells, kby, kst] at e5
  simp [Value.cells, kby, ksl] at e6
  subst e0 e1 e2 e3 e4 e5 e6
  obtain ⟨x0, rfl⟩ := Int.eq_ofNat_of_zero_le (bounds_u8 w0).1
  obtain ⟨x1, rfl⟩ := Int.eq_ofNat_of_zero_le (bounds_u64 w1).1
  have h0 := (bounds_u8 w0).2
  exact ⟨⟨x0, x1, a2, a3, ⟨a4, a5, ps⟩⟩, A6, c6', rfl, by show x0 < 256; omega, hP⟩
end

open Go.ChangeAt
open Go.ChangeMaps (open_string)

set_option maxRecDepth 100000 in
theorem lifted (os : Os) (started : os.Started) (H : Type) (enc : TypeId × Value → H) :
    ReturnsInHanded {} Try.checked os 7 .any (Rows.cellCutSpec.pre6 enc Try.prog Try.f7 Rows.cellCutRow.domain false) (Rows.cellCutSpec.post enc Try.prog Try.f7 false true false false) := by
  refine returnsInHanded_of_change (C := Try.checked) own started (by kernel_rfl) Try.func7
    (ChangeSpec.witness6 (enc := enc) (C := Try.checked) false ⟨#[], #[.agg #[.int .u8 0, .int .u64 0, .bool false, .string ⟨#[]⟩, .int .i64 0, .string ⟨#[]⟩, .slice none 0 0], .int .u16 0, .string ⟨#[]⟩], []⟩ 8 (by kernel_rfl) (by kernel_rfl) (by kernel_rfl) (by kernel_rfl)) ?_
  intro W base args ds gs before hval0 hW hcnd _
  have hval : ∀ (j : Nat) t v, Try.f7.params[j]? = some t → args[j]? = some v → Value.okWide Try.prog W .any base t v := hval0
  have hW' := hW
  obtain ⟨p, q, hA0, hV, rfl, _, _⟩ := hW'
  have hA : DataW.TrodAll enc Try.prog W 0 (fun _ => true) true Try.f7.params.toList args.toList ds p := hA0
  rw [Try.params7] at hA hval
  obtain ⟨v0, v1, v2, d0, d1, d2, p0, p1, p2, rfl, rfl, rfl, h0, h1, h2⟩ := trodAll_three hA
  obtain ⟨rfl, rfl⟩ := trodVars_none hV
  obtain ⟨c0, A0, cp0, rfl, hk0, hP0⟩ := open_cell (hval 0 50 v0 rfl rfl) h0
  obtain ⟨a1, rfl, rfl, rfl, wf1⟩ := open_int Try.underlying32 (hval 1 32 v1 rfl rfl) h1
  obtain ⟨x1, rfl⟩ := Int.eq_ofNat_of_zero_le (bounds_u16 wf1).1
  obtain ⟨s2, rfl, rfl, rfl, ws2⟩ := open_string Try.underlying9 (hval 2 9 v2 rfl rfl) h2
  refine (walk c0 A0 cp0 x1 (by have := (bounds_u16 wf1).2; omega) s2 W hP0 hk0).mono fun e W' ⟨he, hb⟩ => ⟨_, he, ?_⟩
  exact law_post (tb := 4) hW hb laidOut (by kernel_rfl) (by kernel_rfl) Try.underlying4 rfl rfl

theorem proved : Rows.CellCutSaid :=
  OpenClaim.holds_of_wide 7 Try.f7 rfl rfl rfl rfl rfl rfl rfl ⟨rfl, rfl, rfl, rfl, rfl⟩ rfl rfl rfl rfl rfl (by kernel_rfl) Try.func7 (by kernel_rfl)
    (of_decide_eq_true (by kernel_rfl)) (by unfold Func.isWrapper; first | (rw [if_pos (by decide +kernel)]; kernel_rfl) | (rw [if_neg (by decide +kernel)]; exact ⟨rfl, rfl⟩))
    (fun os started H enc _ => lifted os started H enc)

#print axioms proved

end Go.Proofs.Ytaeiahkomdpcoaa.CellCut
