/- Texts merged into one: part 9 of 11. -/
import Derived.Test.YtaeiahkomdpcoaaGreatDoorZ8
import Derived.Test.YtaeiahkomdpcoaaGreatDoorZ3

section
/- hoardlaw24.pair: a version as a pair, or nothing. -/
namespace Go.Proofs.YtaeiahkomdpcoaaGreatDoor.Page
open Go Go.RowKit Go.Proofs.YtaeiahkomdpcoaaGreatDoor.Seq Go.Proofs.YtaeiahkomdpcoaaGreatDoor.Cell

/-- May a version be? -/
def okB (v : Ver) : Bool := Name.mayB v.key && mayCB v.cel
def pairS (v : Ver) : Pr := if okB v = true then prOf v else (none', none')
theorem okB_ok {v : Ver} (h : okB v = true) (hn : v.n ≤ Name.top) : v.Ok := by
  unfold okB at h
  rw [Bool.and_eq_true] at h
  exact ⟨h.1, hn, (mayCB_iff _).1 h.2⟩
structure VFit (v : Ver) : Prop where
  bk : v.bk.size ≤ 9223372036854775807
  nm : v.nm.size ≤ 9223372036854775807
  n : v.n ≤ Name.top

def PrRow (w : World) (b : Nat) (p : Pr) : Prop := w.heap[b]? = some (.cells #[.string p.1, .string p.2] 36 (0, 0))
section
variable {w w' : World} {b : Nat} {p : Pr}
theorem PrRow.lt (h : PrRow w b p) : b < w.heap.size := (Array.getElem?_eq_some_iff.1 h).1
theorem PrRow.below (h : PrRow w b p) (hb : Below w.heap.size w w') : PrRow w' b p := (hb.block _ h.lt).trans h
theorem PrRow.other (h : PrRow w b p) (a : Addr) (ha : a.block ≠ b) (v : Value) : PrRow (w.setCell a v) b p := (Below.heap_setCell _ _ _ _ (fun e => ha e.symm)).trans h
theorem PrRow.c (h : PrRow w b p) : w.cell? ⟨b, 0, none⟩ = some (.string p.1) ∧ w.cell? ⟨b, 1, none⟩ = some (.string p.2) := by
  refine ⟨?_, ?_⟩ <;> (rw [Joins.cell_of_block h]; rfl)
theorem PrRow.f (h : PrRow w b p) (k : Nat) : w.frozen? ⟨b, k, none⟩ = false := Lib.frozen_of_heap h k
theorem PrRow.set (h : PrRow w b p) (q : Pr) : PrRow ((w.setCell ⟨b, 0, none⟩ (.string q.1)).setCell ⟨b, 1, none⟩ (.string q.2)) b q := by
  unfold PrRow at h ⊢; simp [World.setCell, Array.getElem?_modify, h]
theorem prRow_new (w : World) (p : Pr) : PrRow (w.alloc (.cells #[.string p.1, .string p.2] 36)) w.heap.size p := (MapKept.heap_alloc w _).1
end

theorem celEnc (v : Ver) (w : World) : Calls Tryz.prog 25 #[.agg #[.int .u8 3, .int .u64 0, .bool v.gone, .string ⟨#[]⟩, .int .i64 v.len, .string (if v.gone then ⟨#[]⟩ else v.tx), .slice none 0 0]] w fun e w' =>
    e = .returned (if mayCB v.cel = true then .tuple #[.string (prOf v).2, .int .i64 0] else .tuple #[.string ⟨#[]⟩, .int .i64 2]) ∧ Below w.heap.size w w' := by
  have h := Cell.encode_calls v.cel none 0 w (by unfold Ver.cel; cases v.gone <;> exact PcsAt.nil _ _) (by unfold Ver.cel; cases v.gone <;> simp [Body.zero]) (by show (3 : Nat) < 256; decide)
  have e : cvs v.cel none 0 = #[.int .u8 3, .int .u64 0, .bool v.gone, .string ⟨#[]⟩, .int .i64 v.len, .string (if v.gone then ⟨#[]⟩ else v.tx), .slice none 0 0] := by
    unfold cvs Ver.cel Ver.len
    cases v.gone <;> rfl
  rw [e] at h
  exact h

set_option maxHeartbeats 1600000 in
set_option maxRecDepth 100000 in
theorem pair_calls (v : Ver) (w : World) (hv : Name.Var0 w) (hf : VFit v) : Calls Tryz.prog 10 #[.string v.bk, .string v.nm, .int .u64 (v.n : Int), .string v.tx, .bool v.gone] w fun e w' =>
    e = .returned (.agg #[.string (pairS v).1, .string (pairS v).2]) ∧ Below w.heap.size w w' := by
  have E1 : Hid (∀ W, Name.Var0 W → Calls Tryz.prog 24 #[.agg #[.int .u8 3, .string v.bk, .string v.nm, .int .u64 (v.n : Int), .int .i64 0]] W fun e w' => e = .returned (if Name.mayB v.key = true then .tuple #[.string (prOf v).1, .int .i64 0] else .tuple #[.string ⟨#[]⟩, .int .i64 2]) ∧ Below W.heap.size W w') :=
    fun W h => Name.enc3 v.bk v.nm v.n W h hf.bk hf.nm hf.n
  have E2 : Hid (∀ W, _) := fun W => celEnc v W
  have b1 := below_one w (.cells #[.string ⟨#[]⟩, .string ⟨#[]⟩] 36)
  have v1 := hv.below b1
  have p1 := prRow_new w (⟨#[]⟩, ⟨#[]⟩)
  obtain ⟨m1, q1⟩ : ∃ m, m = Name.mayB v.key := ⟨_, rfl⟩
  obtain ⟨m2, q2⟩ : ∃ m, m = mayCB v.cel := ⟨_, rfl⟩
  have HR : Hid (pairS v = if m1 && m2 then prOf v else (none', none')) := by
    show _ = _
    unfold pairS okB
    rw [q1, q2]
  rw [← q1] at E1
  rw [← q2] at E2
  clear q1 q2
  obtain ⟨⟨s1, s2⟩, qs⟩ : ∃ s, s = prOf v := ⟨_, rfl⟩
  rw [← qs] at E1 E2 HR
  obtain ⟨ln, ql⟩ : ∃ l, l = v.len := ⟨_, rfl⟩
  have hl : v.gone = false → ln = (v.tx.size : Int) := fun h => by rw [ql]; unfold Ver.len; rw [h]; rfl
  have hl0 : v.gone = true → ln = 0 := fun h => by rw [ql]; unfold Ver.len; rw [h]; rfl
  rw [← ql] at E2
  obtain ⟨R, qR⟩ : ∃ R, R = pairS v := ⟨_, rfl⟩
  rw [← qR] at HR ⊢
  obtain ⟨bk, nm, n, tx, g⟩ := v
  simp only at E1 E2 hl hl0 ⊢
  clear qs ql qR hv hf
  go_enter Tryz.func10, Tryz.ntmps10
  go_wp2_with fail
  refine (E1.out _ v1).mono ?_
  rintro e w2 ⟨rfl, b2⟩
  have p2 := p1.below b2
  have c2 := below_of b1 b2
  clear E1 p1 b1 b2 v1
  cases g
  case true =>
    obtain rfl := hl0 rfl
    clear hl hl0
    have b3 := below_one w2 (.cells #[.int .u8 3, .int .u64 0, .bool true, .string ⟨#[]⟩, .int .i64 0, .string ⟨#[]⟩, .slice none 0 0] 65)
    have R3 := row_new w2 #[.int .u8 3, .int .u64 0, .bool true, .string ⟨#[]⟩, .int .i64 0, .string ⟨#[]⟩, .slice none 0 0]
    have p3 := p2.below b3
    have c3 := below_of c2 b3
    clear p2 c2 b3
    cases m1 <;> cases m2
    all_goals
      obtain rfl := HR.out
      clear HR
      simp only [Bool.false_eq_true, if_true, if_false] at E2 ⊢
      go_wp2_with fail
      refine (E2.out _).mono ?_
      rintro e w4 ⟨rfl, b4⟩
      have p4 := p3.below b4
      have c4 := below_of c3 b4
      obtain ⟨z0, z1⟩ := p4.c
      have f0 := p4.f 0
      have f1 := p4.f 1
      have p5 := p4.set (none', none')
      have p6 := p4.set (s1, s2)
      have c5 := (c4.setCell (p := ⟨w.heap.size, 0, none⟩) (Nat.le_refl _) (.string none')).setCell (p := ⟨w.heap.size, 1, none⟩) (Nat.le_refl _) (.string none')
      have c6 := (c4.setCell (p := ⟨w.heap.size, 0, none⟩) (Nat.le_refl _) (.string s1)).setCell (p := ⟨w.heap.size, 1, none⟩) (Nat.le_refl _) (.string s2)
      clear p3 c3 b4 p4 c4 R3 E2
      go_wp2_with fail
      first
        | (refine bodyPost_ret (results_cell_row rfl _ _ w.heap.size 36 _ (0, 0) _ rfl p5 Tryz.underlying36 rfl (by kernel_rfl)) rfl ?_; exact ⟨rfl, c5⟩)
        | (refine bodyPost_ret (results_cell_row rfl _ _ w.heap.size 36 _ (0, 0) _ rfl p6 Tryz.underlying36 rfl (by kernel_rfl)) rfl ?_; exact ⟨rfl, c6⟩)
  case false =>
    obtain rfl := hl rfl
    clear hl hl0
    have b3 := below_one w2 (.cells #[.int .u8 3, .int .u64 0, .bool false, .string ⟨#[]⟩, .int .i64 (tx.size : Int), .string tx, .slice none 0 0] 65)
    have R3 := row_new w2 #[.int .u8 3, .int .u64 0, .bool false, .string ⟨#[]⟩, .int .i64 (tx.size : Int), .string tx, .slice none 0 0]
    have p3 := p2.below b3
    have c3 := below_of c2 b3
    clear p2 c2 b3
    cases m1 <;> cases m2
    all_goals
      obtain rfl := HR.out
      clear HR
      simp only [Bool.false_eq_true, if_true, if_false] at E2 ⊢
      go_wp2_with fail
      refine (E2.out _).mono ?_
      rintro e w4 ⟨rfl, b4⟩
      have p4 := p3.below b4
      have c4 := below_of c3 b4
      obtain ⟨z0, z1⟩ := p4.c
      have f0 := p4.f 0
      have f1 := p4.f 1
      have p5 := p4.set (none', none')
      have p6 := p4.set (s1, s2)
      have c5 := (c4.setCell (p := ⟨w.heap.size, 0, none⟩) (Nat.le_refl _) (.string none')).setCell (p := ⟨w.heap.size, 1, none⟩) (Nat.le_refl _) (.string none')
      have c6 := (c4.setCell (p := ⟨w.heap.size, 0, none⟩) (Nat.le_refl _) (.string s1)).setCell (p := ⟨w.heap.size, 1, none⟩) (Nat.le_refl _) (.string s2)
      clear p3 c3 b4 p4 c4 R3 E2
      go_wp2_with fail
      first
        | (refine bodyPost_ret (results_cell_row rfl _ _ w.heap.size 36 _ (0, 0) _ rfl p5 Tryz.underlying36 rfl (by kernel_rfl)) rfl ?_; exact ⟨rfl, c5⟩)
        | (refine bodyPost_ret (results_cell_row rfl _ _ w.heap.size 36 _ (0, 0) _ rfl p6 Tryz.underlying36 rfl (by kernel_rfl)) rfl ?_; exact ⟨rfl, c6⟩)

end Go.Proofs.YtaeiahkomdpcoaaGreatDoor.Page
end

section
/- hoardlaw24.rows, in plain Lean: versions in the order of their keys, none twice. -/
namespace Go.Proofs.YtaeiahkomdpcoaaGreatDoor.Page
open Go Go.Proofs.YtaeiahkomdpcoaaGreatDoor.Seq

def kB : ByteArray := ⟨#[107]⟩
def jB : ByteArray := ⟨#[106]⟩
def keyOf (v : Ver) : ByteArray := (prOf v).1
theorem keyOf_ne (v : Ver) : keyOf v ≠ none' := fun h => by
  have := congrArg (fun b : ByteArray => b.data.toList) h
  have e : (keyOf v).data.toList = Name.encL v.key := by unfold keyOf prOf; simp [Name.bs]
  simp only [e] at this
  unfold Name.encL none' at this
  cases this
def bef (v : Ver) (u : Ver) : Bool := lt (keyOf u) (keyOf v)
def insV (out : List Ver) (v : Ver) : List Ver :=
  if okB v = true then
    (if (out.dropWhile (bef v)).head?.map keyOf = some (keyOf v) then out else out.takeWhile (bef v) ++ v :: out.dropWhile (bef v))
  else out
def rowsV (l : List Ver) : List Ver := l.foldl insV []
theorem rowsV_snoc (l : List Ver) (v : Ver) : rowsV (l ++ [v]) = insV (rowsV l) v := by
  unfold rowsV
  rw [List.foldl_append]
  rfl
theorem insV_length (out : List Ver) (v : Ver) : (insV out v).length ≤ out.length + 1 := by
  unfold insV
  split
  · split
    · omega
    · have := congrArg List.length (List.takeWhile_append_dropWhile (p := bef v) (l := out))
      rw [List.length_append] at this
      rw [List.length_append, List.length_cons]
      omega
  · omega
/-- What holds of each version of a row. -/
def AllIn (b : ByteArray) (out : List Ver) : Prop := ∀ u ∈ out, okB u = true ∧ u.bk = b ∧ u.n ≤ Name.top
theorem insV_all {b : ByteArray} {out : List Ver} {v : Ver} (h : AllIn b out) (hv : v.bk = b) (hn : v.n ≤ Name.top) : AllIn b (insV out v) := by
  unfold insV
  split
  · rename_i ho
    split
    · exact h
    · intro u hu
      rcases List.mem_append.1 hu with hu | hu
      · exact h u (List.takeWhile_subset _ hu)
      · rcases List.mem_cons.1 hu with rfl | hu
        · exact ⟨ho, hv, hn⟩
        · exact h u (List.dropWhile_subset _ hu)
  · exact h
def SrtK (out : List Ver) : Prop := out.Pairwise fun a b => lt (keyOf a) (keyOf b) = true
theorem insV_srt {out : List Ver} {v : Ver} (h : SrtK out) : SrtK (insV out v) := by
  unfold insV
  split
  · split
    · exact h
    · rename_i hne
      have h0 : SrtK (out.takeWhile (bef v) ++ out.dropWhile (bef v)) := by rw [List.takeWhile_append_dropWhile]; exact h
      obtain ⟨h1, h2, h3⟩ := List.pairwise_append.1 h0
      have ha : ∀ u ∈ out.takeWhile (bef v), lt (keyOf u) (keyOf v) = true := fun u hu => by
        exact List.all_eq_true.1 (List.all_takeWhile (p := bef v) (l := out)) u hu
      have hb : ∀ u ∈ out.dropWhile (bef v), lt (keyOf v) (keyOf u) = true := by
        cases hd : out.dropWhile (bef v) with
        | nil => intro u hu; cases hu
        | cons x xs =>
          rw [hd] at hne h2
          have hx : bef v x = false := by
            have := List.head?_dropWhile_not (bef v) out
            rw [hd] at this
            simpa using this
          have hxv : lt (keyOf v) (keyOf x) = true := by
            rcases lt_tri hx with h4 | h4
            · exact absurd (by rw [h4]; rfl) hne
            · exact h4
          intro u hu
          rcases List.mem_cons.1 hu with rfl | hu
          · exact hxv
          · exact lt_trans hxv ((List.pairwise_cons.1 h2).1 u hu)
      refine List.pairwise_append.2 ⟨h1, List.pairwise_cons.2 ⟨hb, h2⟩, fun u hu w hw => ?_⟩
      rcases List.mem_cons.1 hw with rfl | hw
      · exact ha u hu
      · exact h3 u hu w hw
  · exact h

theorem key_names {a b : Ver} (ha : a.Ok) (hb : b.Ok) (hk : a.bk = b.bk) (h : lt (keyOf a) (keyOf b) = true) : lt b.nm a.nm = false := by
  rw [lt_cmp, decide_eq_true_iff] at h
  have ea : (keyOf a).data.toList = Name.encL a.key := by unfold keyOf prOf; simp [Name.bs]
  have eb : (keyOf b).data.toList = Name.encL b.key := by unfold keyOf prOf; simp [Name.bs]
  rw [ea, eb, Name.cmpL_enc ha.k hb.k ha.n hb.n] at h
  unfold Name.cmpK Ver.key at h
  simp only [hk, Name.cmpL_self] at h
  rw [show Name.cmpN 3 3 = 0 from by decide, Name.zero_orZ, Name.zero_orZ] at h
  rw [lt_cmp, decide_eq_false_iff_not, Name.cmpL_neg a.nm.data.toList b.nm.data.toList]
  unfold Name.orZ at h
  split at h
  · omega
  · omega
theorem okB_name {v : Ver} (h : okB v = true) : v.nm ≠ none' := fun e => by
  unfold okB at h
  rw [Bool.and_eq_true] at h
  have h3 := (Name.may_facts h.1).2.2.2.1 rfl
  unfold Name.objectL Ver.key at h3
  simp only [e, decide_eq_true_eq] at h3
  have : none'.data.toList.length = 0 := rfl
  omega
theorem srt_names {b : ByteArray} {out : List Ver} (h : SrtK out) (ha : AllIn b out) : Srt out := by
  refine List.Pairwise.imp_of_mem ?_ h
  intro x y hx hy hxy
  exact key_names (okB_ok (ha x hx).1 (ha x hx).2.2) (okB_ok (ha y hy).1 (ha y hy).2.2) ((ha x hx).2.1.trans (ha y hy).2.1.symm) hxy
theorem fold_facts {b : ByteArray} : ∀ (l acc : List Ver), (∀ v ∈ l, v.bk = b ∧ v.n ≤ Name.top) → AllIn b acc → SrtK acc → AllIn b (l.foldl insV acc) ∧ SrtK (l.foldl insV acc) ∧ (l.foldl insV acc).length ≤ acc.length + l.length
  | [], acc, _, h1, h2 => ⟨h1, h2, by simp⟩
  | v :: l, acc, h, h1, h2 => by
    have hv := h v List.mem_cons_self
    obtain ⟨i1, i2, i3⟩ := fold_facts l (insV acc v) (fun u hu => h u (List.mem_cons_of_mem _ hu)) (insV_all h1 hv.1 hv.2) (insV_srt h2)
    refine ⟨i1, i2, ?_⟩
    have := insV_length acc v
    simp only [List.foldl_cons, List.length_cons]
    omega
theorem rowsV_facts {b : ByteArray} (l : List Ver) (h : ∀ v ∈ l, v.bk = b ∧ v.n ≤ Name.top) : AllIn b (rowsV l) ∧ SrtK (rowsV l) ∧ (rowsV l).length ≤ l.length := by
  have := fold_facts l [] h (fun u hu => by cases hu) .nil
  simpa [rowsV] using this
theorem itemsOf_self {b : ByteArray} {vs : List Ver} (h : ∀ v ∈ vs, v.bk = b) : itemsOf b vs = vs := List.filter_eq_self.2 fun v hv => by simpa using h v hv
theorem itemsOf_none {b : ByteArray} {vs : List Ver} (h : ∀ v ∈ vs, v.bk ≠ b) : itemsOf b vs = [] := List.filter_eq_nil_iff.2 fun v hv => by simpa using h v hv
theorem itemsOf_app (b : ByteArray) (xs ys : List Ver) : itemsOf b (xs ++ ys) = itemsOf b xs ++ itemsOf b ys := List.filter_append ..

/-- Where the walk along a row stands still. -/
theorem tw_at {p : Ver → Bool} {out : List Ver} {k : Nat} (hk : k ≤ out.length) (h1 : ∀ j (hj : j < out.length), j < k → p out[j] = true) (h2 : ∀ (h : k < out.length), p out[k] = false) : out.takeWhile p = out.take k ∧ out.dropWhile p = out.drop k := by
  induction out generalizing k with
  | nil => simp at hk; subst hk; exact ⟨rfl, rfl⟩
  | cons u us ih =>
    cases k with
    | zero =>
      have := h2 (by simp)
      simp only [List.getElem_cons_zero] at this
      simp [this]
    | succ k =>
      have h0 := h1 0 (by simp) (by omega)
      simp only [List.getElem_cons_zero] at h0
      obtain ⟨i1, i2⟩ := ih (k := k) (by simpa using hk) (fun j hj hjk => by have := h1 (j + 1) (by simpa using hj) (by omega); simpa using this) (fun h => by have := h2 (by simpa using h); simpa using this)
      simp [h0, i1, i2]

end Go.Proofs.YtaeiahkomdpcoaaGreatDoor.Page
end

section
/- The document's example, in plain Lean: what pages its four pairs have. -/
namespace Go.Proofs.YtaeiahkomdpcoaaGreatDoor.Page
open Go Go.Proofs.YtaeiahkomdpcoaaGreatDoor.Seq

def aN : ByteArray := ⟨#[97]⟩
def wv0 : Ver := ⟨kB, aN, 3, ⟨#[120, 121, 122]⟩, false⟩
def wv1 : Ver := ⟨kB, aN, 1, ⟨#[]⟩, true⟩
def wv2 : Ver := ⟨kB, ⟨#[98]⟩, 2, ⟨#[]⟩, true⟩
def wv3 : Ver := ⟨kB, ⟨#[99]⟩, 4, ⟨#[]⟩, false⟩
def wvs : List Ver := [wv0, wv1, wv2, wv3]
theorem ok0 : okB wv0 = true := by kernel_rfl
theorem ok1 : okB wv1 = true := by kernel_rfl
theorem ok2 : okB wv2 = true := by kernel_rfl
theorem ok3 : okB wv3 = true := by kernel_rfl
theorem wvs_ok : ∀ v ∈ wvs, v.Ok := fun v hv => by
  unfold wvs at hv
  simp only [List.mem_cons, List.not_mem_nil, or_false] at hv
  rcases hv with rfl | rfl | rfl | rfl
  · exact okB_ok ok0 (by decide)
  · exact okB_ok ok1 (by decide)
  · exact okB_ok ok2 (by decide)
  · exact okB_ok ok3 (by decide)
theorem pair0 : pairS wv0 = prOf wv0 := by unfold pairS; rw [if_pos ok0]
theorem pair1 : pairS wv1 = prOf wv1 := by unfold pairS; rw [if_pos ok1]
theorem pair2 : pairS wv2 = prOf wv2 := by unfold pairS; rw [if_pos ok2]
theorem pair3 : pairS wv3 = prOf wv3 := by unfold pairS; rw [if_pos ok3]
theorem w_items : itemsOf kB wvs = wvs := List.filter_eq_self.2 fun v hv => by
  unfold wvs at hv
  simp only [List.mem_cons, List.not_mem_nil, or_false] at hv
  rcases hv with rfl | rfl | rfl | rfl <;> rfl
theorem w_sel1 : cutP 1 (sel none' none' none' (itemsOf kB wvs)) = ([wv0], true) := by
  rw [w_items]
  unfold cutP wvs sel sel sel sel sel okV
  simp only [lt_cmp]
  rfl
theorem w_sel2 : cutP 5 (sel none' aN none' (itemsOf kB wvs)) = ([wv3], false) := by
  rw [w_items]
  unfold cutP wvs sel sel sel sel sel okV
  simp only [lt_cmp]
  rfl
theorem w_selV : cutP 5 (selV aN 0 (itemsOf kB wvs)) = ([wv0, wv1], false) := by
  rw [w_items]
  rfl
theorem w_any3 : ((wvs.map prOf).any fun p => pfx ⟨#[3, 107]⟩ p.1) = true := by kernel_rfl
theorem w_any2 : ((wvs.map prOf).any fun p => pfx ⟨#[2]⟩ p.1) = false := by kernel_rfl
theorem w_len0 : wv0.len = 3 := rfl

end Go.Proofs.YtaeiahkomdpcoaaGreatDoor.Page
end

section
/- page.Names over merge.Of's iterator. -/
namespace Go.Proofs.YtaeiahkomdpcoaaGreatDoor.Page
open Go Go.RowKit Go.Conc Go.Proofs.YtaeiahkomdpcoaaGreatDoor.Seq Go.Proofs.YtaeiahkomdpcoaaGreatDoor.Chan

attribute [local go_sem] Oper.semAt_some

set_option maxHeartbeats 4000000 in
set_option maxRecDepth 100000 in
theorem names_gen (sv : Value) (hsv : sv = .nilFunc ∨ ∃ f x y, sv = .func f x y) (xs : List Ver) (b pre aft : ByteArray) (most : Nat) (w : World)
    (hseq : ∀ Bs Bb, SeqO Fence.wide 19 Tryz.prog 29 #[.pointer (some ⟨Bs, 0, none⟩), .pointer (some ⟨Bb, 0, none⟩)] (fun v : Ver => #[v.item]) w.heap.size (fun i => i = Bs ∨ i = Bb) xs (fun W => W.cell? ⟨Bs, 0, none⟩ = some sv ∧ W.cell? ⟨Bb, 0, none⟩ = some (.string b) ∧ Below w.heap.size w W))
    (hb : Name.bucketL b.data.toList = true) (hbs : b.size ≤ 1000) (h1 : pre.size ≤ 200) (h2 : aft.size ≤ 200) (hm1 : 1 ≤ most) (hm2 : most ≤ 256) :
    Calls Tryz.prog 5 #[sv, .string b, .string pre, .string aft, .int .i64 (most : Int)] w fun e w' => PageR w (cutP most (sel pre aft none' (xs))) e w' := by
  have HB := Lib.hid (fun W => callsIn_wide (n := 19).2 (Name.bucket_calls b W (by omega)))
  have HI := Lib.hid (fun W => callsIn_wide (n := 19).2 (items_calls sv b W hsv))
  rw [hb] at HB
  have hmc := make_chan most hm2
  have e1 : decide (200 < (pre.size : Int)) = false := decide_eq_false (by omega)
  have e2 : decide (200 < (aft.size : Int)) = false := decide_eq_false (by omega)
  have e3 : decide ((most : Int) < 1) = false := decide_eq_false (by omega)
  have e4 : decide (256 < (most : Int)) = false := decide_eq_false (by omega)
  refine callsIn_wide (n := 20).1 (callsIn_of_wp_marks Tryz.func5 rfl trivial ?_ rfl)
  simp only [Tryz.ntmps5, List.size_toArray, List.length_cons, List.length_nil, Nat.reduceAdd, Nat.reduceSub, Array.replicate_succ, Array.replicate_zero, List.push_toArray, List.append_toArray, List.nil_append, List.cons_append]
  gi_wp2
  refine wpIn_scope_straight ?_
  gi_wp2
  obtain ⟨W4, hW4⟩ : ∃ W4, W4 = (((w.alloc (.cells #[.string pre] 9)).alloc (.cells #[.string aft] 9)).alloc (.cells #[.slice none 0 0, .bool false] 25)).alloc (.cells #[.bool false] 4) := ⟨_, rfl⟩
  have hs4 : W4.heap.size = w.heap.size + 4 := by rw [hW4]; simp
  have B4 : Below w.heap.size w W4 := by rw [hW4]; exact below_alloc (below_alloc (below_alloc (below_one w _) _) _) _
  have x0 : Boxed W4 w.heap.size 9 (.string pre) := by
    rw [hW4]; exact (((Boxed.new w _ _).kept (below_grown0 (below_one _ _)) (by simp)).kept (below_grown0 (below_one _ _)) (by simp)).kept (below_grown0 (below_one _ _)) (by simp)
  have x1 : Boxed W4 (w.heap.size + 1) 9 (.string aft) := by
    have := ((Boxed.new (w.alloc (.cells #[.string pre] 9)) 9 (.string aft)).kept (below_grown0 (below_one _ (.cells #[.slice none 0 0, .bool false] 25))) (by simp)).kept (below_grown0 (below_one _ (.cells #[.bool false] 4))) (by simp)
    rw [World.size_alloc, ← hW4] at this; exact this
  have x2 : PgRow W4 (w.heap.size + 1 + 1) none 0 0 false := by
    have := (pgRow_new ((w.alloc (.cells #[.string pre] 9)).alloc (.cells #[.string aft] 9)) none 0 0 false).below (below_one _ (.cells #[.bool false] 4))
    rw [World.size_alloc, World.size_alloc, ← hW4] at this; exact this
  have x3 : Boxed W4 (w.heap.size + 1 + 1 + 1) 4 (.bool false) := by
    have := Boxed.new (((w.alloc (.cells #[.string pre] 9)).alloc (.cells #[.string aft] 9)).alloc (.cells #[.slice none 0 0, .bool false] 25)) 4 (.bool false)
    rw [World.size_alloc, World.size_alloc, World.size_alloc, ← hW4] at this; exact this
  rw [← hW4]
  clear hW4
  refine ⟨trivial, (HB.out W4).mono ?_⟩
  rintro e W5 ⟨rfl, hb5⟩
  have g5 := below_grown0 hb5
  have y0 := x0.kept g5 (by simp)
  have y1 := x1.kept g5 (by simp)
  have y2 := x2.grown g5 (by simp)
  have y3 := x3.kept g5 (by simp)
  have B5 := B4.trans (hb5.mono (by omega))
  have hs5 : w.heap.size + 4 ≤ W5.heap.size := by have := hb5.size; omega
  have c0 := y0.cell
  have c1 := y1.cell
  clear x0 x1 x2 x3 B4 hb5 hs4 g5
  gi_wp2
  refine wpIn_label ?_
  gi_wp2
  obtain ⟨m, hm⟩ : ∃ m, m = W5.heap.size := ⟨_, rfl⟩
  rw [← hm]
  obtain ⟨W6, hW6⟩ : ∃ W6, W6 = ((W5.alloc (.chan most #[] false 0 0 false)).alloc (.cells #[.chan (some m)] 46)).alloc (.cells #[.string ⟨#[]⟩] 9) := ⟨_, rfl⟩
  have hs6 : W6.heap.size = m + 3 := by rw [hW6, hm]; simp
  have bd : Below W5.heap.size W5 W6 := by rw [hW6]; exact below_alloc (below_alloc (below_one _ _) _) _
  have z4 : ChRow W6 m most [] false := ⟨0, 0, by
    rw [hW6, hm, Below.heap_alloc _ _ _ (by simp; omega), Below.heap_alloc _ _ _ (by simp)]
    exact (World.alloc_heap_new W5 _)⟩
  have z5 : Boxed W6 (m + 1) 46 (.chan (some m)) := by
    have := (Boxed.new (W5.alloc (.chan most #[] false 0 0 false)) 46 (.chan (some m))).kept (below_grown0 (below_one _ (.cells #[.string ⟨#[]⟩] 9))) (by simp)
    rw [World.size_alloc, ← hm, ← hW6] at this; exact this
  have z6 : Boxed W6 (m + 1 + 1) 9 (.string none') := by
    have := Boxed.new ((W5.alloc (.chan most #[] false 0 0 false)).alloc (.cells #[.chan (some m)] 46)) 9 (.string none')
    rw [World.size_alloc, World.size_alloc, ← hm] at this; rw [hW6]; exact this
  have g6 := below_grown0 bd
  have S6 : St w.heap.size m most 9 (.string aft) w pre [] false W6 :=
    ⟨B5.trans (bd.mono (by omega)), y0.kept g6 (by simp), y1.kept g6 (by simp), y2.grown g6 (by simp), y3.kept g6 (by simp), z4, z5⟩
  rw [← hW6]
  have hm4 : w.heap.size + 4 ≤ m := by omega
  clear hW6 z4 z5 y0 y1 y2 y3 B5 hs5 c0 c1 bd g6 hm hmc e1 e2 e3 e4
  refine ⟨trivial, (HI.out W6).mono ?_⟩
  rintro e W7 ⟨rfl, hW7⟩
  have b7 : Below W6.heap.size W6 W7 := by rw [hW7]; exact below_alloc (below_one _ _) _
  have hs7 : W7.heap.size = m + 5 := by rw [hW7]; simp; omega
  have k1 : W7.cell? ⟨W6.heap.size, 0, none⟩ = some sv := by
    rw [hW7, World.cell?_of_block (Below.heap_alloc _ _ _ (by simp)), Joins.cell_of_block (MapKept.heap_alloc W6 _).1]; rfl
  have k2 : W7.cell? ⟨W6.heap.size + 1, 0, none⟩ = some (.string b) := by
    have := (Boxed.new (W6.alloc (.cells #[sv] 40)) 9 (.string b)).cell
    rw [World.size_alloc] at this
    rw [hW7]; exact this
  have S7 := S6.grown (below_grown0 b7) hm4 (fun _ e => by cases e)
  have z7 := z6.kept (below_grown0 b7) (by simp)
  have r7 := And.intro k1 (And.intro k2 S7.below)
  clear hW7 S6 z6 b7 k1 k2
  rw [hs6] at r7
  rw [hs6]
  clear hs6 HB HI
  gi_wp2
  refine wpIn_act (fun a0 ha0 => ?_)
  have q7 : St w.heap.size m most 9 (.string aft) w pre (sel pre aft none' []) false W7 := S7
  clear S7
  refine wpIn_rangeFunc_O rfl (by omega) (gf := 29) (lb := #[.pointer (some ⟨m + 3, 0, none⟩), .pointer (some ⟨m + 3 + 1, 0, none⟩)]) (by rw [ha0]; rfl) trivial (enters_of Tryz.func29 (by kernel_rfl) rfl)
    (hseq (m + 3) (m + 3 + 1)) (by omega)
    (fun W' hb => ⟨(hb.cell (p := ⟨m + 3, 0, none⟩) (by show m + 3 < _; omega)).trans r7.1, (hb.cell (p := ⟨m + 3 + 1, 0, none⟩) (by show m + 3 + 1 < _; omega)).trans r7.2.1, r7.2.2.trans (hb.mono (by omega))⟩) (fun _ => rfl)
    (fun O (ps : List Ver) W' => (∀ i, O i → m + 3 ≤ i ∧ i < W'.heap.size) ∧ m + 5 ≤ W'.heap.size ∧ (sel pre aft none' ps).length ≤ most ∧ St w.heap.size m most 9 (.string aft) w pre (sel pre aft none' ps) false W' ∧ Boxed W' (m + 1 + 1) 9 (.string (lastN none' ps)))
    (fun cd O (_ : List Ver) W' => cd = .exit 0 ∧ (∀ i, O i → m + 3 ≤ i ∧ i < W'.heap.size) ∧ m + 5 ≤ W'.heap.size ∧ ∃ out, Hid (cutP most (sel pre aft none' (xs)) = (out, true)) ∧ out.length ≤ most ∧ St w.heap.size m most 9 (.string aft) w pre out true W')
    (fun O ps X Y ⟨h1, h2, h3, h4, h5⟩ ho => ⟨fun i hi => by
      have := ho.size
      rcases hi with h | h
      · have := h1 i h; omega
      · omega, Nat.le_trans h2 ho.size, h3, h4.off ho hm4 (fun i hi h => by have := h1 i h; omega), box_off h5 ho (fun h => by have := h1 _ h; omega)⟩)
    (fun cd O ps X Y ⟨h1, h2, hs, out, h3, h4, h5⟩ ho => ⟨h1, fun i hi => by
      have := ho.size
      rcases hi with h | h
      · have := h2 i h; omega
      · omega, Nat.le_trans hs ho.size, out, h3, h4, h5.off ho hm4 (fun i hi h => by have := h2 i h; omega)⟩)
    (fun i => i = m + 3 ∨ i = m + 3 + 1) (fun i h => by omega) (fun i h => h) ⟨fun i hi => by omega, by omega, Nat.zero_le _, q7, z7⟩
    (fun O x a' W' => ∃ nb, a' = { tmps := (a0.tmps.setIfInBounds 44 x.item).setIfInBounds 15 (.pointer (some ⟨nb, 0, none⟩)), defers := [] } ∧ m + 5 ≤ nb ∧ ¬ O nb ∧ W'.heap[nb]? = some (.cells #[.string x.nm, .int .u64 (x.n : Int), .int .i64 x.len, .bool x.gone] 44 (0, 0)))
    (fun x O a' X Y ⟨nb, h1, h2, h3, h4⟩ ho => ⟨nb, h1, h2, fun h => h.elim h3 (fun h => by have := (Array.getElem?_eq_some_iff.1 h4).1; omega), (ho.block _ (Array.getElem?_eq_some_iff.1 h4).1 h3).trans h4⟩) ?assign ?body ?done ?stop
  case assign =>
    intro l1 O1 ps x W1 K hi hK
    have hb := below_one W1 (.cells #[.string x.nm, .int .u64 (x.n : Int), .int .i64 x.len, .bool x.gone] 44)
    have hx := (MapKept.heap_alloc W1 (.cells #[.string x.nm, .int .u64 (x.n : Int), .int .i64 x.len, .bool x.gone] 44)).1
    obtain ⟨h1, h2, h3, h4, h5⟩ := hi
    have hK' := hK { tmps := (a0.tmps.setIfInBounds 44 x.item).setIfInBounds 15 (.pointer (some ⟨W1.heap.size, 0, none⟩)), defers := [] } _ (kept_of_below hb (by omega)) ⟨fun i hi => by have := h1 i hi; simp; omega, by simp; omega, h3, h4.grown (below_grown0 hb) hm4 (fun _ e => by cases e), h5.kept (below_grown0 hb) (by simp)⟩
      ⟨W1.heap.size, rfl, h2, fun h => by have := h1 _ h; omega, hx⟩
    rw [ha0] at hK' ⊢
    simp only [Ver.item, List.zip_toArray, List.zip_cons_cons, List.zip_nil_right, List.foldl_toArray', List.foldl_cons, List.foldl_nil, List.setIfInBounds_toArray, List.set_cons_succ, List.set_cons_zero] at hK' ⊢
    clear hK
    gi_wp2
    exact hK'
  case body =>
    rintro l1 O1 ps x rest a' W1 hxs ⟨hN, hS, hl, hSt, hL⟩ ⟨nb, rfl, hnb, hnO, hX⟩
    have gL := grown_one W1 ⟨m + 1 + 1, 0, none⟩ (.string x.nm)
    have S2 := hSt.grown gL hm4 (fun r e => by have : m + 1 + 1 = r := Option.some.inj e; omega)
    have L2 := box_set hL (.string x.nm)
    have K2 : Kept O1 w.heap.size W1 _ := kept_grown gL (fun h => by have : m + 3 ≤ m + 1 + 1 := (hN _ h).1; omega) (by show w.heap.size ≤ m + 1 + 1; omega) (by omega)
    have X2 := (gL.block nb (Array.getElem?_eq_some_iff.1 hX).1 (fun e => by have : nb = m + 1 + 1 := Option.some.inj e; omega)).trans hX
    have x0 : W1.cell? ⟨nb, 0, none⟩ = some (.string x.nm) := by rw [Joins.cell_of_block hX]; rfl
    have y0 : (W1.setCell ⟨m + 1 + 1, 0, none⟩ (.string x.nm)).cell? ⟨nb, 0, none⟩ = some (.string x.nm) := by rw [Joins.cell_of_block X2]; rfl
    have y1 : (W1.setCell ⟨m + 1 + 1, 0, none⟩ (.string x.nm)).cell? ⟨nb, 1, none⟩ = some (.int .u64 (x.n : Int)) := by rw [Joins.cell_of_block X2]; rfl
    have y2 : (W1.setCell ⟨m + 1 + 1, 0, none⟩ (.string x.nm)).cell? ⟨nb, 2, none⟩ = some (.int .i64 x.len) := by rw [Joins.cell_of_block X2]; rfl
    have y3 : (W1.setCell ⟨m + 1 + 1, 0, none⟩ (.string x.nm)).cell? ⟨nb, 3, none⟩ = some (.bool x.gone) := by rw [Joins.cell_of_block X2]; rfl
    have l0 := hL.cell
    have l1' := hL.frozen
    have c0 := S2.b0.cell
    have c1 := S2.b1.cell
    have c5 := S2.b5.cell
    have s2 : m + 5 ≤ (W1.setCell ⟨m + 1 + 1, 0, none⟩ (.string x.nm)).heap.size := by simp [World.setCell]; omega
    have hN2 : ∀ i, O1 i → m + 3 ≤ i ∧ i < (W1.setCell ⟨m + 1 + 1, 0, none⟩ (.string x.nm)).heap.size := fun i hi => by have := hN i hi; simp [World.setCell]; omega
    have hsn := sel_snoc pre aft none' ps x
    have hln := lastN_snoc none' ps x
    obtain ⟨last, qlast⟩ : ∃ l, l = lastN none' ps := ⟨_, rfl⟩
    rw [← qlast] at hL l0 hsn
    obtain ⟨os, qos⟩ : ∃ l, l = sel pre aft none' ps := ⟨_, rfl⟩
    rw [← qos] at hl hSt S2 hsn
    have HSN := Lib.hid hsn
    have HLN := Lib.hid hln
    have HXS := Lib.hid hxs
    have HQ := Lib.hid qlast
    have HO := Lib.hid qos
    clear hsn hln hxs hSt hL hX gL qlast qos X2
    rw [ha0]
    simp only [Ver.item, List.setIfInBounds_toArray, List.set_cons_succ, List.set_cons_zero]
    clear ha0
    have hskip : okV pre aft last x = false → (sel pre aft none' (ps ++ [x])).length ≤ most ∧ St w.heap.size m most 9 (.string aft) w pre (sel pre aft none' (ps ++ [x])) false (W1.setCell ⟨m + 1 + 1, 0, none⟩ (.string x.nm)) ∧ Boxed (W1.setCell ⟨m + 1 + 1, 0, none⟩ (.string x.nm)) (m + 1 + 1) 9 (.string (lastN none' (ps ++ [x]))) := fun h => by
      rw [HSN.out, h, HLN.out, if_neg (by simp), List.append_nil]
      exact ⟨hl, S2, L2⟩
    obtain ⟨g, qg⟩ : ∃ g, g = x.gone := ⟨_, rfl⟩
    rw [← qg] at y3 ⊢
    have HG := Lib.hid qg
    clear qg
    by_cases q1 : x.nm = last
    · have h1 : (x.nm.toList == last.toList) = true := by rw [q1]; simp
      have Q1 := Lib.hid q1
      clear q1
      gi_wp2
      exact ⟨K2, hN2, s2, hskip (by unfold okV; simp [Q1.out])⟩
    · have h1 : (x.nm.toList == last.toList) = false := by
        rw [ByteArray.toList_eq, ByteArray.toList_eq, beq_eq_false_iff_ne]
        exact fun h => q1 (ByteArray.ext (Array.toList_inj.1 h))
      have Q1 := Lib.hid q1
      clear q1
      cases g
      case true =>
        gi_wp2
        exact ⟨K2, hN2, s2, hskip (by unfold okV; simp [← HG.out])⟩
      case false =>
        rcases leq_ways x.nm aft with ⟨w1, w2, w3⟩ | ⟨w1, w2, w3⟩ | ⟨w1, w2, w3⟩
        case inr.inl =>
          have W1' := Lib.hid w1
          clear w1
          gi_wp2
          exact ⟨K2, hN2, s2, hskip (by unfold okV; simp [W1'.out])⟩
        case inr.inr =>
          have W1' := Lib.hid w1
          clear w1
          gi_wp2
          exact ⟨K2, hN2, s2, hskip (by unfold okV; simp [W1'.out])⟩
        case inl =>
          have W1' := Lib.hid w1
          clear w1
          gi_wp2
          refine ⟨trivial, (CallsIn.inRound l1 (callsIn_wide.2 (hasPrefix_calls x.nm pre _))).mono ?_⟩
          rintro e W3 ⟨rfl, hW3⟩
          rw [hW3]
          clear hW3
          obtain ⟨bp, qbp⟩ : ∃ bp, bp = pfx pre x.nm := ⟨_, rfl⟩
          rw [← qbp]
          have HP := Lib.hid qbp
          clear qbp
          cases bp
          case false =>
            gi_wp2
            exact ⟨K2, hN2, s2, hskip (by unfold okV; simp [← HP.out])⟩
          case true =>
            have hokV : okV pre aft last x = true := by
              unfold okV
              rw [W1'.out, ← HP.out, ← HG.out, decide_eq_false Q1.out]; rfl
            have HOK := Lib.hid hokV
            clear hokV
            by_cases hroom : os.length < most
            · have hP := put_st x S2 hm4 hroom
              rw [← HG.out] at hP
              gi_wp2
              refine ⟨trivial, (CallsIn.inRound l1 (callsIn_wide.2 hP)).mono ?_⟩
              rintro e W4 ⟨rfl, S4, g4⟩
              have L4 := L2.kept g4 (fun e => by have : m + 1 + 1 = m := Option.some.inj e; omega)
              have K4 := K2.trans (kept_grown (O := O1) (n₀ := w.heap.size) g4 (fun h => by have := (hN2 _ h).1; omega) (by omega) (by omega))
              have hs4 := g4.size
              have hN4 : ∀ i, O1 i → m + 3 ≤ i ∧ i < W4.heap.size := fun i hi => by have := hN2 i hi; omega
              clear hP
              gi_wp2
              refine ⟨K4, hN4, Nat.le_trans s2 hs4, ?_⟩
              rw [HSN.out, HLN.out, if_pos HOK.out]
              exact ⟨by rw [List.length_append]; simp; omega, S4, L4⟩
            · have hfull : os.length = most := by omega
              have hP := put_st_full x S2 hm4 hfull
              rw [← HG.out] at hP
              gi_wp2
              refine ⟨trivial, (CallsIn.inRound l1 (callsIn_wide.2 hP)).mono ?_⟩
              rintro e W4 ⟨rfl, S4, b4⟩
              have hs4 := b4.size
              have d3 := S4.b3.cell
              have f3 := S4.b3.frozen
              have S5 := S4.setMore hm4 true
              have K5 := (K2.trans (kept_of_below (O := O1) (n₀ := w.heap.size) b4 (by omega))).trans (kept_grown (O := O1) (n₀ := w.heap.size) (grown_one W4 ⟨w.heap.size + 1 + 1 + 1, 0, none⟩ (.bool true)) (fun h => by have : m + 3 ≤ w.heap.size + 1 + 1 + 1 := (hN2 _ h).1; omega) (by show w.heap.size ≤ w.heap.size + 1 + 1 + 1; omega) (by omega))
              have hN5 : ∀ i, O1 i → m + 3 ≤ i ∧ i < (W4.setCell ⟨w.heap.size + 1 + 1 + 1, 0, none⟩ (.bool true)).heap.size := fun i hi => by have h := (hN2 i hi).2; exact ⟨(hN2 i hi).1, Nat.lt_of_lt_of_le h (by simpa [World.setCell] using hs4)⟩
              have s5 : m + 5 ≤ (W4.setCell ⟨w.heap.size + 1 + 1 + 1, 0, none⟩ (.bool true)).heap.size := by simp [World.setCell] at s2 hs4 ⊢; omega
              have hcut : Hid (cutP most (sel pre aft none' (xs)) = (os, true)) := by
                have h := sel_stop (p := pre) (a := aft) (l := none') (most := most) HXS.out (by rw [← HO.out]; exact hfull) (by rw [← HQ.out]; exact HOK.out)
                rw [← HO.out] at h
                exact h
              clear hP
              gi_wp2
              exact ⟨K5, rfl, hN5, s5, os, hcut, by omega, S5⟩
  case done =>
    rintro O1 D W1 hD hOD ⟨hN, hS, hl, hSt, hL⟩ hK
    obtain ⟨os, qos⟩ : ∃ l, l = sel pre aft none' (xs) := ⟨_, rfl⟩
    rw [← qos] at hl hSt
    have HQ : Hid (cutP most (sel pre aft none' (xs)) = (os, false)) := by rw [← qos]; exact cut_all hl
    clear qos hL
    have hm' := hN D hOD
    have c3 := hSt.b3.cell
    have c5 := hSt.b5.cell
    have HW := Lib.hid (callsIn_wide (n := 19).2 (whole_calls m most os false W1 hSt.ch (by omega)))
    simp only [Exit.inBlock, Exit.then]
    rw [ha0]
    clear ha0
    gi_wp2
    refine ⟨trivial, HW.out.mono ?_⟩
    rintro e W2 ⟨A', cp', rfl, hI, hA, hg⟩
    have P2 := hSt.b2.grown hg (fun e => by have : m = w.heap.size + 1 + 1 := Option.some.inj e; omega)
    obtain ⟨p0, p1⟩ := P2.c
    have f0 := P2.f 0
    have f1 := P2.f 1
    have P3 := (P2.set0 A' os.length cp').set1 false
    have hDl := (Array.getElem?_eq_some_iff.1 hK).1
    have K2 := (hg.block D hDl (fun e => by have : D = m := Option.some.inj e; omega)).trans hK
    have K3 : ((W2.setCell ⟨w.heap.size + 1 + 1, 0, none⟩ (.slice A' os.length cp')).setCell ⟨w.heap.size + 1 + 1, 1, none⟩ (.bool false)).heap[D]? = some (.deferred (some [])) :=
      (Below.heap_setCell _ _ _ _ (by show D ≠ w.heap.size + 1 + 1; omega)).trans ((Below.heap_setCell _ _ _ _ (by show D ≠ w.heap.size + 1 + 1; omega)).trans K2)
    have hna : ∀ ad, A' = some ad → ad.block ≠ w.heap.size + 1 + 1 := fun ad h => by have := hA ad h; omega
    have hI3 := (hI.other ⟨w.heap.size + 1 + 1, 0, none⟩ hna (.slice A' os.length cp')).other ⟨w.heap.size + 1 + 1, 1, none⟩ hna (.bool false)
    have B2 := below_own hSt.below hg (by omega) (fun r e => by have : m = r := Option.some.inj e; omega)
    have B3 := (B2.setCell (p := ⟨w.heap.size + 1 + 1, 0, none⟩) (by show w.heap.size ≤ w.heap.size + 1 + 1; omega) (.slice A' os.length cp')).setCell (p := ⟨w.heap.size + 1 + 1, 1, none⟩) (by show w.heap.size ≤ w.heap.size + 1 + 1; omega) (.bool false)
    clear P2 K2 HW hSt hI B2 c3 c5
    gi_wp2
    exact ret_page HQ.out hA (by omega) hI3 P3 B3 ⟨by omega, by omega, fun ad h e => by have := hA ad h; omega⟩ K3 rfl rfl rfl
  case stop =>
    rintro O1 D cd ps x rest W1 hD hOD hxs ⟨rfl, hN, hS, os, HQ, hl, hSt⟩ hK
    have hm' := hN D hOD
    refine wpIn_exit ?_
    have c3 := hSt.b3.cell
    have c5 := hSt.b5.cell
    have HW := Lib.hid (callsIn_wide (n := 19).2 (whole_calls m most os true W1 hSt.ch (by omega)))
    simp only [Exit.inBlock, Exit.then]
    rw [ha0]
    clear ha0
    gi_wp2
    refine ⟨trivial, HW.out.mono ?_⟩
    rintro e W2 ⟨A', cp', rfl, hI, hA, hg⟩
    have P2 := hSt.b2.grown hg (fun e => by have : m = w.heap.size + 1 + 1 := Option.some.inj e; omega)
    obtain ⟨p0, p1⟩ := P2.c
    have f0 := P2.f 0
    have f1 := P2.f 1
    have P3 := (P2.set0 A' os.length cp').set1 true
    have hDl := (Array.getElem?_eq_some_iff.1 hK).1
    have K2 := (hg.block D hDl (fun e => by have : D = m := Option.some.inj e; omega)).trans hK
    have K3 : ((W2.setCell ⟨w.heap.size + 1 + 1, 0, none⟩ (.slice A' os.length cp')).setCell ⟨w.heap.size + 1 + 1, 1, none⟩ (.bool true)).heap[D]? = some (.deferred (some [])) :=
      (Below.heap_setCell _ _ _ _ (by show D ≠ w.heap.size + 1 + 1; omega)).trans ((Below.heap_setCell _ _ _ _ (by show D ≠ w.heap.size + 1 + 1; omega)).trans K2)
    have hna : ∀ ad, A' = some ad → ad.block ≠ w.heap.size + 1 + 1 := fun ad h => by have := hA ad h; omega
    have hI3 := (hI.other ⟨w.heap.size + 1 + 1, 0, none⟩ hna (.slice A' os.length cp')).other ⟨w.heap.size + 1 + 1, 1, none⟩ hna (.bool true)
    have B2 := below_own hSt.below hg (by omega) (fun r e => by have : m = r := Option.some.inj e; omega)
    have B3 := (B2.setCell (p := ⟨w.heap.size + 1 + 1, 0, none⟩) (by show w.heap.size ≤ w.heap.size + 1 + 1; omega) (.slice A' os.length cp')).setCell (p := ⟨w.heap.size + 1 + 1, 1, none⟩) (by show w.heap.size ≤ w.heap.size + 1 + 1; omega) (.bool true)
    clear P2 K2 HW hSt hI B2 c3 c5
    gi_wp2
    exact ret_page HQ.out hA (by omega) hI3 P3 B3 ⟨by omega, by omega, fun ad h e => by have := hA ad h; omega⟩ K3 rfl rfl rfl

theorem names_calls (B : Nat) (A : Option Addr) (c : Nat) (vs : List Ver) (b pre aft : ByteArray) (most : Nat) (w : World) (hok : ∀ v ∈ vs, v.Ok) (hreach : vs.length ≤ 100000) (hR : ItB w.heap.size B A c vs w)
    (hb : Name.bucketL b.data.toList = true) (hbs : b.size ≤ 1000) (h1 : pre.size ≤ 200) (h2 : aft.size ≤ 200) (hm1 : 1 ≤ most) (hm2 : most ≤ 256) :
    Calls Tryz.prog 5 #[ofV B, .string b, .string pre, .string aft, .int .i64 (most : Int)] w fun e w' => PageR w (cutP most (sel pre aft none' (itemsOf b vs))) e w' :=
  names_gen (ofV B) (.inr ⟨_, _, _, rfl⟩) (itemsOf b vs) b pre aft most w (fun Bs Bb l J Jx O W hW hRd => items_seq 19 (by omega) w.heap.size Bs Bb B A c b vs hok hreach l J Jx O W hW ⟨hRd.1, hRd.2.1, hR.below hRd.2.2⟩) hb hbs h1 h2 hm1 hm2

end Go.Proofs.YtaeiahkomdpcoaaGreatDoor.Page
end

section
/- page.Versions over merge.Of's iterator. -/
namespace Go.Proofs.YtaeiahkomdpcoaaGreatDoor.Page
open Go Go.RowKit Go.Conc Go.Proofs.YtaeiahkomdpcoaaGreatDoor.Seq Go.Proofs.YtaeiahkomdpcoaaGreatDoor.Chan

attribute [local go_sem] Oper.semAt_some

set_option maxHeartbeats 4000000 in
set_option maxRecDepth 100000 in
theorem versions_gen (sv : Value) (hsv : sv = .nilFunc ∨ ∃ f x y, sv = .func f x y) (xs : List Ver) (b pre : ByteArray) (aft : Nat) (most : Nat) (w : World)
    (hseq : ∀ Bs Bb, SeqO Fence.wide 19 Tryz.prog 29 #[.pointer (some ⟨Bs, 0, none⟩), .pointer (some ⟨Bb, 0, none⟩)] (fun v : Ver => #[v.item]) w.heap.size (fun i => i = Bs ∨ i = Bb) xs (fun W => W.cell? ⟨Bs, 0, none⟩ = some sv ∧ W.cell? ⟨Bb, 0, none⟩ = some (.string b) ∧ Below w.heap.size w W))
    (hb : Name.bucketL b.data.toList = true) (hbs : b.size ≤ 1000) (ho : Name.objectL pre.data.toList = true) (h1 : pre.size ≤ 200) (hm1 : 1 ≤ most) (hm2 : most ≤ 256) :
    Calls Tryz.prog 7 #[sv, .string b, .string pre, .int .u64 (aft : Int), .int .i64 (most : Int)] w fun e w' => PageR w (cutP most (selV pre aft (xs))) e w' := by
  have HB := Lib.hid (fun W => callsIn_wide (n := 19).2 (Name.bucket_calls b W (by omega)))
  have HI := Lib.hid (fun W => callsIn_wide (n := 19).2 (items_calls sv b W hsv))
  have HO1 := Lib.hid (fun W => callsIn_wide (n := 19).2 (Name.object_calls pre W (by omega)))
  rw [hb] at HB
  rw [ho] at HO1
  have hmc := make_chan most hm2
  have e3 : decide ((most : Int) < 1) = false := decide_eq_false (by omega)
  have e4 : decide (256 < (most : Int)) = false := decide_eq_false (by omega)
  refine callsIn_wide (n := 20).1 (callsIn_of_wp_marks Tryz.func7 rfl trivial ?_ rfl)
  simp only [Tryz.ntmps7, List.size_toArray, List.length_cons, List.length_nil, Nat.reduceAdd, Nat.reduceSub, Array.replicate_succ, Array.replicate_zero, List.push_toArray, List.append_toArray, List.nil_append, List.cons_append]
  gi_wp2
  refine wpIn_scope_straight ?_
  gi_wp2
  obtain ⟨W4, hW4⟩ : ∃ W4, W4 = (((w.alloc (.cells #[.string pre] 9)).alloc (.cells #[.int .u64 (aft : Int)] 31)).alloc (.cells #[.slice none 0 0, .bool false] 25)).alloc (.cells #[.bool false] 4) := ⟨_, rfl⟩
  have hs4 : W4.heap.size = w.heap.size + 4 := by rw [hW4]; simp
  have B4 : Below w.heap.size w W4 := by rw [hW4]; exact below_alloc (below_alloc (below_alloc (below_one w _) _) _) _
  have x0 : Boxed W4 w.heap.size 9 (.string pre) := by
    rw [hW4]; exact (((Boxed.new w _ _).kept (below_grown0 (below_one _ _)) (by simp)).kept (below_grown0 (below_one _ _)) (by simp)).kept (below_grown0 (below_one _ _)) (by simp)
  have x1 : Boxed W4 (w.heap.size + 1) 31 (.int .u64 (aft : Int)) := by
    have := ((Boxed.new (w.alloc (.cells #[.string pre] 9)) 31 (.int .u64 (aft : Int))).kept (below_grown0 (below_one _ (.cells #[.slice none 0 0, .bool false] 25))) (by simp)).kept (below_grown0 (below_one _ (.cells #[.bool false] 4))) (by simp)
    rw [World.size_alloc, ← hW4] at this; exact this
  have x2 : PgRow W4 (w.heap.size + 1 + 1) none 0 0 false := by
    have := (pgRow_new ((w.alloc (.cells #[.string pre] 9)).alloc (.cells #[.int .u64 (aft : Int)] 31)) none 0 0 false).below (below_one _ (.cells #[.bool false] 4))
    rw [World.size_alloc, World.size_alloc, ← hW4] at this; exact this
  have x3 : Boxed W4 (w.heap.size + 1 + 1 + 1) 4 (.bool false) := by
    have := Boxed.new (((w.alloc (.cells #[.string pre] 9)).alloc (.cells #[.int .u64 (aft : Int)] 31)).alloc (.cells #[.slice none 0 0, .bool false] 25)) 4 (.bool false)
    rw [World.size_alloc, World.size_alloc, World.size_alloc, ← hW4] at this; exact this
  rw [← hW4]
  clear hW4
  refine ⟨trivial, (HB.out W4).mono ?_⟩
  rintro e W5 ⟨rfl, hb5⟩
  have g5 := below_grown0 hb5
  have y0 := x0.kept g5 (by simp)
  have y1 := x1.kept g5 (by simp)
  have y2 := x2.grown g5 (by simp)
  have y3 := x3.kept g5 (by simp)
  have B5 := B4.trans (hb5.mono (by omega))
  have hs5 : w.heap.size + 4 ≤ W5.heap.size := by have := hb5.size; omega
  have c0 := y0.cell
  have c1 := y1.cell
  clear x0 x1 x2 x3 B4 hb5 hs4 g5
  gi_wp2
  refine ⟨trivial, (HO1.out W5).mono ?_⟩
  rintro e W5' ⟨rfl, hW5⟩
  rw [hW5]
  clear hW5
  gi_wp2
  refine wpIn_label ?_
  gi_wp2
  obtain ⟨m, hm⟩ : ∃ m, m = W5.heap.size := ⟨_, rfl⟩
  rw [← hm]
  obtain ⟨W6, hW6⟩ : ∃ W6, W6 = (W5.alloc (.chan most #[] false 0 0 false)).alloc (.cells #[.chan (some m)] 46) := ⟨_, rfl⟩
  have hs6 : W6.heap.size = m + 2 := by rw [hW6, hm]; simp
  have bd : Below W5.heap.size W5 W6 := by rw [hW6]; exact below_alloc (below_one _ _) _
  have z4 : ChRow W6 m most [] false := ⟨0, 0, by
    rw [hW6, hm, Below.heap_alloc _ _ _ (by simp)]
    exact (World.alloc_heap_new W5 _)⟩
  have z5 : Boxed W6 (m + 1) 46 (.chan (some m)) := by
    have := Boxed.new (W5.alloc (.chan most #[] false 0 0 false)) 46 (.chan (some m))
    rw [World.size_alloc, ← hm] at this; rw [hW6]; exact this
  have g6 := below_grown0 bd
  have S6 : St w.heap.size m most 31 (.int .u64 (aft : Int)) w pre [] false W6 :=
    ⟨B5.trans (bd.mono (by omega)), y0.kept g6 (by simp), y1.kept g6 (by simp), y2.grown g6 (by simp), y3.kept g6 (by simp), z4, z5⟩
  rw [← hW6]
  have hm4 : w.heap.size + 4 ≤ m := by omega
  clear hW6 z4 z5 y0 y1 y2 y3 B5 hs5 c0 c1 bd g6 hm hmc e3 e4 HO1
  refine ⟨trivial, (HI.out W6).mono ?_⟩
  rintro e W7 ⟨rfl, hW7⟩
  have b7 : Below W6.heap.size W6 W7 := by rw [hW7]; exact below_alloc (below_one _ _) _
  have hs7 : W7.heap.size = m + 4 := by rw [hW7]; simp; omega
  have k1 : W7.cell? ⟨W6.heap.size, 0, none⟩ = some sv := by
    rw [hW7, World.cell?_of_block (Below.heap_alloc _ _ _ (by simp)), Joins.cell_of_block (MapKept.heap_alloc W6 _).1]; rfl
  have k2 : W7.cell? ⟨W6.heap.size + 1, 0, none⟩ = some (.string b) := by
    have := (Boxed.new (W6.alloc (.cells #[sv] 40)) 9 (.string b)).cell
    rw [World.size_alloc] at this
    rw [hW7]; exact this
  have S7 := S6.grown (below_grown0 b7) hm4 (fun _ e => by cases e)
  have r7 := And.intro k1 (And.intro k2 S7.below)
  clear hW7 S6 b7 k1 k2
  rw [hs6] at r7
  rw [hs6]
  clear hs6 HB HI
  gi_wp2
  refine wpIn_act (fun a0 ha0 => ?_)
  have q7 : St w.heap.size m most 31 (.int .u64 (aft : Int)) w pre (selV pre aft []) false W7 := S7
  clear S7
  refine wpIn_rangeFunc_O rfl (by omega) (gf := 29) (lb := #[.pointer (some ⟨m + 2, 0, none⟩), .pointer (some ⟨m + 2 + 1, 0, none⟩)]) (by rw [ha0]; rfl) trivial (enters_of Tryz.func29 (by kernel_rfl) rfl)
    (hseq (m + 2) (m + 2 + 1)) (by omega)
    (fun W' hb => ⟨(hb.cell (p := ⟨m + 2, 0, none⟩) (by show m + 2 < _; omega)).trans r7.1, (hb.cell (p := ⟨m + 2 + 1, 0, none⟩) (by show m + 2 + 1 < _; omega)).trans r7.2.1, r7.2.2.trans (hb.mono (by omega))⟩) (fun _ => rfl)
    (fun O (ps : List Ver) W' => (∀ i, O i → m + 2 ≤ i ∧ i < W'.heap.size) ∧ m + 4 ≤ W'.heap.size ∧ (selV pre aft ps).length ≤ most ∧ St w.heap.size m most 31 (.int .u64 (aft : Int)) w pre (selV pre aft ps) false W')
    (fun cd O (_ : List Ver) W' => cd = .exit 0 ∧ (∀ i, O i → m + 2 ≤ i ∧ i < W'.heap.size) ∧ m + 4 ≤ W'.heap.size ∧ ∃ out, Hid (cutP most (selV pre aft (xs)) = (out, true)) ∧ out.length ≤ most ∧ St w.heap.size m most 31 (.int .u64 (aft : Int)) w pre out true W')
    (fun O ps X Y ⟨h1, h2, h3, h4⟩ ho => ⟨fun i hi => by
      have := ho.size
      rcases hi with h | h
      · have := h1 i h; omega
      · omega, Nat.le_trans h2 ho.size, h3, h4.off ho hm4 (fun i hi h => by have := h1 i h; omega)⟩)
    (fun cd O ps X Y ⟨h1, h2, hs, out, h3, h4, h5⟩ ho => ⟨h1, fun i hi => by
      have := ho.size
      rcases hi with h | h
      · have := h2 i h; omega
      · omega, Nat.le_trans hs ho.size, out, h3, h4, h5.off ho hm4 (fun i hi h => by have := h2 i h; omega)⟩)
    (fun i => i = m + 2 ∨ i = m + 2 + 1) (fun i h => by omega) (fun i h => h) ⟨fun i hi => by omega, by omega, Nat.zero_le _, q7⟩
    (fun O x a' W' => ∃ nb, a' = { tmps := (a0.tmps.setIfInBounds 37 x.item).setIfInBounds 14 (.pointer (some ⟨nb, 0, none⟩)), defers := [] } ∧ m + 4 ≤ nb ∧ ¬ O nb ∧ W'.heap[nb]? = some (.cells #[.string x.nm, .int .u64 (x.n : Int), .int .i64 x.len, .bool x.gone] 44 (0, 0)))
    (fun x O a' X Y ⟨nb, h1, h2, h3, h4⟩ ho => ⟨nb, h1, h2, fun h => h.elim h3 (fun h => by have := (Array.getElem?_eq_some_iff.1 h4).1; omega), (ho.block _ (Array.getElem?_eq_some_iff.1 h4).1 h3).trans h4⟩) ?assign ?body ?done ?stop
  case assign =>
    intro l1 O1 ps x W1 K hi hK
    have hb := below_one W1 (.cells #[.string x.nm, .int .u64 (x.n : Int), .int .i64 x.len, .bool x.gone] 44)
    have hx := (MapKept.heap_alloc W1 (.cells #[.string x.nm, .int .u64 (x.n : Int), .int .i64 x.len, .bool x.gone] 44)).1
    obtain ⟨h1, h2, h3, h4⟩ := hi
    have hK' := hK { tmps := (a0.tmps.setIfInBounds 37 x.item).setIfInBounds 14 (.pointer (some ⟨W1.heap.size, 0, none⟩)), defers := [] } _ (kept_of_below hb (by omega)) ⟨fun i hi => by have := h1 i hi; simp; omega, by simp; omega, h3, h4.grown (below_grown0 hb) hm4 (fun _ e => by cases e)⟩
      ⟨W1.heap.size, rfl, h2, fun h => by have := h1 _ h; omega, hx⟩
    rw [ha0] at hK' ⊢
    simp only [Ver.item, List.zip_toArray, List.zip_cons_cons, List.zip_nil_right, List.foldl_toArray', List.foldl_cons, List.foldl_nil, List.setIfInBounds_toArray, List.set_cons_succ, List.set_cons_zero] at hK' ⊢
    clear hK
    gi_wp2
    exact hK'
  case body =>
    rintro l1 O1 ps x rest a' W1 hxs ⟨hN, s2, hl, S2⟩ ⟨nb, rfl, hnb, hnO, hX⟩
    have y0 : W1.cell? ⟨nb, 0, none⟩ = some (.string x.nm) := by rw [Joins.cell_of_block hX]; rfl
    have y1 : W1.cell? ⟨nb, 1, none⟩ = some (.int .u64 (x.n : Int)) := by rw [Joins.cell_of_block hX]; rfl
    have y2 : W1.cell? ⟨nb, 2, none⟩ = some (.int .i64 x.len) := by rw [Joins.cell_of_block hX]; rfl
    have y3 : W1.cell? ⟨nb, 3, none⟩ = some (.bool x.gone) := by rw [Joins.cell_of_block hX]; rfl
    have c0 := S2.b0.cell
    have c1 := S2.b1.cell
    have c5 := S2.b5.cell
    have hsn := selV_snoc pre aft ps x
    obtain ⟨os, qos⟩ : ∃ l, l = selV pre aft ps := ⟨_, rfl⟩
    rw [← qos] at hl S2 hsn
    have HSN := Lib.hid hsn
    have HXS := Lib.hid hxs
    have HO := Lib.hid qos
    clear hsn hxs hX qos
    rw [ha0]
    simp only [Ver.item, List.setIfInBounds_toArray, List.set_cons_succ, List.set_cons_zero]
    clear ha0
    have hskip : (decide (x.nm = pre) && (decide (aft = 0) || decide (x.n < aft))) = false → (selV pre aft (ps ++ [x])).length ≤ most ∧ St w.heap.size m most 31 (.int .u64 (aft : Int)) w pre (selV pre aft (ps ++ [x])) false W1 := fun h => by
      rw [HSN.out, h, if_neg (by simp), List.append_nil]
      exact ⟨hl, S2⟩
    by_cases q1 : x.nm = pre
    case neg =>
      have h1 : (x.nm.toList == pre.toList) = false := by
        rw [ByteArray.toList_eq, ByteArray.toList_eq, beq_eq_false_iff_ne]
        exact fun h => q1 (ByteArray.ext (Array.toList_inj.1 h))
      have Q1 := Lib.hid q1
      clear q1
      gi_wp2
      exact ⟨Kept.refl _ _ _, hN, s2, hskip (by simp [Q1.out])⟩
    case pos =>
      have h1 : (x.nm.toList == pre.toList) = true := by rw [q1]; simp
      have Q1 := Lib.hid q1
      clear q1
      by_cases q2 : 0 < aft ∧ aft ≤ x.n
      case pos =>
        obtain ⟨z1, z2⟩ := q2
        gi_wp2
        exact ⟨Kept.refl _ _ _, hN, s2, hskip (by simp; omega)⟩
      case neg =>
        have HOK : Hid ((decide (x.nm = pre) && (decide (aft = 0) || decide (x.n < aft))) = true) := by
          show _ = _
          rw [decide_eq_true Q1.out, Bool.true_and, Bool.or_eq_true, decide_eq_true_iff, decide_eq_true_iff]
          omega
        have hways : (¬ 0 < aft) ∨ (0 < aft ∧ ¬ aft ≤ x.n) := by omega
        clear q2
        by_cases hroom : os.length < most
        · have hP := put_st x S2 hm4 hroom
          have HP := Lib.hid (CallsIn.inRound l1 (callsIn_wide (n := 17).2 hP))
          clear hP
          rcases hways with z1 | ⟨z1, z2⟩ <;>
          · gi_wp2
            refine ⟨trivial, HP.out.mono ?_⟩
            rintro e W4 ⟨rfl, S4, g4⟩
            have K4 : Kept O1 w.heap.size W1 W4 := kept_grown g4 (fun h => by have := (hN _ h).1; omega) (by omega) (by omega)
            have hs4 := g4.size
            have hN4 : ∀ i, O1 i → m + 2 ≤ i ∧ i < W4.heap.size := fun i hi => by have := hN i hi; omega
            gi_wp2
            refine ⟨K4, hN4, Nat.le_trans s2 hs4, ?_⟩
            rw [HSN.out, if_pos HOK.out]
            exact ⟨by rw [List.length_append]; simp; omega, S4⟩
        · have hfull : os.length = most := by omega
          have hP := put_st_full x S2 hm4 hfull
          have HP := Lib.hid (CallsIn.inRound l1 (callsIn_wide (n := 17).2 hP))
          clear hP
          have hcut : Hid (cutP most (selV pre aft (xs)) = (os, true)) := by
            have h := selV_stop (nm := pre) (aft := aft) (most := most) HXS.out (by rw [← HO.out]; exact hfull) HOK.out
            rw [← HO.out] at h
            exact h
          rcases hways with z1 | ⟨z1, z2⟩ <;>
          · gi_wp2
            refine ⟨trivial, HP.out.mono ?_⟩
            rintro e W4 ⟨rfl, S4, b4⟩
            have hs4 := b4.size
            have d3 := S4.b3.cell
            have f3 := S4.b3.frozen
            have S5 := S4.setMore hm4 true
            have K5 := (kept_of_below (O := O1) (n₀ := w.heap.size) b4 (by omega)).trans (kept_grown (O := O1) (n₀ := w.heap.size) (grown_one W4 ⟨w.heap.size + 1 + 1 + 1, 0, none⟩ (.bool true)) (fun h => by have : m + 2 ≤ w.heap.size + 1 + 1 + 1 := (hN _ h).1; omega) (by show w.heap.size ≤ w.heap.size + 1 + 1 + 1; omega) (by omega))
            have hN5 : ∀ i, O1 i → m + 2 ≤ i ∧ i < (W4.setCell ⟨w.heap.size + 1 + 1 + 1, 0, none⟩ (.bool true)).heap.size := fun i hi => by have h := (hN i hi).2; exact ⟨(hN i hi).1, Nat.lt_of_lt_of_le h (by simpa [World.setCell] using hs4)⟩
            have s5 : m + 4 ≤ (W4.setCell ⟨w.heap.size + 1 + 1 + 1, 0, none⟩ (.bool true)).heap.size := by simp [World.setCell] at s2 hs4 ⊢; omega
            gi_wp2
            exact ⟨K5, rfl, hN5, s5, os, hcut, by omega, S5⟩
  case done =>
    rintro O1 D W1 hD hOD ⟨hN, hS, hl, hSt⟩ hK
    obtain ⟨os, qos⟩ : ∃ l, l = selV pre aft (xs) := ⟨_, rfl⟩
    rw [← qos] at hl hSt
    have HQ : Hid (cutP most (selV pre aft (xs)) = (os, false)) := by rw [← qos]; exact cut_all hl
    clear qos
    have hm' := hN D hOD
    have c3 := hSt.b3.cell
    have c5 := hSt.b5.cell
    have HW := Lib.hid (callsIn_wide (n := 19).2 (whole_calls m most os false W1 hSt.ch (by omega)))
    simp only [Exit.inBlock, Exit.then]
    rw [ha0]
    clear ha0
    gi_wp2
    refine ⟨trivial, HW.out.mono ?_⟩
    rintro e W2 ⟨A', cp', rfl, hI, hA, hg⟩
    have P2 := hSt.b2.grown hg (fun e => by have : m = w.heap.size + 1 + 1 := Option.some.inj e; omega)
    obtain ⟨p0, p1⟩ := P2.c
    have f0 := P2.f 0
    have f1 := P2.f 1
    have P3 := (P2.set0 A' os.length cp').set1 false
    have hDl := (Array.getElem?_eq_some_iff.1 hK).1
    have K2 := (hg.block D hDl (fun e => by have : D = m := Option.some.inj e; omega)).trans hK
    have K3 : ((W2.setCell ⟨w.heap.size + 1 + 1, 0, none⟩ (.slice A' os.length cp')).setCell ⟨w.heap.size + 1 + 1, 1, none⟩ (.bool false)).heap[D]? = some (.deferred (some [])) :=
      (Below.heap_setCell _ _ _ _ (by show D ≠ w.heap.size + 1 + 1; omega)).trans ((Below.heap_setCell _ _ _ _ (by show D ≠ w.heap.size + 1 + 1; omega)).trans K2)
    have hna : ∀ ad, A' = some ad → ad.block ≠ w.heap.size + 1 + 1 := fun ad h => by have := hA ad h; omega
    have hI3 := (hI.other ⟨w.heap.size + 1 + 1, 0, none⟩ hna (.slice A' os.length cp')).other ⟨w.heap.size + 1 + 1, 1, none⟩ hna (.bool false)
    have B2 := below_own hSt.below hg (by omega) (fun r e => by have : m = r := Option.some.inj e; omega)
    have B3 := (B2.setCell (p := ⟨w.heap.size + 1 + 1, 0, none⟩) (by show w.heap.size ≤ w.heap.size + 1 + 1; omega) (.slice A' os.length cp')).setCell (p := ⟨w.heap.size + 1 + 1, 1, none⟩) (by show w.heap.size ≤ w.heap.size + 1 + 1; omega) (.bool false)
    clear P2 K2 HW hSt hI B2 c3 c5
    gi_wp2
    exact ret_page HQ.out hA (by omega) hI3 P3 B3 ⟨by omega, by omega, fun ad h e => by have := hA ad h; omega⟩ K3 rfl rfl rfl
  case stop =>
    rintro O1 D cd ps x rest W1 hD hOD hxs ⟨rfl, hN, hS, os, HQ, hl, hSt⟩ hK
    have hm' := hN D hOD
    refine wpIn_exit ?_
    have c3 := hSt.b3.cell
    have c5 := hSt.b5.cell
    have HW := Lib.hid (callsIn_wide (n := 19).2 (whole_calls m most os true W1 hSt.ch (by omega)))
    simp only [Exit.inBlock, Exit.then]
    rw [ha0]
    clear ha0
    gi_wp2
    refine ⟨trivial, HW.out.mono ?_⟩
    rintro e W2 ⟨A', cp', rfl, hI, hA, hg⟩
    have P2 := hSt.b2.grown hg (fun e => by have : m = w.heap.size + 1 + 1 := Option.some.inj e; omega)
    obtain ⟨p0, p1⟩ := P2.c
    have f0 := P2.f 0
    have f1 := P2.f 1
    have P3 := (P2.set0 A' os.length cp').set1 true
    have hDl := (Array.getElem?_eq_some_iff.1 hK).1
    have K2 := (hg.block D hDl (fun e => by have : D = m := Option.some.inj e; omega)).trans hK
    have K3 : ((W2.setCell ⟨w.heap.size + 1 + 1, 0, none⟩ (.slice A' os.length cp')).setCell ⟨w.heap.size + 1 + 1, 1, none⟩ (.bool true)).heap[D]? = some (.deferred (some [])) :=
      (Below.heap_setCell _ _ _ _ (by show D ≠ w.heap.size + 1 + 1; omega)).trans ((Below.heap_setCell _ _ _ _ (by show D ≠ w.heap.size + 1 + 1; omega)).trans K2)
    have hna : ∀ ad, A' = some ad → ad.block ≠ w.heap.size + 1 + 1 := fun ad h => by have := hA ad h; omega
    have hI3 := (hI.other ⟨w.heap.size + 1 + 1, 0, none⟩ hna (.slice A' os.length cp')).other ⟨w.heap.size + 1 + 1, 1, none⟩ hna (.bool true)
    have B2 := below_own hSt.below hg (by omega) (fun r e => by have : m = r := Option.some.inj e; omega)
    have B3 := (B2.setCell (p := ⟨w.heap.size + 1 + 1, 0, none⟩) (by show w.heap.size ≤ w.heap.size + 1 + 1; omega) (.slice A' os.length cp')).setCell (p := ⟨w.heap.size + 1 + 1, 1, none⟩) (by show w.heap.size ≤ w.heap.size + 1 + 1; omega) (.bool true)
    clear P2 K2 HW hSt hI B2 c3 c5
    gi_wp2
    exact ret_page HQ.out hA (by omega) hI3 P3 B3 ⟨by omega, by omega, fun ad h e => by have := hA ad h; omega⟩ K3 rfl rfl rfl

theorem versions_calls (B : Nat) (A : Option Addr) (c : Nat) (vs : List Ver) (b pre : ByteArray) (aft : Nat) (most : Nat) (w : World) (hok : ∀ v ∈ vs, v.Ok) (hreach : vs.length ≤ 100000) (hR : ItB w.heap.size B A c vs w)
    (hb : Name.bucketL b.data.toList = true) (hbs : b.size ≤ 1000) (ho : Name.objectL pre.data.toList = true) (h1 : pre.size ≤ 200) (hm1 : 1 ≤ most) (hm2 : most ≤ 256) :
    Calls Tryz.prog 7 #[ofV B, .string b, .string pre, .int .u64 (aft : Int), .int .i64 (most : Int)] w fun e w' => PageR w (cutP most (selV pre aft (itemsOf b vs))) e w' :=
  versions_gen (ofV B) (.inr ⟨_, _, _, rfl⟩) (itemsOf b vs) b pre aft most w (fun Bs Bb l J Jx O W hW hRd => items_seq 19 (by omega) w.heap.size Bs Bb B A c b vs hok hreach l J Jx O W hW ⟨hRd.1, hRd.2.1, hR.below hRd.2.2⟩) hb hbs ho h1 hm1 hm2

end Go.Proofs.YtaeiahkomdpcoaaGreatDoor.Page
end

section
/- page.Any: over merge.Of's iterator, and over nil. -/
namespace Go.Proofs.YtaeiahkomdpcoaaGreatDoor.Page
open Go Go.RowKit Go.Conc Go.Proofs.YtaeiahkomdpcoaaGreatDoor.Seq Go.Proofs.YtaeiahkomdpcoaaGreatDoor.Chan

attribute [local go_sem] Oper.semAt_some

/-- The return of a Boolean that lies in a cell. -/
theorem ret_cell {n : Nat} {fn : Func} {w W3 : World} {v : Bool} {R : Bool} (hv : v = R) {D b : Nat} (hb : Boxed W3 b 4 (.bool v)) (hB : Below w.heap.size w W3) (hD : w.heap.size ≤ D ∧ D ≠ b) (K3 : W3.heap[D]? = some (.deferred (some [])))
    {p : Tmp} (hres : fn.results = #[.cell p 4]) {tmps : Array Value} (hp : tmps.getD p undef = .pointer (some ⟨b, 0, none⟩)) :
    bodyPostM Fence.wide n Tryz.prog fn (fun e w' => e = .returned (.bool R) ∧ Below w.heap.size w w') .ret { tmps := tmps, defers := [{ target := .collected D, args := #[] }] } W3 := by
  refine ⟨by simp, .inl ⟨_, _, rfl, run_takeDeferred K3, ?_⟩⟩
  have hg : W3.grownBy (W3.putObj D (.deferred none)) (some D) := ⟨rfl, rfl, rfl, by simp, fun k hk hne => World.putObj_heap_other (fun e => hne (by rw [e]))⟩
  have b4 := box_grown hb hg (fun e => hD.2 (Option.some.inj e))
  have B4 := below_own hB hg hB.size (fun r e => by have : D = r := Option.some.inj e; omega)
  exact ⟨_, Wire.results_cell1 hres _ _ ⟨b, 0, none⟩ (.bool v) hp (Tryz.isAgg4 _) b4.cell, by rw [hv], B4⟩

set_option maxHeartbeats 4000000 in
set_option maxRecDepth 100000 in
theorem any_calls (B : Nat) (A : Option Addr) (c : Nat) (ps : List Pr) (pre : ByteArray) (w : World) (hreach : ps.length ≤ 100000) (hR : OfRd w.heap.size B A c ps w) :
    Calls Tryz.prog 9 #[ofV B, .string pre] w fun e w' => e = .returned (.bool (ps.any fun p => pfx pre p.1)) ∧ Below w.heap.size w w' := by
  have hsn := seq_eql
  refine callsIn_wide (n := 20).1 (callsIn_of_wp_marks Tryz.func9 rfl trivial ?_ rfl)
  simp only [Tryz.ntmps9, List.size_toArray, List.length_cons, List.length_nil, Nat.reduceAdd, Nat.reduceSub, Array.replicate_succ, Array.replicate_zero, List.push_toArray, List.append_toArray, List.nil_append, List.cons_append]
  gi_wp2
  obtain ⟨W4, hW4⟩ : ∃ W4, W4 = (w.alloc (.cells #[.string pre] 9)).alloc (.cells #[.bool false] 4) := ⟨_, rfl⟩
  have hs4 : W4.heap.size = w.heap.size + 2 := by rw [hW4]; simp
  have B4 : Below w.heap.size w W4 := by rw [hW4]; exact below_alloc (below_one w _) _
  have x0 : Boxed W4 w.heap.size 9 (.string pre) := by
    rw [hW4]; exact (Boxed.new w _ _).kept (below_grown0 (below_one _ _)) (by simp)
  have x1 : Boxed W4 (w.heap.size + 1) 4 (.bool false) := by
    have := Boxed.new (w.alloc (.cells #[.string pre] 9)) 4 (.bool false)
    rw [World.size_alloc, ← hW4] at this; exact this
  rw [← hW4]
  clear hW4
  refine wpIn_act (fun a0 ha0 => ?_)
  refine wpIn_rangeFunc_O rfl (by omega) (gf := 26) (lb := #[.pointer (some ⟨B, 0, none⟩)]) (by rw [ha0]; rfl) trivial (enters_of Tryz.func26 (by kernel_rfl) rfl)
    (of_seq Fence.wide (20 - 1) trivial rfl (by omega) w.heap.size B A c ps hreach) (by omega) (fun W' hb => hR.below (B4.trans (hb.mono (by omega)))) (fun _ => rfl)
    (fun O (qs : List Pr) W' => (∀ i, O i → w.heap.size + 2 ≤ i) ∧ w.heap.size + 2 ≤ W'.heap.size ∧ Hid (qs.any (fun p => pfx pre p.1) = false) ∧ Below w.heap.size w W' ∧ Boxed W' w.heap.size 9 (.string pre) ∧ Boxed W' (w.heap.size + 1) 4 (.bool false))
    (fun cd O (_ : List Pr) W' => cd = .ret ∧ (∀ i, O i → w.heap.size + 2 ≤ i) ∧ w.heap.size + 2 ≤ W'.heap.size ∧ Hid (ps.any (fun p => pfx pre p.1) = true) ∧ Below w.heap.size w W' ∧ Boxed W' (w.heap.size + 1) 4 (.bool true))
    (fun O qs X Y ⟨h1, h2, h3, h4, h5, h6⟩ ho => ⟨fun i hi => by
      rcases hi with h | h
      · exact h1 i h
      · omega, Nat.le_trans h2 ho.size, h3, h4.trans (below_of_off (ho.more (fun k hk => hk)) (by omega) (fun i hi => by have := h1 i hi; omega)), box_off h5 ho (fun h => by have := h1 _ h; omega), box_off h6 ho (fun h => by have := h1 _ h; omega)⟩)
    (fun cd O qs X Y ⟨h0, h1, h2, h3, h4, h6⟩ ho => ⟨h0, fun i hi => by
      rcases hi with h | h
      · exact h1 i h
      · omega, Nat.le_trans h2 ho.size, h3, h4.trans (below_of_off (ho.more (fun k hk => hk)) (by omega) (fun i hi => by have := h1 i hi; omega)), box_off h6 ho (fun h => by have := h1 _ h; omega)⟩)
    (fun _ => False) (fun _ h => h.elim) (fun _ h => h) ⟨fun _ h => h.elim, by omega, Lib.hid rfl, B4, x0, x1⟩
    (fun O x a' W' => a' = { tmps := ((a0.tmps.setIfInBounds 9 (.string x.1)).setIfInBounds 10 (.string x.2)).setIfInBounds 5 (.string x.1), defers := [] })
    (fun x O a' X Y h _ => h) ?assign ?body ?done ?stop
  case assign =>
    intro l1 O1 qs x W1 K hi hK
    have hK' := hK { tmps := ((a0.tmps.setIfInBounds 9 (.string x.1)).setIfInBounds 10 (.string x.2)).setIfInBounds 5 (.string x.1), defers := [] } _ (Kept.refl _ _ _) hi rfl
    rw [ha0] at hK' ⊢
    simp only [encPr, List.zip_toArray, List.zip_cons_cons, List.zip_nil_right, List.foldl_toArray', List.foldl_cons, List.foldl_nil, List.setIfInBounds_toArray, List.set_cons_succ, List.set_cons_zero] at hK' ⊢
    clear hK
    gi_wp2
    exact hK'
  case body =>
    rintro l1 O1 qs x rest a' W1 hxs ⟨hN, s2, HP, hB, c0, c1⟩ rfl
    have d0 := c0.cell
    have d1 := c1.cell
    have f1 := c1.frozen
    have HXS := Lib.hid hxs
    clear hxs
    rw [ha0]
    simp only [List.setIfInBounds_toArray, List.set_cons_succ, List.set_cons_zero]
    clear ha0
    gi_wp2
    refine ⟨trivial, (CallsIn.inRound l1 (callsIn_wide.2 (hasPrefix_calls x.1 pre W1))).mono ?_⟩
    rintro e W3 ⟨rfl, hW3⟩
    rw [hW3]
    clear hW3
    obtain ⟨bp, qbp⟩ : ∃ bp, bp = pfx pre x.1 := ⟨_, rfl⟩
    rw [← qbp]
    have HQ := Lib.hid qbp
    clear qbp
    cases bp
    case false =>
      gi_wp2
      exact ⟨Kept.refl _ _ _, hN, s2, (show Hid (_ = false) from by show _ = _; rw [List.any_append, HP.out]; simp [← HQ.out]), hB, c0, c1⟩
    case true =>
      have HA : Hid (ps.any (fun p => pfx pre p.1) = true) := by
        show _ = _
        rw [HXS.out, List.any_append, List.any_cons, ← HQ.out]; simp
      have g1 := grown_one W1 ⟨w.heap.size + 1, 0, none⟩ (.bool true)
      have K1 : Kept O1 w.heap.size W1 _ := kept_grown g1 (fun h => by have : w.heap.size + 2 ≤ w.heap.size + 1 := hN _ h; omega) (by show w.heap.size ≤ w.heap.size + 1; omega) (by omega)
      have B1 := hB.setCell (p := ⟨w.heap.size + 1, 0, none⟩) (by show w.heap.size ≤ w.heap.size + 1; omega) (.bool true)
      have x2 := box_set c1 (.bool true)
      have s3 : w.heap.size + 2 ≤ (W1.setCell ⟨w.heap.size + 1, 0, none⟩ (.bool true)).heap.size := by simpa [World.setCell] using s2
      gi_wp2
      exact ⟨K1, rfl, hN, s3, HA, B1, x2⟩
  case done =>
    rintro O1 D W1 hD hOD ⟨hN, s2, HP, hB, c0, c1⟩ hK
    have hm' := hN D hOD
    have d1 := c1.cell
    have f1 := c1.frozen
    simp only [Exit.inBlock, Exit.then]
    rw [ha0]
    clear ha0
    have B1 := hB.setCell (p := ⟨w.heap.size + 1, 0, none⟩) (by show w.heap.size ≤ w.heap.size + 1; omega) (.bool false)
    have x2 := box_set c1 (.bool false)
    have K3 : (W1.setCell ⟨w.heap.size + 1, 0, none⟩ (.bool false)).heap[D]? = some (.deferred (some [])) := (Below.heap_setCell _ _ _ _ (by show D ≠ w.heap.size + 1; omega)).trans hK
    gi_wp2
    exact ret_cell HP.out.symm x2 B1 ⟨by omega, by omega⟩ K3 rfl rfl
  case stop =>
    rintro O1 D cd qs x rest W1 hD hOD hxs ⟨rfl, hN, s2, HP, hB, c1⟩ hK
    have hm' := hN D hOD
    refine wpIn_ret ?_
    simp only [Exit.inBlock, Exit.then]
    rw [ha0]
    exact ret_cell HP.out.symm c1 hB ⟨by omega, by omega⟩ hK rfl rfl

set_option maxRecDepth 100000 in
theorem any_nil (pre : ByteArray) (w : World) : Calls Tryz.prog 9 #[.nilFunc, .string pre] w fun e w' => e = .returned (.bool false) ∧ Below w.heap.size w w' := by
  have hse : ∀ w, (binOp .eql 40 .nilFunc .nilFunc).run Tryz.prog w = .ok (.bool true) w := fun w => by
    unfold binOp Op.equal Op.maxDepth Op.equalIn
    simp only [Sem.run_bind, run_underlying Tryz.underlying40, Result.andThen_ok]
    rfl
  have x1 : Boxed ((w.alloc (.cells #[.string pre] 9)).alloc (.cells #[.bool false] 4)) (w.heap.size + 1) 4 (.bool false) := by
    have := Boxed.new (w.alloc (.cells #[.string pre] 9)) 4 (.bool false)
    rw [World.size_alloc] at this; exact this
  have B4 : Below w.heap.size w ((w.alloc (.cells #[.string pre] 9)).alloc (.cells #[.bool false] 4)) := below_alloc (below_one w _) _
  go_enter Tryz.func9, Tryz.ntmps9
  go_wp2
  refine bodyPost_ret (Wire.results_cell1 rfl _ _ ⟨w.heap.size + 1, 0, none⟩ (.bool false) rfl (Tryz.isAgg4 _) ?_) rfl ?_
  · exact x1.cell
  · exact ⟨rfl, B4⟩

end Go.Proofs.YtaeiahkomdpcoaaGreatDoor.Page
end
