/- Texts merged into one: part 7 of 12. -/
import Derived.Deep.Cut
import Derived.Deep.RegionHeld3
import Derived.Laws.StructEq
import Derived.Test.YtaeiahkomdpcoaaDoorW6

section
/- The walk of package name's Decode, of any bytes. -/
namespace Go.Proofs.YtaeiahkomdpcoaaDoor.Name
open Go.RowKit Go.Shelf

structure Dec where
  key : Key
  rest : Bs
  is : Bool
def dec1 (c : Nat) (r : Bs) : Dec := if hasB c then ⟨⟨c, bs (Lib.cut r [0]).1, ⟨#[]⟩, 0, 0⟩, (Lib.cut r [0]).2.1, (Lib.cut r [0]).2.2⟩ else ⟨⟨c, ⟨#[]⟩, ⟨#[]⟩, 0, 0⟩, r, true⟩
def dec2 (d : Dec) : Dec := if d.is && decide (d.key.kind = 3) then (match un d.rest with
  | some p => ⟨{ d.key with name := bs p.1 }, p.2, true⟩
  | none => ⟨{ d.key with name := ⟨#[]⟩ }, [], false⟩) else d
def dec3 (d : Dec) : Dec := if d.is && hasN d.key.kind && decide (8 ≤ d.rest.length) then ⟨{ d.key with n := if d.key.kind = 3 then top - val (d.rest.take 8) else val (d.rest.take 8) }, d.rest.drop 8, d.is⟩ else d
def dec4 (d : Dec) : Dec := if d.is && decide (d.key.kind = 5) && decide (d.rest.length = 2) then ⟨{ d.key with part := (val d.rest : Int) }, d.rest, d.is⟩ else d
/-- What Decode reads of these bytes. -/
def decD (s : Bs) : Dec := dec4 (dec3 (dec2 (dec1 (s.getD 0 0).toNat (s.drop 1))))
def decR (s : Bs) : Value := if s ≠ [] ∧ (decD s).is = true ∧ mayB (decD s).key = true ∧ encL (decD s).key = s then .tuple #[(decD s).key.val, .int .i64 0] else .tuple #[zeroK.val, .int .i64 8]

theorem cut_len (r : Bs) : (Lib.cut r [0]).1.length ≤ r.length ∧ (Lib.cut r [0]).2.1.length ≤ r.length := by
  unfold Lib.cut
  split
  · simp only [List.length_take, List.length_drop]; omega
  · simp
theorem un_len : ∀ (r : Bs) (p : Bs × Bs), un r = some p → p.1.length ≤ r.length ∧ p.2.length ≤ r.length
  | [], p, h => by simp [un] at h
  | [_], p, h => by simp [un] at h
  | c :: d :: r, p, h => by
    unfold un at h
    split at h
    · cases hu : un (d :: r) with
      | none => rw [hu] at h; cases h
      | some q =>
        rw [hu] at h
        obtain rfl := (Option.some.inj h).symm
        have := un_len (d :: r) q hu
        simp only [List.length_cons] at this ⊢
        omega
    · split at h
      · cases hu : un r with
        | none => rw [hu] at h; cases h
        | some q =>
          rw [hu] at h
          obtain rfl := (Option.some.inj h).symm
          have := un_len r q hu
          simp only [List.length_cons] at this ⊢
          omega
      · split at h
        · obtain rfl := (Option.some.inj h).symm
          simp only [List.length_cons, List.length_nil]
          omega
        · cases h

/-- The state while a key is read. -/
def St (w : World) (K : Key) (w' : World) : Prop := KeyAt w' w.heap.size zeroK ∧ KeyAt w' (w.heap.size + 1) K ∧ Var0 w' ∧ Below w.heap.size w w'
section
variable {w w1 : World} {K : Key}
theorem St.below (h : St w K w1) {w2 : World} (hb : Below w1.heap.size w1 w2) : St w K w2 := ⟨h.1.below hb, h.2.1.below hb, h.2.2.1.below hb, below_of h.2.2.2 hb⟩
theorem St.drew (h : St w K w1) : St w K w1.drew := ⟨h.1.drew, h.2.1.drew, h.2.2.1.drew, below_drew h.2.2.2⟩
theorem St.put (h : St w K w1) (i : Nat) (v : Value) {K' : Key} (h2 : KeyAt (w1.setCell ⟨w.heap.size + 1, i, none⟩ v) (w.heap.size + 1) K') : St w K' (w1.setCell ⟨w.heap.size + 1, i, none⟩ v) :=
  ⟨h.1.other ⟨w.heap.size + 1, i, none⟩ (by show w.heap.size + 1 ≠ w.heap.size; omega) v, h2, h.2.2.1.set ⟨w.heap.size + 1, i, none⟩ (by show w.heap.size + 1 ≠ 0; omega) v, below_key h.2.2.2 ⟨w.heap.size + 1, i, none⟩ (by show w.heap.size ≤ w.heap.size + 1; omega) v⟩
theorem St.set1 (h : St w K w1) (x : ByteArray) : St w { K with bucket := x } (w1.setCell ⟨w.heap.size + 1, 1, none⟩ (.string x)) := h.put 1 _ (h.2.1.set1 x)
theorem St.set2 (h : St w K w1) (x : ByteArray) : St w { K with name := x } (w1.setCell ⟨w.heap.size + 1, 2, none⟩ (.string x)) := h.put 2 _ (h.2.1.set2 x)
theorem St.set3 (h : St w K w1) (x : Nat) : St w { K with n := x } (w1.setCell ⟨w.heap.size + 1, 3, none⟩ (.int .u64 (x : Int))) := h.put 3 _ (h.2.1.set3 x)
theorem St.set4 (h : St w K w1) (x : Int) : St w { K with part := x } (w1.setCell ⟨w.heap.size + 1, 4, none⟩ (.int .i64 x)) := h.put 4 _ (h.2.1.set4 x)
end

def K0 (c : Nat) : Key := ⟨c, ⟨#[]⟩, ⟨#[]⟩, 0, 0⟩
def Plan1 (c : Nat) (R : ByteArray) (K1 : Key) (y1 : ByteArray) (i1 : Bool) : Prop :=
  (hasB c = true ∧ ∃ zb, K1 = { K0 c with bucket := zb } ∧ Hid (∀ W, Var0 W → Calls Tryd.prog 38 #[.string R, .string ⟨#[0]⟩] W fun e w' => e = .returned (.tuple #[.string zb, .string y1, .bool i1]) ∧ Below W.heap.size W w')) ∨
  (hasB c = false ∧ K1 = K0 c ∧ y1 = R ∧ i1 = true)
def Plan2 (c : Nat) (K1 : Key) (y1 : ByteArray) (i1 : Bool) (K2 : Key) (y2 : ByteArray) (i2 : Bool) : Prop :=
  (i1 = true ∧ c = 3 ∧ ∃ zn, K2 = { K1 with name := zn } ∧ Hid (∀ W, Calls Tryd.prog 39 #[.string y1] W fun e w' => e = .returned (.tuple #[.string zn, .string y2, .bool i2]) ∧ Below W.heap.size W w')) ∨
  ((i1 && decide (c = 3)) = false ∧ K2 = K1 ∧ y2 = y1 ∧ i2 = i1)
def Plan3 (c : Nat) (K2 : Key) (y2 : ByteArray) (i2 : Bool) (K3 : Key) (y3 : ByteArray) : Prop :=
  ((i2 = true ∧ hasN c = true ∧ 8 ≤ y2.size) ∧ ∃ N0, N0 ≤ top ∧ K3 = { K2 with n := if c = 3 then top - N0 else N0 } ∧ y3 = y2.extract 8 y2.size ∧ Hid (∀ W, Calls Tryd.prog 40 #[.string (y2.extract 0 8)] W fun e w' => e = .returned (.int .u64 (N0 : Int)) ∧ w' = W)) ∨
  ((i2 && (hasN c && decide (8 ≤ y2.size))) = false ∧ K3 = K2 ∧ y3 = y2)
def Plan4 (c : Nat) (K3 : Key) (y3 : ByteArray) (i2 : Bool) (K4 : Key) : Prop :=
  ((i2 = true ∧ c = 5 ∧ y3.size = 2) ∧ ∃ N0 : Nat, N0 < 65536 ∧ K4 = { K3 with part := (N0 : Int) } ∧ Hid (∀ W, Calls Tryd.prog 40 #[.string y3] W fun e w' => e = .returned (.int .u64 (N0 : Int)) ∧ w' = W)) ∨
  ((i2 && (decide (c = 5) && decide (y3.size = 2))) = false ∧ K4 = K3)
def Plan5 (s : ByteArray) (K4 : Key) (i2 : Bool) : Prop := ∃ (T : ByteArray) (E : Int), Hid (∀ W, Var0 W → Calls Tryd.prog 11 #[K4.val] W fun e w' => e = .returned (.tuple #[.string T, .int .i64 E]) ∧ Below W.heap.size W w') ∧
  ((i2 = false ∧ decR s.data.toList = .tuple #[zeroK.val, .int .i64 8]) ∨ (i2 = true ∧ (E == 0) = false ∧ decR s.data.toList = .tuple #[zeroK.val, .int .i64 8]) ∨
    (i2 = true ∧ E = 0 ∧ (T.toList == s.toList) = false ∧ decR s.data.toList = .tuple #[zeroK.val, .int .i64 8]) ∨ (i2 = true ∧ E = 0 ∧ (T.toList == s.toList) = true ∧ decR s.data.toList = .tuple #[K4.val, .int .i64 0]))

theorem plan (s : ByteArray) (hs : s.size ≤ 4096) (h0 : 0 < s.size) :
    ∃ (K1 : Key) (y1 : ByteArray) (i1 : Bool) (K2 : Key) (y2 : ByteArray) (i2 : Bool) (K3 : Key) (y3 : ByteArray) (K4 : Key),
      y1.size ≤ 4096 ∧ y2.size ≤ 4096 ∧ y3.size ≤ 4096 ∧ Plan1 s[0].toNat (s.extract 1 s.size) K1 y1 i1 ∧ Plan2 s[0].toNat K1 y1 i1 K2 y2 i2 ∧ Plan3 s[0].toNat K2 y2 i2 K3 y3 ∧ Plan4 s[0].toNat K3 y3 i2 K4 ∧ Plan5 s K4 i2 := by
  have hRd : (s.extract 1 s.size).data.toList = s.data.toList.drop 1 := by rw [str_drop]; rfl
  have hg : s.data.toList.getD 0 0 = s[0] := getD_at s 0 h0
  have hcc := s[0].toNat_lt
  obtain ⟨c, hc⟩ : ∃ c, c = s[0].toNat := ⟨_, rfl⟩
  rw [← hc] at hcc
  rw [← hc]
  obtain ⟨d1, hd1⟩ : ∃ d, d = dec1 c (s.data.toList.drop 1) := ⟨_, rfl⟩
  obtain ⟨d2, hd2⟩ : ∃ d, d = dec2 d1 := ⟨_, rfl⟩
  obtain ⟨d3, hd3⟩ : ∃ d, d = dec3 d2 := ⟨_, rfl⟩
  obtain ⟨d4, hd4⟩ : ∃ d, d = dec4 d3 := ⟨_, rfl⟩
  have hD : decD s.data.toList = d4 := by unfold decD; rw [hg, hd4, hd3, hd2, hd1, hc]
  have hl1 : (s.data.toList.drop 1).length ≤ 4096 := by rw [List.length_drop, size_list]; omega
  have f1 : d1.key.kind = c ∧ d1.key.bucket.size ≤ 4096 ∧ d1.key.name.size ≤ 4096 ∧ d1.key.n ≤ top ∧ d1.rest.length ≤ 4096 := by
    rw [hd1]; unfold dec1
    have h1 := cut_len (s.data.toList.drop 1)
    split
    · exact ⟨rfl, by show (bs _).size ≤ _; rw [bs_size]; omega, by show 0 ≤ 4096; omega, Nat.zero_le _, Nat.le_trans h1.2 hl1⟩
    · exact ⟨rfl, by show 0 ≤ 4096; omega, by show 0 ≤ 4096; omega, Nat.zero_le _, hl1⟩
  have p1 : Plan1 c (s.extract 1 s.size) d1.key (bs d1.rest) d1.is := by
    rw [hd1]
    unfold Plan1 dec1
    cases hb : hasB c
    · exact .inr ⟨rfl, rfl, by show bs (s.data.toList.drop 1) = _; rw [str_drop], rfl⟩
    · refine .inl ⟨rfl, bs (Lib.cut (s.data.toList.drop 1) [0]).1, rfl, Lib.hid (fun W hv => ?_)⟩
      have := cut_calls (s.extract 1 s.size) W hv (by rw [← size_list, hRd]; omega)
      rw [hRd] at this
      exact this
  have f2 : d2.key.kind = c ∧ d2.key.bucket.size ≤ 4096 ∧ d2.key.name.size ≤ 4096 ∧ d2.key.n ≤ top ∧ d2.rest.length ≤ 4096 := by
    rw [hd2]; unfold dec2
    split
    · cases hu : un d1.rest with
      | none => exact ⟨f1.1, f1.2.1, by show 0 ≤ 4096; omega, f1.2.2.2.1, by show 0 ≤ 4096; omega⟩
      | some p =>
        have := un_len _ _ hu
        exact ⟨f1.1, f1.2.1, by show (bs _).size ≤ _; rw [bs_size]; omega, f1.2.2.2.1, Nat.le_trans this.2 f1.2.2.2.2⟩
    · exact f1
  have p2 : Plan2 c d1.key (bs d1.rest) d1.is d2.key (bs d2.rest) d2.is := by
    rw [hd2]
    unfold Plan2 dec2
    rw [show decide (d1.key.kind = 3) = decide (c = 3) by rw [f1.1]]
    have hU := fun W => unname_calls (bs d1.rest) W (by rw [bs_size]; omega)
    simp only [show (bs d1.rest).data.toList = d1.rest from rfl] at hU
    cases hi : (d1.is && decide (c = 3))
    · exact .inr ⟨rfl, rfl, rfl, rfl⟩
    · simp only [Bool.and_eq_true, decide_eq_true_eq] at hi
      refine .inl ⟨hi.1, hi.2, ?_⟩
      rw [if_pos rfl]
      cases hu : un d1.rest with
      | none =>
        rw [hu] at hU
        exact ⟨⟨#[]⟩, rfl, hU⟩
      | some p =>
        rw [hu] at hU
        exact ⟨bs p.1, rfl, hU⟩
  have e8 : (256 : Nat) ^ 8 = 18446744073709551616 := by decide
  have e2 : (256 : Nat) ^ 2 = 65536 := by decide
  have hv8 : 8 ≤ d2.rest.length → val (d2.rest.take 8) ≤ top := fun h => by
    have h1 := val_lt (d2.rest.take 8)
    rw [List.length_take, Nat.min_eq_left h, e8] at h1
    unfold top; omega
  have f3 : d3.key.kind = c ∧ d3.key.bucket.size ≤ 4096 ∧ d3.key.name.size ≤ 4096 ∧ d3.key.n ≤ top ∧ d3.rest.length ≤ 4096 ∧ d3.is = d2.is := by
    rw [hd3]; unfold dec3
    split
    · rename_i h
      simp only [Bool.and_eq_true, decide_eq_true_eq] at h
      refine ⟨f2.1, f2.2.1, f2.2.2.1, ?_, by show List.length _ ≤ _; rw [List.length_drop]; omega, rfl⟩
      show (if _ then _ else _) ≤ top
      split
      · exact Nat.sub_le _ _
      · exact hv8 h.2
    · exact ⟨f2.1, f2.2.1, f2.2.2.1, f2.2.2.2.1, f2.2.2.2.2, rfl⟩
  have p3 : Plan3 c d2.key (bs d2.rest) d2.is d3.key (bs d3.rest) := by
    rw [hd3]
    unfold Plan3 dec3
    rw [show (d2.is && hasN d2.key.kind && decide (8 ≤ d2.rest.length)) = (d2.is && hasN c && decide (8 ≤ d2.rest.length)) by rw [f2.1], bs_size]
    by_cases h : d2.is = true ∧ hasN c = true ∧ 8 ≤ d2.rest.length
    · refine .inl ⟨h, val (d2.rest.take 8), hv8 h.2.2, ?_, ?_, Lib.hid (fun W => ?_)⟩
      · rw [if_pos (by simp [h.1, h.2.1, h.2.2])]
        simp only [f2.1]
      · rw [if_pos (by simp [h.1, h.2.1, h.2.2]), ← bs_size, str_drop]; rfl
      · have := number_calls ((bs d2.rest).extract 0 8) W (by rw [str_take, bs_size, List.length_take]; omega)
        rw [show ((bs d2.rest).extract 0 8).data.toList = d2.rest.take 8 by rw [str_take]; rfl] at this
        exact this
    · have hf : (d2.is && (hasN c && decide (8 ≤ d2.rest.length))) = false := by
        rw [Bool.eq_false_iff]; intro hh; simp only [Bool.and_eq_true, decide_eq_true_eq] at hh; exact h hh
      refine .inr ⟨hf, ?_, ?_⟩ <;> rw [if_neg (by rw [Bool.and_assoc, hf]; decide)]
  have f4 : d4.key.kind = c ∧ d4.key.bucket.size ≤ 4096 ∧ d4.key.name.size ≤ 4096 ∧ d4.key.n ≤ top ∧ d4.is = d2.is := by
    rw [hd4]; unfold dec4
    split
    · exact ⟨f3.1, f3.2.1, f3.2.2.1, f3.2.2.2.1, f3.2.2.2.2.2⟩
    · exact ⟨f3.1, f3.2.1, f3.2.2.1, f3.2.2.2.1, f3.2.2.2.2.2⟩
  have p4 : Plan4 c d3.key (bs d3.rest) d2.is d4.key := by
    rw [hd4]
    unfold Plan4 dec4
    rw [show (d3.is && decide (d3.key.kind = 5) && decide (d3.rest.length = 2)) = (d2.is && decide (c = 5) && decide (d3.rest.length = 2)) by rw [f3.1, f3.2.2.2.2.2], bs_size]
    by_cases h : d2.is = true ∧ c = 5 ∧ d3.rest.length = 2
    · refine .inl ⟨h, val d3.rest, ?_, ?_, Lib.hid (fun W => ?_)⟩
      · have h1 := val_lt d3.rest
        rw [h.2.2, e2] at h1; exact h1
      · rw [if_pos (by simp [h.1, h.2.1, h.2.2])]
      · exact number_calls (bs d3.rest) W (by rw [bs_size, h.2.2]; omega)
    · have hf : (d2.is && (decide (c = 5) && decide (d3.rest.length = 2))) = false := by
        rw [Bool.eq_false_iff]; intro hh; simp only [Bool.and_eq_true, decide_eq_true_eq] at hh; exact h hh
      exact .inr ⟨hf, by rw [if_neg (by rw [Bool.and_assoc, hf]; decide)]⟩
  have hne : s.data.toList ≠ [] := fun e => by have := size_list s; rw [e] at this; simp at this; omega
  have p5 : Plan5 s d4.key d2.is := by
    have HEnc := fun W (h : Var0 W) => encode_calls d4.key W h ⟨f4.2.1, f4.2.2.1, by rw [f4.1]; exact hcc, f4.2.2.2.1⟩
    unfold encR at HEnc
    unfold Plan5 decR
    rw [hD, f4.2.2.2.2]
    cases hm : mayB d4.key
    · rw [hm] at HEnc
      refine ⟨_, _, HEnc, ?_⟩
      rw [if_neg (fun h => by cases h.2.2.1)]
      cases d2.is
      · exact .inl ⟨rfl, rfl⟩
      · exact .inr (.inl ⟨rfl, rfl, rfl⟩)
    · rw [hm] at HEnc
      refine ⟨_, _, HEnc, ?_⟩
      cases d2.is
      · rw [if_neg (fun h => by cases h.2.1)]
        exact .inl ⟨rfl, rfl⟩
      · by_cases he : encL d4.key = s.data.toList
        · rw [if_pos ⟨hne, rfl, rfl, he⟩]
          exact .inr (.inr (.inr ⟨rfl, rfl, by rw [he, bs_list]; simp, rfl⟩))
        · rw [if_neg (fun h => he h.2.2.2)]
          refine .inr (.inr (.inl ⟨rfl, rfl, ?_, rfl⟩))
          rw [beq_eq_false_iff_ne, ByteArray.toList_eq, ByteArray.toList_eq]
          exact he
  exact ⟨d1.key, bs d1.rest, d1.is, d2.key, bs d2.rest, d2.is, d3.key, bs d3.rest, d4.key, by rw [bs_size]; omega, by rw [bs_size]; omega, by rw [bs_size]; omega, p1, p2, p3, p4, p5⟩

end Go.Proofs.YtaeiahkomdpcoaaDoor.Name
end

section
/- The walk of package name's Decode, of any bytes. -/
namespace Go.Proofs.YtaeiahkomdpcoaaDoor.Name
open Go.RowKit Go.Shelf

set_option maxHeartbeats 1000000 in
set_option maxRecDepth 100000 in
theorem decode_none (w : World) : Calls Tryd.prog 14 #[.string ⟨#[]⟩] w fun e w' => e = .returned (.tuple #[zeroK.val, .int .i64 8]) ∧ Below w.heap.size w w' := by
  go_enter Tryd.func14, Tryd.ntmps14
  go_upto_region 1 with fail
  go_cut [14] from 13 (fun s14 wx => s14 = .bool true ∧ KeyAt wx w.heap.size zeroK ∧ Below w.heap.size w wx)
  case first =>
    go_wp2_with fail
    go_meet
    case rel => exact ⟨rfl, (MapKept.heap_alloc w _).1, below_one _ _⟩
  case rest =>
    obtain ⟨rfl, hA, hb⟩ := hcut
    have g0 := hA.f 0
    have g1 := hA.f 1
    have g2 := hA.f 2
    have g3 := hA.f 3
    have g4 := hA.f 4
    obtain ⟨q0, q1, q2, q3, q4⟩ := hA.c
    have hG := hA.setAll zeroK
    go_wp2
    refine bodyPost_ret (results_key rfl _ _ w.heap.size 24 (Key.cells zeroK) (0, 0) _ rfl hG Tryd.underlying24 rfl (by kernel_rfl)) rfl ?_
    exact ⟨rfl, below_key (below_key (below_key (below_key (below_key hb ⟨w.heap.size, 0, none⟩ (Nat.le_refl _) _) ⟨w.heap.size, 1, none⟩ (Nat.le_refl _) _) ⟨w.heap.size, 2, none⟩ (Nat.le_refl _) _) ⟨w.heap.size, 3, none⟩ (Nat.le_refl _) _) ⟨w.heap.size, 4, none⟩ (Nat.le_refl _) _⟩

theorem k0_val (c : Nat) : (K0 c).val = .agg #[.int .u8 (c : Int), .string ⟨#[]⟩, .string ⟨#[]⟩, .int .u64 0, .int .i64 0] := rfl

set_option maxHeartbeats 2000000 in
set_option maxRecDepth 100000 in
theorem decode_calls (s : ByteArray) (w : World) (hv : Var0 w) (hs : s.size ≤ 4096) : Calls Tryd.prog 14 #[.string s] w fun e w' => e = .returned (decR s.data.toList) ∧ Below w.heap.size w w' := by
  by_cases hse : s = ⟨#[]⟩
  · subst hse
    exact decode_none w
  have h0 : 0 < s.size := by
    rcases Nat.eq_zero_or_pos s.size with h | h
    · exact absurd (ba_ext (List.eq_nil_of_length_eq_zero (by rw [size_list]; exact h))) hse
    · exact h
  have hne : s.toList.isEmpty = false := by rw [empty_iff, decide_eq_false hse]
  clear hse
  obtain ⟨K1, y1, i1, K2, y2, i2, K3, y3, K4, z1, z2, z3, p1, p2, p3, p4, p5⟩ := plan s hs h0
  have HH := has_calls s[0].toNat
  obtain ⟨c, hc⟩ : ∃ c, s[0].toNat = c := ⟨_, rfl⟩
  rw [hc] at p1 p2 p3 p4 HH
  unfold hasV at HH
  obtain ⟨hB, hBe⟩ : ∃ x, x = hasB c := ⟨_, rfl⟩
  obtain ⟨h3, h3e⟩ : ∃ x, x = decide (c = 3) := ⟨_, rfl⟩
  obtain ⟨hN, hNe⟩ : ∃ x, x = hasN c := ⟨_, rfl⟩
  obtain ⟨h5, h5e⟩ : ∃ x, x = decide (c = 5) := ⟨_, rfl⟩
  rw [← hBe, ← h3e, ← hNe, ← h5e] at HH
  unfold Plan1 at p1
  rw [← hBe] at p1
  unfold Plan2 at p2
  rw [← h3e] at p2
  unfold Plan3 at p3
  rw [← hNe] at p3
  unfold Plan4 at p4
  rw [← h5e] at p4
  obtain ⟨t40, q40⟩ : ∃ t, t = (i1 && h3) := ⟨_, rfl⟩
  rw [← q40] at p2
  obtain ⟨t56, q56⟩ : ∃ t, t = (i2 && (hN && decide (8 ≤ y2.size))) := ⟨_, rfl⟩
  rw [← q56] at p3
  obtain ⟨t76, q76⟩ : ∃ t, t = (i2 && (h5 && decide (y3.size = 2))) := ⟨_, rfl⟩
  rw [← q76] at p4
  have Q40 := Lib.hid q40
  have Q56 := Lib.hid q56
  have Q76 := Lib.hid q76
  clear q40 q56 q76
  have e3 : c = 3 → h3 = true := fun e => by rw [h3e, decide_eq_true e]
  have e5 : c = 5 → h5 = true := fun e => by rw [h5e, decide_eq_true e]
  have P1 := Lib.hid p1
  have P2 := Lib.hid p2
  have P3 := Lib.hid p3
  have P4 := Lib.hid p4
  have P5 := Lib.hid p5
  have HHH := Lib.hid HH
  have E3 := Lib.hid e3
  have E5 := Lib.hid e5
  have N3 := Lib.hid h3e
  clear p1 p2 p3 p4 p5 HH e3 e5 hBe h3e hNe h5e
  obtain ⟨R, hR⟩ : ∃ R, s.extract 1 s.size = R := ⟨_, rfl⟩
  rw [hR] at P1
  obtain ⟨out, hout⟩ : ∃ out, decR s.data.toList = out := ⟨_, rfl⟩
  rw [hout]
  unfold Plan5 at P5
  rw [hout] at P5
  clear hout
  have S0 : St w (K0 c) ((w.alloc (.cells zeroK.cells 24)).alloc (.cells (K0 c).cells 24)) := by
    refine ⟨KeyAt.below (w := w.alloc (.cells zeroK.cells 24)) (MapKept.heap_alloc w _).1 (below_one _ _), ?_, (hv.below (below_one w (.cells zeroK.cells 24))).below (below_one _ (.cells (K0 c).cells 24)), below_alloc (below_one w (.cells zeroK.cells 24)) (.cells (K0 c).cells 24)⟩
    have := (MapKept.heap_alloc (w.alloc (.cells zeroK.cells 24)) (.cells (K0 c).cells 24)).1
    rw [show (w.alloc (.cells zeroK.cells 24)).heap.size = w.heap.size + 1 by simp] at this
    exact this
  go_enter Tryd.func14, Tryd.ntmps14
  go_wp2_with fail
  refine (HHH.out _).mono ?_
  rintro e w1 ⟨rfl, hw1⟩
  subst hw1
  go_upto_if 29 with fail
  go_cut [9, 10] from 13 (fun s9 s10 wx => s9 = .string y1 ∧ s10 = .bool i1 ∧ St w K1 wx)
  case first =>
    rcases P1.out with ⟨he, zb, hK, HC⟩ | ⟨he, hK, hy, hi⟩
    · subst he hK
      obtain ⟨hA0, hA1, hv1, b1⟩ := S0
      clear P1 P2 P3 P4 P5 HHH E3 E5 N3
      go_wp2_with fail
      refine (HC.out _ hv1).mono ?_
      rintro e w2 ⟨rfl, hb2⟩
      have S1 : St w (K0 c) w2 := St.below ⟨hA0, hA1, hv1, b1⟩ hb2
      obtain ⟨p0, p1, p2, p3, p4⟩ := S1.2.1.c
      have f1 := S1.2.1.f 1
      go_wp2
      go_meet
      case rel => exact ⟨rfl, rfl, S1.set1 zb⟩
    · subst he hK hy hi
      clear P1 P2 P3 P4 P5 HHH E3 E5 N3
      go_wp2_with fail
      go_meet
      case rel => exact ⟨rfl, rfl, S0⟩
  case rest =>
    obtain ⟨rfl, rfl, S1⟩ := hcut
    clear hc
    clear S0 P1 HHH hR h0
    go_upto_region 8 with fail
    go_cut [40] from 13 (fun s40 wx => s40 = .bool t40 ∧ wx = wc)
    case first =>
      clear P2 P3 P4 P5 E3 E5 N3
      cases i1
      all_goals
        go_wp2_with fail
        go_meet
        case rel => exact ⟨by rw [Q40.out]; rfl, rfl⟩
    case rest =>
      obtain ⟨rfl, rfl⟩ := hcut
      go_upto_if 40 with fail
      go_cut [9, 10] from 13 (fun s9 s10 wx => s9 = .string y2 ∧ s10 = .bool i2 ∧ St w K2 wx)
      case first =>
        rcases P2.out with ⟨hi, hc3, zn, hK, HU⟩ | ⟨he, hK, hy, hi⟩
        · have ht := E3.out hc3
          have q := Q40.out
          rw [hi, ht] at q
          simp only [Bool.and_self] at q
          subst q hi hK ht
          clear Q40 P2 P3 P4 P5 E3 E5 N3 hc3
          go_wp2_with fail
          refine (HU.out _).mono ?_
          rintro e w2 ⟨rfl, hb2⟩
          have S2 := S1.below hb2
          obtain ⟨p0, p1, p2, p3, p4⟩ := S2.2.1.c
          have f1 := S2.2.1.f 2
          go_wp2
          go_meet
          case rel => exact ⟨rfl, rfl, S2.set2 zn⟩
        · subst he hK hy hi
          clear Q40 P2 P3 P4 P5 E3 E5 N3
          go_wp2_with fail
          go_meet
          case rel => exact ⟨rfl, rfl, S1⟩
      case rest =>
        obtain ⟨rfl, rfl, S2⟩ := hcut
        clear S1 P2
        go_upto_region 10 with fail
        go_cut [56] from 13 (fun s56 wx => s56 = .bool t56 ∧ wx = wc)
        case first =>
          clear P3 P4 P5 E3 E5 N3
          by_cases h8 : 8 ≤ y2.size
          · have h8' : (8 : Int) ≤ (y2.size : Int) := by omega
            cases i2 <;> cases hN
            all_goals
              go_wp2_with fail
              go_meet
              case rel => exact ⟨by rw [Q56.out]; simp [h8], rfl⟩
          · have h8' : ¬ (8 : Int) ≤ (y2.size : Int) := by omega
            cases i2 <;> cases hN
            all_goals
              go_wp2_with fail
              go_meet
              case rel => exact ⟨by rw [Q56.out]; simp [h8], rfl⟩
        case rest =>
          obtain ⟨rfl, rfl⟩ := hcut
          go_upto_if 56 with fail
          go_cut [9] from 13 (fun s9 wx => s9 = .string y3 ∧ St w K3 wx)
          case first =>
            rcases P3.out with ⟨⟨hi, hn, h8⟩, N0, hN0, hK, hy, HNum⟩ | ⟨he, hK, hy⟩
            · have q := Q56.out
              rw [hi, hn, decide_eq_true h8] at q
              simp only [Bool.and_self] at q
              subst q hi hn
              have HY := Lib.hid hy
              have h8i : (8 : Int) ≤ (y2.size : Int) := by omega
              have hd1 : decide (y2.size < 8) = false := by rw [decide_eq_false_iff_not]; omega
              obtain ⟨p0, p1, p2, p3, p4⟩ := S2.2.1.c
              have f3 := S2.2.1.f 3
              have SA := S2.set3 N0
              have n3 := N3.out
              clear Q56 P3 P4 P5 E3 E5 N3 hy
              cases h3
              · have hK' : K3 = { K2 with n := N0 } := by rw [hK, if_neg (by intro e; rw [decide_eq_true e] at n3; cases n3)]
                subst hK'
                clear hK n3
                go_wp2_with fail
                go_region_held3 (fun _ => True) (first | trivial) (first | (go_at_call 40; refine (HNum.out _).mono ?_; rintro e wN ⟨rfl, hwN⟩; subst hwN))
                all_goals
                  go_wp2_with fail
                  go_meet
                  case rel => exact ⟨by rw [HY.out], SA.drew⟩
              · have hx := comp_u64 N0 hN0
                obtain ⟨N1, hN1⟩ : ∃ N1, N1 = top - N0 := ⟨_, rfl⟩
                have hK' : K3 = { K2 with n := N1 } := by rw [hK, if_pos (by simpa using n3.symm), hN1]
                subst hK'
                rw [← hN1] at hx
                have SB := SA.set3 N1
                obtain ⟨r0, r1, r2, r3, r4⟩ := SA.2.1.c
                have f3b := SA.2.1.f 3
                clear hK n3 hN1
                go_wp2_with fail
                go_region_held3 (fun _ => True) (first | trivial) (first | (go_at_call 40; refine (HNum.out _).mono ?_; rintro e wN ⟨rfl, hwN⟩; subst hwN))
                all_goals
                  go_wp2_with fail
                  go_meet
                  case rel => exact ⟨by rw [HY.out], SB.drew⟩
            · subst he hK hy
              clear Q56 P3 P4 P5 E3 E5 N3
              go_wp2_with fail
              go_meet
              case rel => exact ⟨rfl, S2⟩
          case rest =>
            obtain ⟨rfl, S3⟩ := hcut
            clear S2 P3
            go_upto_region 14 with fail
            go_cut [76] from 13 (fun s76 wx => s76 = .bool t76 ∧ wx = wc)
            case first =>
              clear P4 P5 E3 E5 N3
              by_cases h2 : y3.size = 2
              · have h2' : ((y3.size : Int) == 2) = true := by rw [beq_iff_eq]; omega
                cases i2 <;> cases h5
                all_goals
                  go_wp2_with fail
                  go_meet
                  case rel => exact ⟨by rw [Q76.out]; simp [h2], rfl⟩
              · have h2' : ((y3.size : Int) == 2) = false := by rw [beq_eq_false_iff_ne]; omega
                cases i2 <;> cases h5
                all_goals
                  go_wp2_with fail
                  go_meet
                  case rel => exact ⟨by rw [Q76.out]; simp [h2], rfl⟩
            case rest =>
              obtain ⟨rfl, rfl⟩ := hcut
              go_upto_if 76 with fail
              go_cut [] from 13 (fun wx => St w K4 wx)
              case first =>
                rcases P4.out with ⟨⟨hi, hc5, h2⟩, N0, hN0, hK, HNum⟩ | ⟨he, hK⟩
                · have ht := E5.out hc5
                  have q := Q76.out
                  rw [hi, ht, decide_eq_true h2] at q
                  simp only [Bool.and_self] at q
                  subst q hi hK ht
                  have h2t : decide (y3.size = 2) = true := decide_eq_true h2
                  have hw0 : IntKind.i64.wrap (N0 : Int) = (N0 : Int) := IntWalk.i64_in _ (by omega)
                  obtain ⟨p0, p1, p2, p3, p4⟩ := S3.2.1.c
                  have f4 := S3.2.1.f 4
                  have S4 := S3.set4 (N0 : Int)
                  clear Q76 P4 P5 E3 E5 N3 hc5 h2
                  go_wp2_with fail
                  refine (HNum.out _).mono ?_
                  rintro e wN ⟨rfl, hwN⟩
                  subst hwN
                  go_wp2_with fail
                  go_meet
                  case rel => exact S4
                · subst he hK
                  clear Q76 P4 P5 E3 E5 N3
                  go_wp2_with fail
                  go_meet
                  case rel => exact S3
              case rest =>
                have S4 : St w K4 wc := hcut
                clear hcut S3 P4
                obtain ⟨T, E, HE, hcase⟩ := P5.out
                obtain ⟨k, kb, kn, kk, kp⟩ := K4
                unfold Key.val at HE
                have HC := Lib.hid hcase
                obtain ⟨p0, p1, p2, p3, p4⟩ := S4.2.1.c
                simp only at p0 p1 p2 p3 p4 HE
                clear P5 E3 E5 N3 hcase
                go_wp2_with fail
                refine (HE.out _ S4.2.2.1).mono ?_
                rintro e w5 ⟨rfl, hb5⟩
                have S5 := S4.below hb5
                clear p0 p1 p2 p3 p4 S4 hb5 HE
                obtain ⟨p0, p1, p2, p3, p4⟩ := S5.2.1.c
                obtain ⟨z0, z1, z2, z3, z4⟩ := S5.1.c
                have g0 := S5.1.f 0
                have g1 := S5.1.f 1
                have g2 := S5.1.f 2
                have g3 := S5.1.f 3
                have g4 := S5.1.f 4
                simp only at p0 p1 p2 p3 p4
                have b4 := S5.2.2.2
                rcases HC.out with ⟨rfl, rfl⟩ | ⟨rfl, hE0, rfl⟩ | ⟨rfl, rfl, hTs, rfl⟩ | ⟨rfl, rfl, hTs, rfl⟩
                iterate 3
                  · try (have hE1 : ¬ E = 0 := by intro e; rw [e] at hE0; exact absurd hE0 (by decide))
                    try clear hE0
                    have hG := S5.1.setAll zeroK
                    clear HC
                    go_wp2
                    refine bodyPost_ret (results_key rfl _ _ w.heap.size 24 (Key.cells zeroK) (0, 0) _ rfl hG Tryd.underlying24 rfl (by kernel_rfl)) rfl ?_
                    exact ⟨rfl, below_key (below_key (below_key (below_key (below_key b4 ⟨w.heap.size, 0, none⟩ (Nat.le_refl _) _) ⟨w.heap.size, 1, none⟩ (Nat.le_refl _) _) ⟨w.heap.size, 2, none⟩ (Nat.le_refl _) _) ⟨w.heap.size, 3, none⟩ (Nat.le_refl _) _) ⟨w.heap.size, 4, none⟩ (Nat.le_refl _) _⟩
                · have hG := S5.1.setAll ⟨k, kb, kn, kk, kp⟩
                  clear HC
                  go_wp2
                  refine bodyPost_ret (results_key rfl _ _ w.heap.size 24 (Key.cells ⟨k, kb, kn, kk, kp⟩) (0, 0) _ rfl hG Tryd.underlying24 rfl (by kernel_rfl)) rfl ?_
                  exact ⟨rfl, below_key (below_key (below_key (below_key (below_key b4 ⟨w.heap.size, 0, none⟩ (Nat.le_refl _) _) ⟨w.heap.size, 1, none⟩ (Nat.le_refl _) _) ⟨w.heap.size, 2, none⟩ (Nat.le_refl _) _) ⟨w.heap.size, 3, none⟩ (Nat.le_refl _) _) ⟨w.heap.size, 4, none⟩ (Nat.le_refl _) _⟩

end Go.Proofs.YtaeiahkomdpcoaaDoor.Name
end

section
/- Keys' bytes, byte by byte, stand in the order of keys; they are read as the keys: plain Lean, no program in sight. -/
namespace Go.Proofs.YtaeiahkomdpcoaaDoor.Name
open Go.RowKit

def orZ (a b : Int) : Int := if a = 0 then b else a
def cmpN (a b : Nat) : Int := if a < b then -1 else if b < a then 1 else 0
def cmpZ (a b : Int) : Int := if a < b then -1 else if b < a then 1 else 0
def cmpL : Bs → Bs → Int
  | [], [] => 0
  | [], _ :: _ => -1
  | _ :: _, [] => 1
  | a :: l, b :: r => if a < b then -1 else if b < a then 1 else cmpL l r
/-- Which of two keys comes first. -/
def cmpK (a b : Key) : Int := orZ (cmpN a.kind b.kind) (orZ (cmpL a.bucket.data.toList b.bucket.data.toList) (orZ (cmpL a.name.data.toList b.name.data.toList) (orZ (if a.kind = 3 then - cmpN a.n b.n else cmpN a.n b.n) (cmpZ a.part b.part))))

theorem u8_irr (a : UInt8) : ¬ a < a := by rw [UInt8.lt_iff_toNat_lt]; omega
theorem u8_tri (a b : UInt8) : (a < b ∧ ¬ b < a ∧ a ≠ b) ∨ (a = b) ∨ (b < a ∧ ¬ a < b ∧ a ≠ b) := by
  rw [UInt8.lt_iff_toNat_lt, UInt8.lt_iff_toNat_lt]
  rcases Nat.lt_trichotomy a.toNat b.toNat with h | h | h
  · exact .inl ⟨h, by omega, fun e => by rw [e] at h; omega⟩
  · exact .inr (.inl (UInt8.toNat_inj.1 h))
  · exact .inr (.inr ⟨h, by omega, fun e => by rw [e] at h; omega⟩)
theorem cmpL_cons (a b : UInt8) (l r : Bs) : cmpL (a :: l) (b :: r) = if a < b then -1 else if b < a then 1 else cmpL l r := rfl
theorem cmpL_same (c : UInt8) (l r : Bs) : cmpL (c :: l) (c :: r) = cmpL l r := by rw [cmpL_cons, if_neg (u8_irr c), if_neg (u8_irr c)]
theorem cmpL_self : ∀ l : Bs, cmpL l l = 0
  | [] => rfl
  | a :: l => by rw [cmpL_same]; exact cmpL_self l
theorem cmpL_neg : ∀ l r : Bs, cmpL r l = - cmpL l r
  | [], [] => rfl
  | [], _ :: _ => rfl
  | _ :: _, [] => rfl
  | a :: l, b :: r => by
    rw [cmpL_cons, cmpL_cons, cmpL_neg l r]
    rcases u8_tri a b with ⟨h1, h2, _⟩ | h | ⟨h1, h2, _⟩
    · rw [if_neg h2, if_pos h1, if_pos h1]; rfl
    · subst h; simp [u8_irr a]
    · rw [if_pos h1, if_neg h2, if_pos h1]
theorem cmpL_zero : ∀ l r : Bs, cmpL l r = 0 ↔ l = r
  | [], [] => by simp [cmpL]
  | [], _ :: _ => by simp [cmpL]
  | _ :: _, [] => by simp [cmpL]
  | a :: l, b :: r => by
    rw [cmpL_cons]
    rcases u8_tri a b with ⟨h1, h2, h3⟩ | h | ⟨h1, h2, h3⟩
    · rw [if_pos h1]; simp [h3]
    · subst h; rw [if_neg (u8_irr a), if_neg (u8_irr a), cmpL_zero l r]; simp
    · rw [if_neg h2, if_pos h1]; simp [h3]
theorem cmpL_less : ∀ l r : Bs, Op.bytesLess l r = decide (cmpL l r < 0)
  | [], [] => rfl
  | [], _ :: _ => rfl
  | _ :: _, [] => rfl
  | a :: l, b :: r => by
    rw [cmpL_cons, Op.bytesLess, cmpL_less l r]
    rcases u8_tri a b with ⟨h1, h2, h3⟩ | h | ⟨h1, h2, h3⟩
    · simp [h1]
    · subst h; simp [u8_irr a]
    · simp [h1, h2, h3]
/-- Of two texts neither of which begins the other, what stands behind matters only where they are one. -/
theorem cmpL_app : ∀ (a b r s : Bs), (a <+: b → a = b) → (b <+: a → b = a) → cmpL (a ++ r) (b ++ s) = orZ (cmpL a b) (cmpL r s)
  | [], [], r, s, _, _ => by simp [cmpL, orZ]
  | [], b :: y, _, _, h, _ => absurd (h (List.nil_prefix)) (by simp)
  | a :: x, [], _, _, _, h => absurd (h (List.nil_prefix)) (by simp)
  | a :: x, b :: y, r, s, h1, h2 => by
    rw [List.cons_append, List.cons_append, cmpL_cons, cmpL_cons]
    rcases u8_tri a b with ⟨h3, h4, h5⟩ | h | ⟨h3, h4, h5⟩
    · rw [if_pos h3, if_pos h3]; rfl
    · subst h
      rw [if_neg (u8_irr a), if_neg (u8_irr a), if_neg (u8_irr a), if_neg (u8_irr a)]
      exact cmpL_app x y r s (fun h => by have := h1 (by simpa using h); simpa using this) (fun h => by have := h2 (by simpa using h); simpa using this)
    · rw [if_neg h4, if_pos h3, if_neg h4, if_pos h3]; rfl
theorem cmpL_app_len (a b r s : Bs) (h : a.length = b.length) : cmpL (a ++ r) (b ++ s) = orZ (cmpL a b) (cmpL r s) :=
  cmpL_app a b r s (fun hp => hp.eq_of_length h) (fun hp => hp.eq_of_length h.symm)

theorem cmpN_u8 (a b : UInt8) : cmpL [a] [b] = cmpN a.toNat b.toNat := by
  rw [cmpL_cons]
  unfold cmpN
  have h1 := @UInt8.lt_iff_toNat_lt a b
  have h2 := @UInt8.lt_iff_toNat_lt b a
  by_cases g1 : a < b
  · rw [if_pos g1, if_pos (h1.1 g1)]
  · rw [if_neg g1, if_neg (fun h => g1 (h1.2 h))]
    by_cases g2 : b < a
    · rw [if_pos g2, if_pos (h2.1 g2)]
    · rw [if_neg g2, if_neg (fun h => g2 (h2.2 h))]; rfl
theorem cmpN_orZ (x m n : Nat) (hx : 0 < x) : orZ (cmpN (m / x) (n / x)) (cmpN (m % x) (n % x)) = cmpN m n := by
  have h1 := Nat.div_add_mod m x
  have h2 := Nat.div_add_mod n x
  have h3 := Nat.mod_lt m hx
  have h4 := Nat.mod_lt n hx
  have key : ∀ p q a b : Nat, p < q → a < x → x * p + a < x * q + b := fun p q a b hpq ha => by
    have : x * (p + 1) ≤ x * q := Nat.mul_le_mul_left _ hpq
    rw [Nat.mul_add] at this
    omega
  rcases Nat.lt_trichotomy (m / x) (n / x) with h | h | h
  · have := key _ _ (m % x) (n % x) h h3
    rw [h1, h2] at this
    unfold orZ cmpN
    rw [if_pos h, if_neg (by decide), if_pos this]
  · have e : cmpN (m / x) (n / x) = 0 := by unfold cmpN; rw [h, if_neg (Nat.lt_irrefl _), if_neg (Nat.lt_irrefl _)]
    rw [e, orZ, if_pos rfl]
    rw [h] at h1
    unfold cmpN
    rcases Nat.lt_trichotomy (m % x) (n % x) with g | g | g
    · rw [if_pos g, if_pos (by omega)]
    · rw [g, if_neg (Nat.lt_irrefl _), if_neg (Nat.lt_irrefl _), if_neg (by omega), if_neg (by omega)]
    · rw [if_neg (by omega), if_pos g, if_neg (by omega), if_pos (by omega)]
  · have := key _ _ (n % x) (m % x) h h4
    rw [h1, h2] at this
    unfold orZ cmpN
    have g1 : ¬ m / x < n / x := by omega
    have g2 : ¬ m < n := by omega
    simp only [g1, h, g2, this, if_true, if_false]
    rfl
theorem cmpL_be (k : Nat) : ∀ m n, m < 256 ^ k → n < 256 ^ k → cmpL (be k m) (be k n) = cmpN m n := by
  induction k with
  | zero => intro m n hm hn; simp at hm hn; subst hm hn; rfl
  | succ k ih =>
    intro m n hm hn
    rw [Nat.pow_succ] at hm hn
    rw [be, be, cmpL_app_len _ _ _ _ (by rw [be_length, be_length]), ih _ _ (by omega) (by omega), cmpN_u8]
    rw [UInt8.toNat_ofNat', UInt8.toNat_ofNat']
    rw [show 2 ^ 8 = 256 from rfl, Nat.mod_mod, Nat.mod_mod]
    exact cmpN_orZ 256 m n (by decide)

theorem cmpL_bucket : ∀ x y : Bs, (∀ c ∈ x, c ≠ 0) → (∀ c ∈ y, c ≠ 0) → cmpL (x ++ [0]) (y ++ [0]) = cmpL x y
  | [], [], _, _ => rfl
  | [], d :: y, _, hy => by
    have hd := hy d (by simp)
    have h0 : (0 : UInt8) < d := by
      rw [UInt8.lt_iff_toNat_lt]
      rcases Nat.eq_zero_or_pos d.toNat with h | h
      · exact absurd (UInt8.toNat_inj.1 h) hd
      · exact h
    rw [List.nil_append, List.cons_append, cmpL_cons, if_pos h0]; rfl
  | c :: x, [], hx, _ => by
    have hd := hx c (by simp)
    have h0 : (0 : UInt8) < c := by
      rw [UInt8.lt_iff_toNat_lt]
      rcases Nat.eq_zero_or_pos c.toNat with h | h
      · exact absurd (UInt8.toNat_inj.1 h) hd
      · exact h
    rw [List.nil_append, List.cons_append, cmpL_cons, if_pos h0, if_neg]
    · rfl
    · rw [UInt8.lt_iff_toNat_lt] at h0 ⊢; omega
  | c :: x, d :: y, hx, hy => by
    rw [List.cons_append, List.cons_append, cmpL_cons, cmpL_cons, cmpL_bucket x y (fun e he => hx e (List.mem_cons_of_mem _ he)) (fun e he => hy e (List.mem_cons_of_mem _ he))]
theorem esc_one (c : UInt8) (l : Bs) : esc (c :: l) = if c = 0 then 0 :: 255 :: esc l else c :: esc l := rfl
theorem u8_pos {c : UInt8} (h : c ≠ 0) : (0 : UInt8) < c := by
  rw [UInt8.lt_iff_toNat_lt]
  rcases Nat.eq_zero_or_pos c.toNat with h2 | h2
  · exact absurd (UInt8.toNat_inj.1 h2) h
  · exact h2
theorem u8_notneg (c : UInt8) : ¬ c < (0 : UInt8) := by
  rw [UInt8.lt_iff_toNat_lt]
  exact Nat.not_lt_zero _
theorem cmpL_esc : ∀ x y : Bs, cmpL (esc x ++ [0, 1]) (esc y ++ [0, 1]) = cmpL x y
  | [], [] => rfl
  | [], d :: y => by
    rw [esc_one]
    by_cases hd : d = 0
    · rw [if_pos hd]; rfl
    · rw [if_neg hd]
      show cmpL (0 :: [1]) (d :: _) = -1
      rw [cmpL_cons, if_pos (u8_pos hd)]
  | c :: x, [] => by
    rw [esc_one]
    by_cases hd : c = 0
    · rw [if_pos hd]; rfl
    · rw [if_neg hd]
      show cmpL (c :: _) (0 :: [1]) = 1
      rw [cmpL_cons, if_neg (u8_notneg c), if_pos (u8_pos hd)]
  | c :: x, d :: y => by
    have ih := cmpL_esc x y
    rw [esc_one, esc_one]
    by_cases hc : c = 0
    · by_cases hd : d = 0
      · rw [if_pos hc, if_pos hd, hc, hd, List.cons_append, List.cons_append, List.cons_append, List.cons_append, cmpL_same, cmpL_same, cmpL_same]; exact ih
      · rw [if_pos hc, if_neg hd, hc, List.cons_append, List.cons_append, List.cons_append, cmpL_cons, cmpL_cons, if_pos (u8_pos hd), if_pos (u8_pos hd)]
    · by_cases hd : d = 0
      · rw [if_neg hc, if_pos hd, hd, List.cons_append, List.cons_append, List.cons_append, cmpL_cons, cmpL_cons, if_neg (u8_notneg c), if_neg (u8_notneg c), if_pos (u8_pos hc), if_pos (u8_pos hc)]
      · rw [if_neg hc, if_neg hd, List.cons_append, List.cons_append, cmpL_cons, cmpL_cons, ih]

theorem orZ_zero (a : Int) : orZ a 0 = a := by unfold orZ; split <;> simp_all
theorem zero_orZ (a : Int) : orZ 0 a = a := rfl
theorem orZ_eq_zero (a b : Int) : orZ a b = 0 ↔ a = 0 ∧ b = 0 := by
  unfold orZ
  split
  · rename_i h; simp [h]
  · rename_i h; simp [h]
theorem orZ_neg (a b : Int) : orZ (-a) (-b) = - orZ a b := by
  unfold orZ
  by_cases h : a = 0
  · subst h; simp
  · rw [if_neg h, if_neg (by omega)]
theorem cmpN_neg (a b : Nat) : cmpN b a = - cmpN a b := by
  unfold cmpN
  rcases Nat.lt_trichotomy a b with h | h | h
  · rw [if_neg (by omega), if_pos h, if_pos h]; rfl
  · subst h; simp
  · rw [if_pos h, if_neg (by omega), if_pos h]
theorem cmpN_zero (a b : Nat) : cmpN a b = 0 ↔ a = b := by
  unfold cmpN
  rcases Nat.lt_trichotomy a b with h | h | h
  · rw [if_pos h]; constructor
    · intro h; cases h
    · omega
  · subst h; rw [if_neg (Nat.lt_irrefl _)]; simp
  · rw [if_neg (by omega), if_pos h]; constructor
    · intro h; cases h
    · omega
theorem cmpZ_neg (a b : Int) : cmpZ b a = - cmpZ a b := by
  unfold cmpZ
  rcases Int.lt_trichotomy a b with h | h | h
  · rw [if_neg (by omega), if_pos h, if_pos h]; rfl
  · subst h; simp
  · rw [if_pos h, if_neg (by omega), if_pos h]
theorem cmpZ_zero (a b : Int) : cmpZ a b = 0 ↔ a = b := by
  unfold cmpZ
  rcases Int.lt_trichotomy a b with h | h | h
  · rw [if_pos h]; constructor
    · intro h; cases h
    · omega
  · subst h; rw [if_neg (Int.lt_irrefl _)]; simp
  · rw [if_neg (by omega), if_pos h]; constructor
    · intro h; cases h
    · omega

/-- The order the other way round. -/
theorem cmpK_neg (a b : Key) : cmpK b a = - cmpK a b := by
  unfold cmpK
  rw [cmpN_neg a.kind b.kind, cmpL_neg a.bucket.data.toList, cmpL_neg a.name.data.toList, cmpN_neg a.n b.n, cmpZ_neg a.part b.part]
  by_cases hk : a.kind = b.kind
  · rw [hk]
    rw [← orZ_neg, ← orZ_neg, ← orZ_neg, ← orZ_neg]
    congr 4
    split <;> rfl
  · have h0 : cmpN a.kind b.kind ≠ 0 := fun h => hk ((cmpN_zero _ _).1 h)
    unfold orZ
    rw [if_neg (by omega), if_neg h0]
theorem cmpK_zero (a b : Key) : cmpK a b = 0 ↔ a = b := by
  obtain ⟨ak, ab, an, ann, ap⟩ := a
  obtain ⟨bk, bb, bn, bnn, bp⟩ := b
  unfold cmpK
  simp only [orZ_eq_zero, cmpN_zero, cmpL_zero, cmpZ_zero, Key.mk.injEq]
  have e : ((if ak = 3 then -cmpN ann bnn else cmpN ann bnn) = 0) ↔ ann = bnn := by
    split
    · rw [Int.neg_eq_zero, cmpN_zero]
    · exact cmpN_zero _ _
  rw [e]
  exact ⟨fun ⟨h1, h2, h3, h4, h5⟩ => ⟨h1, ba_ext h2, ba_ext h3, h4, h5⟩, fun ⟨h1, h2, h3, h4, h5⟩ => ⟨h1, by rw [h2], by rw [h3], h4, h5⟩⟩

/-- Keys' bytes stand in the order of keys. -/
theorem cmpL_enc {a b : Key} (ha : mayB a = true) (hb : mayB b = true) (na : a.n ≤ top) (nb : b.n ≤ top) : cmpL (encL a) (encL b) = cmpK a b := by
  obtain ⟨ka, a1, a2, _, a4, a5, a6, a7⟩ := may_facts ha
  obtain ⟨kb, b1, b2, _, b4, b5, b6, b7⟩ := may_facts hb
  obtain ⟨ak, ab, an, ann, ap⟩ := a
  obtain ⟨bk, bb, bn, bnn, bp⟩ := b
  simp only at *
  have e8 : (256 : Nat) ^ 8 = 18446744073709551616 := by decide
  have e2 : (256 : Nat) ^ 2 = 65536 := by decide
  have hkk : cmpL [UInt8.ofNat ak] [UInt8.ofNat bk] = cmpN ak bk := by
    rw [cmpN_u8, UInt8.toNat_ofNat', UInt8.toNat_ofNat', Nat.mod_eq_of_lt (by omega), Nat.mod_eq_of_lt (by omega)]
  unfold cmpK
  simp only
  have hsplit : ∀ r s : Bs, cmpL (UInt8.ofNat ak :: r) (UInt8.ofNat bk :: s) = orZ (cmpN ak bk) (cmpL r s) := fun r s => by
    rw [← hkk]
    exact cmpL_app_len [UInt8.ofNat ak] [UInt8.ofNat bk] r s rfl
  unfold encL
  rw [hsplit]
  clear hsplit hkk
  by_cases hk : ak = bk
  case neg =>
    have h0 : cmpN ak bk ≠ 0 := fun h => hk ((cmpN_zero _ _).1 h)
    unfold orZ
    rw [if_neg h0, if_neg h0]
  subst hk
  congr 1
  simp only
  have hB : ∀ r s : Bs, cmpL ((if hasB ak = true then ab.data.toList ++ [0] else []) ++ r) ((if hasB ak = true then bb.data.toList ++ [0] else []) ++ s) = orZ (cmpL ab.data.toList bb.data.toList) (cmpL r s) := fun r s => by
    cases hh : hasB ak
    · rw [a2 hh, b2 hh]; rfl
    · rw [if_pos rfl, if_pos rfl]
      have z1 := bucket_nz (a1 hh)
      have z2 := bucket_nz (b1 hh)
      rw [cmpL_app _ _ r s (fun h => by rw [(pre_bucket (r := []) (s := []) z1 z2 h).1]) (fun h => by rw [(pre_bucket (r := []) (s := []) z2 z1 h).1]), cmpL_bucket _ _ z1 z2]
  rw [hB]
  clear hB
  congr 1
  by_cases h3 : ak = 3
  · subst h3
    rw [if_pos rfl, if_pos rfl, if_pos rfl, if_neg (by decide), if_neg (by decide), List.append_nil, List.append_nil, a7 (by decide), b7 (by decide)]
    rw [show cmpZ 0 0 = 0 from rfl, orZ_zero]
    rw [cmpL_app _ _ _ _ (fun h => by rw [(pre_esc (r := []) (s := []) h).1]) (fun h => by rw [(pre_esc (r := []) (s := []) h).1]), cmpL_esc, cmpL_be 8 _ _ (by unfold top; omega) (by unfold top; omega)]
    congr 1
    unfold cmpN
    unfold top at na nb ⊢
    rcases Nat.lt_trichotomy ann bnn with h | h | h
    · rw [if_neg (by omega), if_pos (by omega), if_pos h]; rfl
    · rw [h, if_neg (Nat.lt_irrefl _), if_neg (Nat.lt_irrefl _), if_neg (Nat.lt_irrefl _), if_neg (Nat.lt_irrefl _)]; rfl
    · rw [if_pos (by omega), if_neg (by omega), if_pos h]
  · rw [if_neg h3, if_neg h3, if_neg h3, a4 h3, b4 h3]
    rw [show cmpL (⟨#[]⟩ : ByteArray).data.toList (⟨#[]⟩ : ByteArray).data.toList = 0 from rfl, zero_orZ]
    have hN : ∀ r s : Bs, cmpL ((if hasN ak = true then be 8 ann else []) ++ r) ((if hasN ak = true then be 8 bnn else []) ++ s) = orZ (cmpN ann bnn) (cmpL r s) := fun r s => by
      cases hh : hasN ak
      · rw [a5 hh, b5 hh]; rfl
      · rw [if_pos rfl, if_pos rfl, cmpL_app_len _ _ _ _ (by rw [be_length, be_length]), cmpL_be 8 _ _ (by unfold top at na; omega) (by unfold top at nb; omega)]
    rw [hN]
    congr 1
    by_cases h5 : ak = 5
    · rw [if_pos h5, if_pos h5]
      have h7 := a6 h5
      have h8 := b6 h5
      rw [cmpL_be 2 _ _ (by omega) (by omega)]
      unfold cmpN cmpZ
      rcases Int.lt_trichotomy ap bp with h | h | h
      · rw [if_pos (by omega), if_pos h]
      · rw [h, if_neg (Nat.lt_irrefl _), if_neg (Nat.lt_irrefl _), if_neg (Int.lt_irrefl _), if_neg (Int.lt_irrefl _)]
      · rw [if_neg (by omega), if_pos (by omega), if_neg (by omega), if_pos h]
    · rw [if_neg h5, if_neg h5, a7 h5, b7 h5]; rfl

theorem cut_at : ∀ (x r : Bs), (∀ c ∈ x, c ≠ 0) → Lib.cut (x ++ 0 :: r) [0] = (x, r, true) := fun x r hx => by
  have h1 : Lib.index (x ++ 0 :: r) [0] = x.length := by
    refine Lib.index_first (i := x.length) (by simp) ?_ (fun j hj => ?_)
    · unfold Lib.occAt
      rw [List.drop_left]; rfl
    · unfold Lib.occAt
      have hl : j < (x ++ 0 :: r).length := by simp; omega
      rw [List.drop_eq_getElem_cons hl]
      have e : (x ++ 0 :: r)[j] = x[j] := List.getElem_append_left hj
      rw [e]
      have : x[j] ≠ 0 := hx _ (List.getElem_mem hj)
      simp only [List.isPrefixOf]
      rw [Bool.and_eq_false_iff]
      exact .inl (by rw [beq_eq_false_iff_ne]; exact fun h => this h.symm)
  unfold Lib.cut
  rw [h1, if_pos (by omega)]
  simp only [Int.toNat_natCast, List.length_singleton]
  rw [List.take_left, show x ++ 0 :: r = (x ++ [0]) ++ r by simp, List.drop_left' (by simp)]
theorem bs_data (x : ByteArray) : bs x.data.toList = x := ba_ext rfl

/-- A key's bytes are read as the key. -/
theorem dec_enc {k : Key} (h : mayB k = true) (hn : k.n ≤ top) : decR (encL k) = .tuple #[k.val, .int .i64 0] := by
  obtain ⟨kk, a1, a2, a3, a4, a5, a6, a7⟩ := may_facts h
  obtain ⟨r1, hr1⟩ : ∃ r, r = (if k.kind = 5 then be 2 k.part.toNat else []) := ⟨_, rfl⟩
  obtain ⟨r2, hr2⟩ : ∃ r, r = (if k.kind = 3 then esc k.name.data.toList ++ [0, 1] ++ be 8 (top - k.n) else if hasN k.kind then be 8 k.n else []) ++ r1 := ⟨_, rfl⟩
  obtain ⟨r3, hr3⟩ : ∃ r, r = (if hasB k.kind then k.bucket.data.toList ++ [0] else []) ++ r2 := ⟨_, rfl⟩
  have hE : encL k = UInt8.ofNat k.kind :: r3 := by rw [hr3, hr2, hr1]; rfl
  have e8 : (256 : Nat) ^ 8 = 18446744073709551616 := by decide
  have e2 : (256 : Nat) ^ 2 = 65536 := by decide
  have hc : ((encL k).getD 0 0).toNat = k.kind := by
    rw [hE]
    show (UInt8.ofNat k.kind).toNat = _
    rw [UInt8.toNat_ofNat', Nat.mod_eq_of_lt (by omega)]
  have hd1 : dec1 k.kind r3 = ⟨⟨k.kind, k.bucket, ⟨#[]⟩, 0, 0⟩, r2, true⟩ := by
    unfold dec1
    rw [hr3]
    cases hh : hasB k.kind
    · rw [a2 hh]; rfl
    · rw [if_pos rfl, if_pos rfl, List.append_assoc, List.singleton_append, cut_at _ _ (bucket_nz (a1 hh)), bs_data]
  obtain ⟨r2', hr2'⟩ : ∃ r, r = (if k.kind = 3 then be 8 (top - k.n) else if hasN k.kind then be 8 k.n else []) ++ r1 := ⟨_, rfl⟩
  have hd2 : dec2 ⟨⟨k.kind, k.bucket, ⟨#[]⟩, 0, 0⟩, r2, true⟩ = ⟨⟨k.kind, k.bucket, k.name, 0, 0⟩, r2', true⟩ := by
    unfold dec2
    rw [hr2, hr2']
    by_cases h3 : k.kind = 3
    · simp only [h3, decide_true, Bool.and_self, if_true]
      rw [List.append_assoc, List.append_assoc]
      rw [show esc k.name.data.toList ++ ([0, 1] ++ (be 8 (top - k.n) ++ r1)) = esc k.name.data.toList ++ 0 :: 1 :: (be 8 (top - k.n) ++ r1) from rfl, un_esc]
      simp only [bs_data]
    · rw [if_neg (by simp [h3]), if_neg h3, if_neg h3, a4 h3]
  have hd3 : dec3 ⟨⟨k.kind, k.bucket, k.name, 0, 0⟩, r2', true⟩ = ⟨⟨k.kind, k.bucket, k.name, k.n, 0⟩, r1, true⟩ := by
    unfold dec3
    simp only
    cases hh : hasN k.kind
    · have h3 : k.kind ≠ 3 := fun e => by rw [e] at hh; cases hh
      rw [if_neg (by simp), a5 hh, hr2', hh, if_neg h3, if_neg (by simp)]; rfl
    · obtain ⟨N, hN⟩ : ∃ N, N = if k.kind = 3 then top - k.n else k.n := ⟨_, rfl⟩
      have hr : r2' = be 8 N ++ r1 := by
        rw [hr2', hN, hh]
        by_cases h3 : k.kind = 3
        · rw [if_pos h3, if_pos h3]
        · rw [if_neg h3, if_neg h3, if_pos rfl]
      have hNt : N ≤ top := by rw [hN]; split <;> omega
      have hl : (be 8 N).length = 8 := be_length 8 N
      rw [hr, if_pos (by simp [hl]), List.take_left' hl, List.drop_left' hl, val_be 8 N (by unfold top at hNt; omega), hN]
      by_cases h3 : k.kind = 3
      · rw [if_pos h3, if_pos h3, show top - (top - k.n) = k.n by omega]
      · rw [if_neg h3, if_neg h3]
  have hd4 : dec4 ⟨⟨k.kind, k.bucket, k.name, k.n, 0⟩, r1, true⟩ = ⟨k, r1, true⟩ := by
    unfold dec4
    simp only
    by_cases h5 : k.kind = 5
    · have hl : r1.length = 2 := by rw [hr1, if_pos h5, be_length]
      have := a6 h5
      rw [if_pos (by simp [h5, hl]), hr1, if_pos h5, val_be 2 _ (by omega), Int.toNat_of_nonneg (by omega)]
    · rw [if_neg (by simp [h5]), ← a7 h5]
  have hD : decD (encL k) = ⟨k, r1, true⟩ := by
    unfold decD
    rw [hc, hE, List.drop_one, List.tail_cons, hd1, hd2, hd3, hd4]
  unfold decR
  rw [hD, if_pos ⟨by rw [hE]; simp, rfl, h, rfl⟩]

end Go.Proofs.YtaeiahkomdpcoaaDoor.Name
end

section
/- The walks of cmp.Compare, cmp.Or, and package name's Compare. -/
namespace Go.Proofs.YtaeiahkomdpcoaaDoor.Name
open Go.RowKit Go.Shelf

theorem nan_u64 (x : Int) (w : World) : Calls Tryd.prog 64 #[.int .u64 x] w fun e w' => e = .returned (.bool false) ∧ w' = w := by
  go_enter Tryd.func64, Tryd.ntmps64
  go_wp2
  go_ret
  exact ⟨by simp, rfl⟩
theorem nan_u8 (x : Int) (w : World) : Calls Tryd.prog 65 #[.int .u8 x] w fun e w' => e = .returned (.bool false) ∧ w' = w := by
  go_enter Tryd.func65, Tryd.ntmps65
  go_wp2
  go_ret
  exact ⟨by simp, rfl⟩
theorem nan_int (x : Int) (w : World) : Calls Tryd.prog 67 #[.int .i64 x] w fun e w' => e = .returned (.bool false) ∧ w' = w := by
  go_enter Tryd.func67, Tryd.ntmps67
  go_wp2
  go_ret
  exact ⟨by simp, rfl⟩
theorem nan_str (x : ByteArray) (w : World) : Calls Tryd.prog 66 #[.string x] w fun e w' => e = .returned (.bool false) ∧ w' = w := by
  go_enter Tryd.func66, Tryd.ntmps66
  go_wp2
  go_ret
  exact ⟨by simp, rfl⟩

theorem cmpN_cast (a b : Nat) : cmpZ (a : Int) (b : Int) = cmpN a b := by
  unfold cmpZ cmpN
  rcases Nat.lt_trichotomy a b with h | h | h
  · rw [if_pos (by omega), if_pos h]
  · subst h; simp
  · rw [if_neg (by omega), if_pos (by omega), if_neg (by omega), if_pos h]
theorem cmpZ_lt {a b : Int} (h : a < b) : cmpZ a b = -1 := if_pos h
theorem cmpZ_gt {a b : Int} (h : b < a) : cmpZ a b = 1 := by unfold cmpZ; rw [if_neg (by omega), if_pos h]
theorem cmpZ_eq (a : Int) : cmpZ a a = 0 := by unfold cmpZ; simp

set_option maxHeartbeats 1000000 in
theorem compare_u64 (x y : Int) (w : World) : Calls Tryd.prog 41 #[.int .u64 x, .int .u64 y] w fun e w' => e = .returned (.int .i64 (cmpZ x y)) ∧ w' = w := by
  rcases Int.lt_trichotomy x y with h | h | h
  · rw [cmpZ_lt h]
    go_enter Tryd.func41, Tryd.ntmps41
    go_wp2_with (go_at_call 64; refine (nan_u64 _ _).mono ?_; rintro e w' ⟨rfl, hw⟩; rw [hw])
    go_ret
    exact ⟨rfl, rfl⟩
  · subst h
    rw [cmpZ_eq]
    have h1 : ¬ x < x := Int.lt_irrefl _
    go_enter Tryd.func41, Tryd.ntmps41
    go_wp2_with (go_at_call 64; refine (nan_u64 _ _).mono ?_; rintro e w' ⟨rfl, hw⟩; rw [hw])
    go_ret
    exact ⟨rfl, rfl⟩
  · rw [cmpZ_gt h]
    have h1 : ¬ x < y := by omega
    go_enter Tryd.func41, Tryd.ntmps41
    go_wp2_with (go_at_call 64; refine (nan_u64 _ _).mono ?_; rintro e w' ⟨rfl, hw⟩; rw [hw])
    go_ret
    exact ⟨rfl, rfl⟩

set_option maxHeartbeats 1000000 in
theorem compare_u8 (x y : Int) (w : World) : Calls Tryd.prog 43 #[.int .u8 x, .int .u8 y] w fun e w' => e = .returned (.int .i64 (cmpZ x y)) ∧ w' = w := by
  rcases Int.lt_trichotomy x y with h | h | h
  · rw [cmpZ_lt h]
    go_enter Tryd.func43, Tryd.ntmps43
    go_wp2_with (go_at_call 65; refine (nan_u8 _ _).mono ?_; rintro e w' ⟨rfl, hw⟩; rw [hw])
    go_ret
    exact ⟨rfl, rfl⟩
  · subst h
    rw [cmpZ_eq]
    have h1 : ¬ x < x := Int.lt_irrefl _
    go_enter Tryd.func43, Tryd.ntmps43
    go_wp2_with (go_at_call 65; refine (nan_u8 _ _).mono ?_; rintro e w' ⟨rfl, hw⟩; rw [hw])
    go_ret
    exact ⟨rfl, rfl⟩
  · rw [cmpZ_gt h]
    have h1 : ¬ x < y := by omega
    go_enter Tryd.func43, Tryd.ntmps43
    go_wp2_with (go_at_call 65; refine (nan_u8 _ _).mono ?_; rintro e w' ⟨rfl, hw⟩; rw [hw])
    go_ret
    exact ⟨rfl, rfl⟩

set_option maxHeartbeats 1000000 in
theorem compare_int (x y : Int) (w : World) : Calls Tryd.prog 45 #[.int .i64 x, .int .i64 y] w fun e w' => e = .returned (.int .i64 (cmpZ x y)) ∧ w' = w := by
  rcases Int.lt_trichotomy x y with h | h | h
  · rw [cmpZ_lt h]
    go_enter Tryd.func45, Tryd.ntmps45
    go_wp2_with (go_at_call 67; refine (nan_int _ _).mono ?_; rintro e w' ⟨rfl, hw⟩; rw [hw])
    go_ret
    exact ⟨rfl, rfl⟩
  · subst h
    rw [cmpZ_eq]
    have h1 : ¬ x < x := Int.lt_irrefl _
    go_enter Tryd.func45, Tryd.ntmps45
    go_wp2_with (go_at_call 67; refine (nan_int _ _).mono ?_; rintro e w' ⟨rfl, hw⟩; rw [hw])
    go_ret
    exact ⟨rfl, rfl⟩
  · rw [cmpZ_gt h]
    have h1 : ¬ x < y := by omega
    go_enter Tryd.func45, Tryd.ntmps45
    go_wp2_with (go_at_call 67; refine (nan_int _ _).mono ?_; rintro e w' ⟨rfl, hw⟩; rw [hw])
    go_ret
    exact ⟨rfl, rfl⟩

theorem cmpL_range : ∀ l r : Bs, cmpL l r = -1 ∨ cmpL l r = 0 ∨ cmpL l r = 1
  | [], [] => .inr (.inl rfl)
  | [], _ :: _ => .inl rfl
  | _ :: _, [] => .inr (.inr rfl)
  | a :: l, b :: r => by
    rw [cmpL_cons]
    split
    · exact .inl rfl
    · split
      · exact .inr (.inr rfl)
      · exact cmpL_range l r
theorem less_cmp (x y : ByteArray) : Op.bytesLess x.toList y.toList = decide (cmpL x.data.toList y.data.toList < 0) := by
  rw [ByteArray.toList_eq, ByteArray.toList_eq]; exact cmpL_less _ _

set_option maxHeartbeats 1000000 in
theorem compare_str (x y : ByteArray) (w : World) : Calls Tryd.prog 44 #[.string x, .string y] w fun e w' => e = .returned (.int .i64 (cmpL x.data.toList y.data.toList)) ∧ w' = w := by
  have h1 := less_cmp x y
  have h2 := less_cmp y x
  rw [cmpL_neg x.data.toList y.data.toList] at h2
  have h3 : (x.toList == y.toList) = decide (cmpL x.data.toList y.data.toList = 0) := by
    rw [ByteArray.toList_eq, ByteArray.toList_eq, Bool.eq_iff_iff, beq_iff_eq, decide_eq_true_iff, cmpL_zero]
  obtain ⟨c, hc⟩ : ∃ c, c = cmpL x.data.toList y.data.toList := ⟨_, rfl⟩
  have hr := cmpL_range x.data.toList y.data.toList
  rw [← hc] at h1 h2 h3 hr
  rw [← hc]
  clear hc
  rcases hr with rfl | rfl | rfl
  all_goals
    first
      | (replace h1 : Op.bytesLess x.toList y.toList = true := h1
         replace h2 : Op.bytesLess y.toList x.toList = false := h2
         replace h3 : (x.toList == y.toList) = false := h3)
      | (replace h1 : Op.bytesLess x.toList y.toList = false := h1
         replace h2 : Op.bytesLess y.toList x.toList = false := h2
         replace h3 : (x.toList == y.toList) = true := h3)
      | (replace h1 : Op.bytesLess x.toList y.toList = false := h1
         replace h2 : Op.bytesLess y.toList x.toList = true := h2
         replace h3 : (x.toList == y.toList) = false := h3)
    go_enter Tryd.func44, Tryd.ntmps44
    go_wp2_with (go_at_call 66; refine (nan_str _ _).mono ?_; rintro e w' ⟨rfl, hw⟩; rw [hw])
    go_ret
    exact ⟨rfl, rfl⟩

/-- The first that is not zero. -/
def orL : List Int → Int
  | [] => 0
  | a :: l => if a = 0 then orL l else a

set_option maxHeartbeats 1600000 in
set_option maxRecDepth 100000 in
theorem or_calls (A : Option Addr) (c : Nat) (t : List Int) (w : World) (h : ListAt w A (t.map (Value.int .i64))) (hn : t.length ≤ 1000) :
    Calls Tryd.prog 42 #[.slice A t.length c] w fun e w' => e = .returned (.int .i64 (orL t)) ∧ w' = w := by
  go_enter Tryd.func42, Tryd.ntmps42
  go_wp2
  go_loop [8] (fun iv => ∃ k : Nat, k ≤ t.length ∧ iv = .int .i64 (k : Int) ∧ Hid (orL t = orL (t.drop k))) (fun iv => t.length - (intOf iv).toNat)
  case atStart => exact ⟨0, by omega, rfl, Lib.hid rfl⟩
  case round =>
    obtain ⟨k, hk, rfl, hB⟩ := hrel
    by_cases hlt : k < t.length
    · obtain ⟨ad, rfl, _, hc⟩ := h (by rw [List.length_map]; omega)
      have hcx : w.cell? (ad.add k) = some (.int .i64 t[k]) := hc k _ (by simp [hlt])
      have HD := Lib.hid (List.drop_eq_getElem_cons hlt)
      obtain ⟨x, hxe⟩ : ∃ x, x = t[k] := ⟨_, rfl⟩
      rw [← hxe] at hcx HD
      clear hxe hc
      by_cases hx : x = 0
      · subst hx
        go_wp2
        go_round
        case rel => exact ⟨k + 1, by omega, by go_num, Lib.hid (by rw [hB.out, HD.out, orL, if_pos rfl])⟩
        case measure => simp [intOf]; omega
      · have hx' : (x != 0) = true := by rw [bne_iff_ne]; exact hx
        go_wp2
        go_ret
        exact ⟨by rw [hB.out, HD.out, orL, if_neg hx]; rfl, rfl⟩
    · have hk2 : k = t.length := by omega
      subst hk2
      go_wp2
      go_ret
      exact ⟨by rw [hB.out, List.drop_length]; rfl, rfl⟩

theorem cmpZ_range (a b : Int) : cmpZ a b = -1 ∨ cmpZ a b = 0 ∨ cmpZ a b = 1 := by
  unfold cmpZ
  split
  · exact .inl rfl
  · split
    · exact .inr (.inr rfl)
    · exact .inr (.inl rfl)
theorem or_five (a b c d e : Int) : orL [a, b, c, d, e] = orZ a (orZ b (orZ c (orZ d e))) := by
  simp only [orL, orZ]
  repeat' split
  all_goals simp_all

set_option maxHeartbeats 8000000 in
set_option maxRecDepth 100000 in
theorem cmpKey_calls (a b : Key) (w : World) : Calls Tryd.prog 15 #[a.val, b.val] w fun e w' => e = .returned (.int .i64 (cmpK a b)) ∧ Below w.heap.size w w' := by
  unfold cmpK
  obtain ⟨ak, ab, an, ann, ap⟩ := a
  obtain ⟨bk, bb, bn, bnn, bp⟩ := b
  unfold Key.val
  simp only
  rw [← cmpN_cast ak bk, ← cmpN_cast ann bnn]
  have H1 := fun W => compare_u8 (ak : Int) (bk : Int) W
  have H4 := fun W => compare_u64 (ann : Int) (bnn : Int) W
  have H5 := fun W => compare_int ap bp W
  obtain ⟨c1, e1⟩ : ∃ c, c = cmpZ (ak : Int) (bk : Int) := ⟨_, rfl⟩
  obtain ⟨c4, e4⟩ : ∃ c, c = cmpZ (ann : Int) (bnn : Int) := ⟨_, rfl⟩
  obtain ⟨c5, e5⟩ : ∃ c, c = cmpZ ap bp := ⟨_, rfl⟩
  have r4 := cmpZ_range (ann : Int) (bnn : Int)
  simp only [← e1] at H1 ⊢
  simp only [← e4] at H4 r4 ⊢
  simp only [← e5] at H5 ⊢
  clear e1 e4 e5
  have G1 := Lib.hid H1
  have G4 := Lib.hid H4
  have G5 := Lib.hid H5
  clear H1 H4 H5
  have hneg : IntKind.i64.wrap (-c4) = -c4 := IntWalk.i64_in _ (by omega)
  clear r4
  have hK0 : KeyAt ((w.alloc (.cells (Key.mk ak ab an ann ap).cells 24)).alloc (.cells (Key.mk bk bb bn bnn bp).cells 24)) w.heap.size ⟨ak, ab, an, ann, ap⟩ := KeyAt.below (w := w.alloc (.cells (Key.mk ak ab an ann ap).cells 24)) (MapKept.heap_alloc w _).1 (below_one _ _)
  have hK1 : KeyAt ((w.alloc (.cells (Key.mk ak ab an ann ap).cells 24)).alloc (.cells (Key.mk bk bb bn bnn bp).cells 24)) (w.heap.size + 1) ⟨bk, bb, bn, bnn, bp⟩ := by
    have := (MapKept.heap_alloc (w.alloc (.cells (Key.mk ak ab an ann ap).cells 24)) (.cells (Key.mk bk bb bn bnn bp).cells 24)).1
    rw [show (w.alloc (.cells (Key.mk ak ab an ann ap).cells 24)).heap.size = w.heap.size + 1 by simp] at this
    exact this
  have b1 := below_alloc (below_one w (.cells (Key.mk ak ab an ann ap).cells 24)) (.cells (Key.mk bk bb bn bnn bp).cells 24)
  obtain ⟨n, hn⟩ : ∃ n, n = (if ak = 3 then -c4 else c4) := ⟨_, rfl⟩
  rw [← hn]
  go_enter Tryd.func15, Tryd.ntmps15
  go_wp2_with fail
  refine (G4.out _).mono ?_
  rintro e w1 ⟨rfl, hw1⟩
  subst hw1
  go_upto_if 13 with fail
  go_cut [5] from 5 (fun s5 wx => s5 = .int .i64 n ∧ KeyAt wx w.heap.size ⟨ak, ab, an, ann, ap⟩ ∧ KeyAt wx (w.heap.size + 1) ⟨bk, bb, bn, bnn, bp⟩ ∧ Below w.heap.size w wx)
  case first =>
    by_cases h3 : ak = 3
    · have hn3 : n = -c4 := by rw [hn, if_pos h3]
      have h3' : ((ak : Int) == 3) = true := by rw [beq_iff_eq]; omega
      subst hn3
      clear hn h3
      go_wp2_with fail
      go_meet
      case rel => exact ⟨rfl, hK0, hK1, b1⟩
    · have hn3 : n = c4 := by rw [hn, if_neg h3]
      have h3' : ((ak : Int) == 3) = false := by rw [beq_eq_false_iff_ne]; omega
      subst hn3
      clear hn
      go_wp2_with fail
      go_meet
      case rel => exact ⟨rfl, hK0, hK1, b1⟩
  case rest =>
    obtain ⟨rfl, hA0, hA1, hb⟩ := hcut
    clear hK0 hK1 b1 hn hneg G4
    have hW : ∀ W : World, KeyAt W w.heap.size ⟨ak, ab, an, ann, ap⟩ → KeyAt W (w.heap.size + 1) ⟨bk, bb, bn, bnn, bp⟩ → W.cell? ⟨w.heap.size, 0, none⟩ = some (.int .u8 (ak : Int)) ∧ W.cell? ⟨w.heap.size, 1, none⟩ = some (.string ab) ∧ W.cell? ⟨w.heap.size, 2, none⟩ = some (.string an) ∧ W.cell? ⟨w.heap.size, 4, none⟩ = some (.int .i64 ap) ∧
        W.cell? ⟨w.heap.size + 1, 0, none⟩ = some (.int .u8 (bk : Int)) ∧ W.cell? ⟨w.heap.size + 1, 1, none⟩ = some (.string bb) ∧ W.cell? ⟨w.heap.size + 1, 2, none⟩ = some (.string bn) ∧ W.cell? ⟨w.heap.size + 1, 4, none⟩ = some (.int .i64 bp) := fun W h0 h1 =>
      ⟨h0.c.1, h0.c.2.1, h0.c.2.2.1, h0.c.2.2.2.2, h1.c.1, h1.c.2.1, h1.c.2.2.1, h1.c.2.2.2.2⟩
    have S0 := Lib.hid (hW wc.drew hA0.drew hA1.drew)
    have S1 := Lib.hid (hW (wc.alloc (.cells #[.int .i64 c1, .int .i64 (cmpL ab.data.toList bb.data.toList), .int .i64 (cmpL an.data.toList bn.data.toList), .int .i64 n, .int .i64 c5] 3)).drew (hA0.below (below_one _ _)).drew (hA1.below (below_one _ _)).drew)
    clear hW hA0 hA1
    have HO : Hid (Calls Tryd.prog 42 #[.slice (some ⟨wc.heap.size, 0, none⟩) 5 5] (wc.alloc (.cells #[.int .i64 c1, .int .i64 (cmpL ab.data.toList bb.data.toList), .int .i64 (cmpL an.data.toList bn.data.toList), .int .i64 n, .int .i64 c5] 3)).drew fun e w' => e = .returned (.int .i64 (orL [c1, cmpL ab.data.toList bb.data.toList, cmpL an.data.toList bn.data.toList, n, c5])) ∧ w' = (wc.alloc (.cells #[.int .i64 c1, .int .i64 (cmpL ab.data.toList bb.data.toList), .int .i64 (cmpL an.data.toList bn.data.toList), .int .i64 n, .int .i64 c5] 3)).drew) :=
      or_calls (some ⟨wc.heap.size, 0, none⟩) 5 [c1, cmpL ab.data.toList bb.data.toList, cmpL an.data.toList bn.data.toList, n, c5] (wc.alloc (.cells #[.int .i64 c1, .int .i64 (cmpL ab.data.toList bb.data.toList), .int .i64 (cmpL an.data.toList bn.data.toList), .int .i64 n, .int .i64 c5] 3)).drew (listAt_lit wc [.int .i64 c1, .int .i64 (cmpL ab.data.toList bb.data.toList), .int .i64 (cmpL an.data.toList bn.data.toList), .int .i64 n, .int .i64 c5] 3) (by simp)
    go_wp2_with fail
    go_region_held3 (fun W => W.cell? ⟨w.heap.size, 0, none⟩ = some (.int .u8 (ak : Int)) ∧ W.cell? ⟨w.heap.size, 1, none⟩ = some (.string ab) ∧ W.cell? ⟨w.heap.size, 2, none⟩ = some (.string an) ∧ W.cell? ⟨w.heap.size, 4, none⟩ = some (.int .i64 ap) ∧
        W.cell? ⟨w.heap.size + 1, 0, none⟩ = some (.int .u8 (bk : Int)) ∧ W.cell? ⟨w.heap.size + 1, 1, none⟩ = some (.string bb) ∧ W.cell? ⟨w.heap.size + 1, 2, none⟩ = some (.string bn) ∧ W.cell? ⟨w.heap.size + 1, 4, none⟩ = some (.int .i64 bp)) (first | assumption | exact S0.out | exact S1.out) (first | (go_at_call 43; refine (G1.out _).mono ?_; rintro e wN ⟨rfl, hwN⟩; subst hwN) | (go_at_call 45; refine (G5.out _).mono ?_; rintro e wN ⟨rfl, hwN⟩; subst hwN) | (go_at_call 44; refine (compare_str _ _ _).mono ?_; rintro e wN ⟨rfl, hwN⟩; subst hwN) | (go_at_call 42; refine HO.out.mono ?_; rintro e wN ⟨rfl, hwN⟩; subst hwN))
    go_wp2_with fail
    go_ret
    exact ⟨by rw [or_five]; rfl, below_drew (below_alloc hb _)⟩

end Go.Proofs.YtaeiahkomdpcoaaDoor.Name
end

section
/- Two keys held one against the other. -/
namespace Go.Proofs.YtaeiahkomdpcoaaDoor.Name
open Go.RowKit Go.Shelf

def eqB (a b : Key) : Bool := (a.kind == b.kind) && (a.bucket.toList == b.bucket.toList) && (a.name.toList == b.name.toList) && (a.n == b.n) && (a.part == b.part)
theorem nat_beq (a b : Nat) : ((a : Int) == (b : Int)) = (a == b) := by
  by_cases h : a = b
  · subst h; simp
  · rw [beq_eq_false_iff_ne.2 h, beq_eq_false_iff_ne]; omega
theorem str_beq (x y : ByteArray) : (x.toList == y.toList) = decide (x = y) := by
  rw [ByteArray.toList_eq, ByteArray.toList_eq]
  by_cases h : x = y
  · subst h; simp
  · rw [decide_eq_false h, beq_eq_false_iff_ne]
    intro e
    exact h (ByteArray.ext (Array.toList_inj.1 e))
theorem eqB_iff (a b : Key) : eqB a b = true ↔ a = b := by
  obtain ⟨ak, ab, an, ann, ap⟩ := a
  obtain ⟨bk, bb, bn, bnn, bp⟩ := b
  unfold eqB
  rw [str_beq, str_beq]
  simp only [Bool.and_eq_true, beq_iff_eq, decide_eq_true_eq, Key.mk.injEq, and_assoc]

set_option maxHeartbeats 400000 in
set_option maxRecDepth 100000 in
theorem eq_run (ak : Nat) (ab an : ByteArray) (ann : Nat) (ap : Int) (bk : Nat) (bb bn : ByteArray) (bnn : Nat) (bp : Int) (W : World) : (binOp .eql 24 (.agg #[.int .u8 (ak : Int), .string ab, .string an, .int .u64 (ann : Int), .int .i64 ap]) (.agg #[.int .u8 (bk : Int), .string bb, .string bn, .int .u64 (bnn : Int), .int .i64 bp])).run Tryd.prog W = .ok (.bool (eqB ⟨ak, ab, an, ann, ap⟩ ⟨bk, bb, bn, bnn, bp⟩)) W := by
  have hu := Tryd.underlying24
  have h5 := Tryd.underlying5
  have h9 := Tryd.underlying9
  have h22 := Tryd.underlying22
  have h3 := Tryd.underlying3
  have hp : Tryd.prog.stoodInHeld 24 = false := by kernel_rfl
  have hf : Tryd.prog.underlying 24 = some (.struct (Tryd.prog.fieldsOf 24)) := by kernel_rfl
  rw [run_eql_struct, run_equalIn_agg W 9999 _ _ _ hf hp]
  clear hf hp
  simp [Program.fieldsOf, hu, Op.eqFields, go_sem, h5, h9, h22, h3]
  unfold eqB
  simp only
  by_cases h1 : ak = bk
  · subst h1
    by_cases h2 : ab.toList = bb.toList
    · by_cases h3 : an.toList = bn.toList
      · by_cases h4 : ann = bnn
        · subst h4
          by_cases h5 : ap = bp
          · subst h5; simp [h2, h3]
          · simp [h2, h3, h5]
        · have h4' : ¬ (ann : Int) = (bnn : Int) := by omega
          simp [h2, h3, h4, h4']
      · simp [h2, h3]
    · simp [h2]
  · have h1' : ¬ (ak : Int) = (bk : Int) := by omega
    simp [h1, h1']

end Go.Proofs.YtaeiahkomdpcoaaDoor.Name
end
