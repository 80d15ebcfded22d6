/- The walk of package name's Decode, of any bytes. -/
import Derived.Test.YtaeiahkomdpcoaaDoorNamePre
import Derived.Deep.Cut
import Derived.Deep.RegionHeld3
namespace Go.Proofs.YtaeiahkomdpcoaaDoor.Name
open Go.RowKit Go.Shelf

structure Dec where
  key : Key
  rest : Bs
  is : Bool
def dec1 (c : Nat) (r : Bs) : Dec := if hasB c then ⟨⟨c, bs (Lib.cut r [0]).1, ⟨#[]⟩, 0, 0⟩, (Lib.cut r [0]).2.1, (Lib.cut r [0]).2.2⟩ else ⟨⟨c, ⟨#[]⟩, ⟨#[]⟩, 0, 0⟩, r, true⟩
def dec2 (d : Dec) : Dec := if d.is && decide (d.key.kind = 3) then (match un d.rest with
  | some p => ⟨{ d.key with name := bs p.1 }, p.2, true⟩
  | none => ⟨{ d.key with name := ⟨#[]⟩ }, [], false⟩) else d
def dec3 (d : Dec) : Dec := if d.is && hasN d.key.kind && decide (8 ≤ d.rest.length) then ⟨{ d.key with n := if d.key.kind = 3 then top - val (d.rest.take 8) else val (d.rest.take 8) }, d.rest.drop 8, d.is⟩ else d
def dec4 (d : Dec) : Dec := if d.is && decide (d.key.kind = 5) && decide (d.rest.length = 2) then ⟨{ d.key with part := (val d.rest : Int) }, d.rest, d.is⟩ else d
/-- What Decode reads of these bytes. -/
def decD (s : Bs) : Dec := dec4 (dec3 (dec2 (dec1 (s.getD 0 0).toNat (s.drop 1))))
def decR (s : Bs) : Value := if s ≠ [] ∧ (decD s).is = true ∧ mayB (decD s).key = true ∧ encL (decD s).key = s then .tuple #[(decD s).key.val, .int .i64 0] else .tuple #[zeroK.val, .int .i64 8]

theorem cut_len (r : Bs) : (Lib.cut r [0]).1.length ≤ r.length ∧ (Lib.cut r [0]).2.1.length ≤ r.length := by
  unfold Lib.cut
  split
  · simp only [List.length_take, List.length_drop]; omega
  · simp
theorem un_len : ∀ (r : Bs) (p : Bs × Bs), un r = some p → p.1.length ≤ r.length ∧ p.2.length ≤ r.length
  | [], p, h => by simp [un] at h
  | [_], p, h => by simp [un] at h
  | c :: d :: r, p, h => by
    unfold un at h
    split at h
    · cases hu : un (d :: r) with
      | none => rw [hu] at h; cases h
      | some q =>
        rw [hu] at h
        obtain rfl := (Option.some.inj h).symm
        have := un_len (d :: r) q hu
        simp only [List.length_cons] at this ⊢
        omega
    · split at h
      · cases hu : un r with
        | none => rw [hu] at h; cases h
        | some q =>
          rw [hu] at h
          obtain rfl := (Option.some.inj h).symm
          have := un_len r q hu
          simp only [List.length_cons] at this ⊢
          omega
      · split at h
        · obtain rfl := (Option.some.inj h).symm
          simp only [List.length_cons, List.length_nil]
          omega
        · cases h

/-- The state while a key is read. -/
def St (w : World) (K : Key) (w' : World) : Prop := KeyAt w' w.heap.size zeroK ∧ KeyAt w' (w.heap.size + 1) K ∧ Var0 w' ∧ Below w.heap.size w w'
section
variable {w w1 : World} {K : Key}
theorem St.below (h : St w K w1) {w2 : World} (hb : Below w1.heap.size w1 w2) : St w K w2 := ⟨h.1.below hb, h.2.1.below hb, h.2.2.1.below hb, below_of h.2.2.2 hb⟩
theorem St.drew (h : St w K w1) : St w K w1.drew := ⟨h.1.drew, h.2.1.drew, h.2.2.1.drew, below_drew h.2.2.2⟩
theorem St.put (h : St w K w1) (i : Nat) (v : Value) {K' : Key} (h2 : KeyAt (w1.setCell ⟨w.heap.size + 1, i, none⟩ v) (w.heap.size + 1) K') : St w K' (w1.setCell ⟨w.heap.size + 1, i, none⟩ v) :=
  ⟨h.1.other ⟨w.heap.size + 1, i, none⟩ (by show w.heap.size + 1 ≠ w.heap.size; omega) v, h2, h.2.2.1.set ⟨w.heap.size + 1, i, none⟩ (by show w.heap.size + 1 ≠ 0; omega) v, below_key h.2.2.2 ⟨w.heap.size + 1, i, none⟩ (by show w.heap.size ≤ w.heap.size + 1; omega) v⟩
theorem St.set1 (h : St w K w1) (x : ByteArray) : St w { K with bucket := x } (w1.setCell ⟨w.heap.size + 1, 1, none⟩ (.string x)) := h.put 1 _ (h.2.1.set1 x)
theorem St.set2 (h : St w K w1) (x : ByteArray) : St w { K with name := x } (w1.setCell ⟨w.heap.size + 1, 2, none⟩ (.string x)) := h.put 2 _ (h.2.1.set2 x)
theorem St.set3 (h : St w K w1) (x : Nat) : St w { K with n := x } (w1.setCell ⟨w.heap.size + 1, 3, none⟩ (.int .u64 (x : Int))) := h.put 3 _ (h.2.1.set3 x)
theorem St.set4 (h : St w K w1) (x : Int) : St w { K with part := x } (w1.setCell ⟨w.heap.size + 1, 4, none⟩ (.int .i64 x)) := h.put 4 _ (h.2.1.set4 x)
end

def K0 (c : Nat) : Key := ⟨c, ⟨#[]⟩, ⟨#[]⟩, 0, 0⟩
def Plan1 (c : Nat) (R : ByteArray) (K1 : Key) (y1 : ByteArray) (i1 : Bool) : Prop :=
  (hasB c = true ∧ ∃ zb, K1 = { K0 c with bucket := zb } ∧ Hid (∀ W, Var0 W → Calls Tryd.prog 38 #[.string R, .string ⟨#[0]⟩] W fun e w' => e = .returned (.tuple #[.string zb, .string y1, .bool i1]) ∧ Below W.heap.size W w')) ∨
  (hasB c = false ∧ K1 = K0 c ∧ y1 = R ∧ i1 = true)
def Plan2 (c : Nat) (K1 : Key) (y1 : ByteArray) (i1 : Bool) (K2 : Key) (y2 : ByteArray) (i2 : Bool) : Prop :=
  (i1 = true ∧ c = 3 ∧ ∃ zn, K2 = { K1 with name := zn } ∧ Hid (∀ W, Calls Tryd.prog 39 #[.string y1] W fun e w' => e = .returned (.tuple #[.string zn, .string y2, .bool i2]) ∧ Below W.heap.size W w')) ∨
  ((i1 && decide (c = 3)) = false ∧ K2 = K1 ∧ y2 = y1 ∧ i2 = i1)
def Plan3 (c : Nat) (K2 : Key) (y2 : ByteArray) (i2 : Bool) (K3 : Key) (y3 : ByteArray) : Prop :=
  ((i2 = true ∧ hasN c = true ∧ 8 ≤ y2.size) ∧ ∃ N0, N0 ≤ top ∧ K3 = { K2 with n := if c = 3 then top - N0 else N0 } ∧ y3 = y2.extract 8 y2.size ∧ Hid (∀ W, Calls Tryd.prog 40 #[.string (y2.extract 0 8)] W fun e w' => e = .returned (.int .u64 (N0 : Int)) ∧ w' = W)) ∨
  ((i2 && (hasN c && decide (8 ≤ y2.size))) = false ∧ K3 = K2 ∧ y3 = y2)
def Plan4 (c : Nat) (K3 : Key) (y3 : ByteArray) (i2 : Bool) (K4 : Key) : Prop :=
  ((i2 = true ∧ c = 5 ∧ y3.size = 2) ∧ ∃ N0 : Nat, N0 < 65536 ∧ K4 = { K3 with part := (N0 : Int) } ∧ Hid (∀ W, Calls Tryd.prog 40 #[.string y3] W fun e w' => e = .returned (.int .u64 (N0 : Int)) ∧ w' = W)) ∨
  ((i2 && (decide (c = 5) && decide (y3.size = 2))) = false ∧ K4 = K3)
def Plan5 (s : ByteArray) (K4 : Key) (i2 : Bool) : Prop := ∃ (T : ByteArray) (E : Int), Hid (∀ W, Var0 W → Calls Tryd.prog 11 #[K4.val] W fun e w' => e = .returned (.tuple #[.string T, .int .i64 E]) ∧ Below W.heap.size W w') ∧
  ((i2 = false ∧ decR s.data.toList = .tuple #[zeroK.val, .int .i64 8]) ∨ (i2 = true ∧ (E == 0) = false ∧ decR s.data.toList = .tuple #[zeroK.val, .int .i64 8]) ∨
    (i2 = true ∧ E = 0 ∧ (T.toList == s.toList) = false ∧ decR s.data.toList = .tuple #[zeroK.val, .int .i64 8]) ∨ (i2 = true ∧ E = 0 ∧ (T.toList == s.toList) = true ∧ decR s.data.toList = .tuple #[K4.val, .int .i64 0]))

theorem plan (s : ByteArray) (hs : s.size ≤ 4096) (h0 : 0 < s.size) :
    ∃ (K1 : Key) (y1 : ByteArray) (i1 : Bool) (K2 : Key) (y2 : ByteArray) (i2 : Bool) (K3 : Key) (y3 : ByteArray) (K4 : Key),
      y1.size ≤ 4096 ∧ y2.size ≤ 4096 ∧ y3.size ≤ 4096 ∧ Plan1 s[0].toNat (s.extract 1 s.size) K1 y1 i1 ∧ Plan2 s[0].toNat K1 y1 i1 K2 y2 i2 ∧ Plan3 s[0].toNat K2 y2 i2 K3 y3 ∧ Plan4 s[0].toNat K3 y3 i2 K4 ∧ Plan5 s K4 i2 := by
  have hRd : (s.extract 1 s.size).data.toList = s.data.toList.drop 1 := by rw [str_drop]; rfl
  have hg : s.data.toList.getD 0 0 = s[0] := getD_at s 0 h0
  have hcc := s[0].toNat_lt
  obtain ⟨c, hc⟩ : ∃ c, c = s[0].toNat := ⟨_, rfl⟩
  rw [← hc] at hcc
  rw [← hc]
  obtain ⟨d1, hd1⟩ : ∃ d, d = dec1 c (s.data.toList.drop 1) := ⟨_, rfl⟩
  obtain ⟨d2, hd2⟩ : ∃ d, d = dec2 d1 := ⟨_, rfl⟩
  obtain ⟨d3, hd3⟩ : ∃ d, d = dec3 d2 := ⟨_, rfl⟩
  obtain ⟨d4, hd4⟩ : ∃ d, d = dec4 d3 := ⟨_, rfl⟩
  have hD : decD s.data.toList = d4 := by unfold decD; rw [hg, hd4, hd3, hd2, hd1, hc]
  have hl1 : (s.data.toList.drop 1).length ≤ 4096 := by rw [List.length_drop, size_list]; omega
  have f1 : d1.key.kind = c ∧ d1.key.bucket.size ≤ 4096 ∧ d1.key.name.size ≤ 4096 ∧ d1.key.n ≤ top ∧ d1.rest.length ≤ 4096 := by
    rw [hd1]; unfold dec1
    have h1 := cut_len (s.data.toList.drop 1)
    split
    · exact ⟨rfl, by show (bs _).size ≤ _; rw [bs_size]; omega, by show 0 ≤ 4096; omega, Nat.zero_le _, Nat.le_trans h1.2 hl1⟩
    · exact ⟨rfl, by show 0 ≤ 4096; omega, by show 0 ≤ 4096; omega, Nat.zero_le _, hl1⟩
  have p1 : Plan1 c (s.extract 1 s.size) d1.key (bs d1.rest) d1.is := by
    rw [hd1]
    unfold Plan1 dec1
    cases hb : hasB c
    · exact .inr ⟨rfl, rfl, by show bs (s.data.toList.drop 1) = _; rw [str_drop], rfl⟩
    · refine .inl ⟨rfl, bs (Lib.cut (s.data.toList.drop 1) [0]).1, rfl, Lib.hid (fun W hv => ?_)⟩
      have := cut_calls (s.extract 1 s.size) W hv (by rw [← size_list, hRd]; omega)
      rw [hRd] at this
      exact this
  have f2 : d2.key.kind = c ∧ d2.key.bucket.size ≤ 4096 ∧ d2.key.name.size ≤ 4096 ∧ d2.key.n ≤ top ∧ d2.rest.length ≤ 4096 := by
    rw [hd2]; unfold dec2
    split
    · cases hu : un d1.rest with
      | none => exact ⟨f1.1, f1.2.1, by show 0 ≤ 4096; omega, f1.2.2.2.1, by show 0 ≤ 4096; omega⟩
      | some p =>
        have := un_len _ _ hu
        exact ⟨f1.1, f1.2.1, by show (bs _).size ≤ _; rw [bs_size]; omega, f1.2.2.2.1, Nat.le_trans this.2 f1.2.2.2.2⟩
    · exact f1
  have p2 : Plan2 c d1.key (bs d1.rest) d1.is d2.key (bs d2.rest) d2.is := by
    rw [hd2]
    unfold Plan2 dec2
    rw [show decide (d1.key.kind = 3) = decide (c = 3) by rw [f1.1]]
    have hU := fun W => unname_calls (bs d1.rest) W (by rw [bs_size]; omega)
    simp only [show (bs d1.rest).data.toList = d1.rest from rfl] at hU
    cases hi : (d1.is && decide (c = 3))
    · exact .inr ⟨rfl, rfl, rfl, rfl⟩
    · simp only [Bool.and_eq_true, decide_eq_true_eq] at hi
      refine .inl ⟨hi.1, hi.2, ?_⟩
      rw [if_pos rfl]
      cases hu : un d1.rest with
      | none =>
        rw [hu] at hU
        exact ⟨⟨#[]⟩, rfl, hU⟩
      | some p =>
        rw [hu] at hU
        exact ⟨bs p.1, rfl, hU⟩
  have e8 : (256 : Nat) ^ 8 = 18446744073709551616 := by decide
  have e2 : (256 : Nat) ^ 2 = 65536 := by decide
  have hv8 : 8 ≤ d2.rest.length → val (d2.rest.take 8) ≤ top := fun h => by
    have h1 := val_lt (d2.rest.take 8)
    rw [List.length_take, Nat.min_eq_left h, e8] at h1
    unfold top; omega
  have f3 : d3.key.kind = c ∧ d3.key.bucket.size ≤ 4096 ∧ d3.key.name.size ≤ 4096 ∧ d3.key.n ≤ top ∧ d3.rest.length ≤ 4096 ∧ d3.is = d2.is := by
    rw [hd3]; unfold dec3
    split
    · rename_i h
      simp only [Bool.and_eq_true, decide_eq_true_eq] at h
      refine ⟨f2.1, f2.2.1, f2.2.2.1, ?_, by show List.length _ ≤ _; rw [List.length_drop]; omega, rfl⟩
      show (if _ then _ else _) ≤ top
      split
      · exact Nat.sub_le _ _
      · exact hv8 h.2
    · exact ⟨f2.1, f2.2.1, f2.2.2.1, f2.2.2.2.1, f2.2.2.2.2, rfl⟩
  have p3 : Plan3 c d2.key (bs d2.rest) d2.is d3.key (bs d3.rest) := by
    rw [hd3]
    unfold Plan3 dec3
    rw [show (d2.is && hasN d2.key.kind && decide (8 ≤ d2.rest.length)) = (d2.is && hasN c && decide (8 ≤ d2.rest.length)) by rw [f2.1], bs_size]
    by_cases h : d2.is = true ∧ hasN c = true ∧ 8 ≤ d2.rest.length
    · refine .inl ⟨h, val (d2.rest.take 8), hv8 h.2.2, ?_, ?_, Lib.hid (fun W => ?_)⟩
      · rw [if_pos (by simp [h.1, h.2.1, h.2.2])]
        simp only [f2.1]
      · rw [if_pos (by simp [h.1, h.2.1, h.2.2]), ← bs_size, str_drop]; rfl
      · have := number_calls ((bs d2.rest).extract 0 8) W (by rw [str_take, bs_size, List.length_take]; omega)
        rw [show ((bs d2.rest).extract 0 8).data.toList = d2.rest.take 8 by rw [str_take]; rfl] at this
        exact this
    · have hf : (d2.is && (hasN c && decide (8 ≤ d2.rest.length))) = false := by
        rw [Bool.eq_false_iff]; intro hh; simp only [Bool.and_eq_true, decide_eq_true_eq] at hh; exact h hh
      refine .inr ⟨hf, ?_, ?_⟩ <;> rw [if_neg (by rw [Bool.and_assoc, hf]; decide)]
  have f4 : d4.key.kind = c ∧ d4.key.bucket.size ≤ 4096 ∧ d4.key.name.size ≤ 4096 ∧ d4.key.n ≤ top ∧ d4.is = d2.is := by
    rw [hd4]; unfold dec4
    split
    · exact ⟨f3.1, f3.2.1, f3.2.2.1, f3.2.2.2.1, f3.2.2.2.2.2⟩
    · exact ⟨f3.1, f3.2.1, f3.2.2.1, f3.2.2.2.1, f3.2.2.2.2.2⟩
  have p4 : Plan4 c d3.key (bs d3.rest) d2.is d4.key := by
    rw [hd4]
    unfold Plan4 dec4
    rw [show (d3.is && decide (d3.key.kind = 5) && decide (d3.rest.length = 2)) = (d2.is && decide (c = 5) && decide (d3.rest.length = 2)) by rw [f3.1, f3.2.2.2.2.2], bs_size]
    by_cases h : d2.is = true ∧ c = 5 ∧ d3.rest.length = 2
    · refine .inl ⟨h, val d3.rest, ?_, ?_, Lib.hid (fun W => ?_)⟩
      · have h1 := val_lt d3.rest
        rw [h.2.2, e2] at h1; exact h1
      · rw [if_pos (by simp [h.1, h.2.1, h.2.2])]
      · exact number_calls (bs d3.rest) W (by rw [bs_size, h.2.2]; omega)
    · have hf : (d2.is && (decide (c = 5) && decide (d3.rest.length = 2))) = false := by
        rw [Bool.eq_false_iff]; intro hh; simp only [Bool.and_eq_true, decide_eq_true_eq] at hh; exact h hh
      exact .inr ⟨hf, by rw [if_neg (by rw [Bool.and_assoc, hf]; decide)]⟩
  have hne : s.data.toList ≠ [] := fun e => by have := size_list s; rw [e] at this; simp at this; omega
  have p5 : Plan5 s d4.key d2.is := by
    have HEnc := fun W (h : Var0 W) => encode_calls d4.key W h ⟨f4.2.1, f4.2.2.1, by rw [f4.1]; exact hcc, f4.2.2.2.1⟩
    unfold encR at HEnc
    unfold Plan5 decR
    rw [hD, f4.2.2.2.2]
    cases hm : mayB d4.key
    · rw [hm] at HEnc
      refine ⟨_, _, HEnc, ?_⟩
      rw [if_neg (fun h => by cases h.2.2.1)]
      cases d2.is
      · exact .inl ⟨rfl, rfl⟩
      · exact .inr (.inl ⟨rfl, rfl, rfl⟩)
    · rw [hm] at HEnc
      refine ⟨_, _, HEnc, ?_⟩
      cases d2.is
      · rw [if_neg (fun h => by cases h.2.1)]
        exact .inl ⟨rfl, rfl⟩
      · by_cases he : encL d4.key = s.data.toList
        · rw [if_pos ⟨hne, rfl, rfl, he⟩]
          exact .inr (.inr (.inr ⟨rfl, rfl, by rw [he, bs_list]; simp, rfl⟩))
        · rw [if_neg (fun h => he h.2.2.2)]
          refine .inr (.inr (.inl ⟨rfl, rfl, ?_, rfl⟩))
          rw [beq_eq_false_iff_ne, ByteArray.toList_eq, ByteArray.toList_eq]
          exact he
  exact ⟨d1.key, bs d1.rest, d1.is, d2.key, bs d2.rest, d2.is, d3.key, bs d3.rest, d4.key, by rw [bs_size]; omega, by rw [bs_size]; omega, by rw [bs_size]; omega, p1, p2, p3, p4, p5⟩

end Go.Proofs.YtaeiahkomdpcoaaDoor.Name
