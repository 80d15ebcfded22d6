/- What begins alike, byte by byte: plain Lean, no program in sight. -/
import Derived.Test.YtaeiahkomdpcoaaDoorNamePre
namespace Go.Proofs.YtaeiahkomdpcoaaDoor.Name

theorem behindR_snoc (a : UInt8) : ∀ r : Bs, behindR (r ++ [a]) = if behindR r = [] then (if a = 255 then [] else [a + 1]) else a :: behindR r
  | [] => by simp [behindR]
  | c :: r => by
    rw [List.cons_append, behindR, behindR]
    by_cases hc : c = 255
    · rw [if_pos hc, if_pos hc]; exact behindR_snoc a r
    · rw [if_neg hc, if_neg hc, if_neg (by simp)]; simp
theorem behindL_cons (a : UInt8) (l : Bs) : behindL (a :: l) = if behindL l = [] then (if a = 255 then [] else [a + 1]) else a :: behindL l := by
  unfold behindL
  rw [List.reverse_cons]
  exact behindR_snoc a _

theorem less_irrefl : ∀ l : Bs, Op.bytesLess l l = false
  | [] => rfl
  | a :: l => by
    rw [Op.bytesLess, less_irrefl l]
    have : ¬ a < a := by rw [UInt8.lt_iff_toNat_lt]; omega
    simp [this]

/-- What is not below the beginning, and below what is behind it, begins so. -/
theorem begins_iff : ∀ p x : Bs, p <+: x ↔ (Op.bytesLess x p = false ∧ (behindL p = [] ∨ Op.bytesLess x (behindL p) = true))
  | [], x => by
    have h1 : Op.bytesLess x [] = false := by cases x <;> rfl
    simp [h1, behindL, behindR]
  | a :: l, [] => by simp [Op.bytesLess]
  | a :: l, b :: y => by
    have ih := begins_iff l y
    rw [behindL_cons, Op.bytesLess]
    rcases Nat.lt_trichotomy b.toNat a.toNat with h | h | h
    · have hlt : b < a := by rw [UInt8.lt_iff_toNat_lt]; exact h
      simp only [hlt, decide_true, Bool.true_or, Bool.true_eq_false, false_and, iff_false]
      intro hp
      have := (pre_cons hp).1
      rw [this] at h
      omega
    · have hba : b = a := UInt8.toNat_inj.1 h
      subst hba
      have hn : ¬ b < b := by rw [UInt8.lt_iff_toNat_lt]; omega
      have e1 : (b :: l <+: b :: y) ↔ l <+: y := ⟨fun hp => (pre_cons hp).2, fun hp => by simpa using hp⟩
      rw [e1, ih]
      simp only [hn, decide_false, Bool.false_or, beq_self_eq_true, Bool.true_and]
      by_cases hb : behindL l = []
      · rw [if_pos hb]
        simp only [hb, true_or, and_true]
        by_cases h255 : b = 255
        · rw [if_pos h255]; simp
        · rw [if_neg h255]
          have hl : b < b + 1 := by
            rw [UInt8.lt_iff_toNat_lt, UInt8.toNat_add]
            have h1 : (1 : UInt8).toNat = 1 := rfl
            have h2 : b.toNat ≠ 255 := fun e => h255 (UInt8.toNat_inj.1 e)
            have h3 := b.toNat_lt
            rw [h1]; omega
          simp [Op.bytesLess, hl]
      · rw [if_neg hb]
        simp [hb, Op.bytesLess, hn]
    · have hn : ¬ b < a := by rw [UInt8.lt_iff_toNat_lt]; omega
      have hne : (b == a) = false := by rw [beq_eq_false_iff_ne]; intro e; rw [e] at h; omega
      have h1 : ¬ (a :: l <+: b :: y) := fun hp => by have := (pre_cons hp).1; rw [this] at h; omega
      have h255 : a ≠ 255 := fun e => by
        have hb8 := b.toNat_lt
        rw [e] at h
        have : (255 : UInt8).toNat = 255 := rfl
        omega
      simp only [h1, hn, hne, decide_false, Bool.false_or, Bool.false_and, true_and, false_iff]
      intro hh
      by_cases hb : behindL l = []
      · rw [if_pos hb, if_neg h255] at hh
        have hx : Op.bytesLess y [] = false := by cases y <;> rfl
        have hnn : ¬ b < a + 1 := by
          rw [UInt8.lt_iff_toNat_lt, UInt8.toNat_add]
          have h1 : (1 : UInt8).toNat = 1 := rfl
          rw [h1]; omega
        simp [Op.bytesLess, hx, hnn] at hh
      · rw [if_neg hb] at hh
        simp [Op.bytesLess, hn, hne] at hh

theorem behind_low (a : UInt8) (l : Bs) (h : a ≠ 255) : behindL (a :: l) ≠ [] := by
  rw [behindL_cons, if_neg h]
  split <;> simp

theorem esc_cons (c : UInt8) (l : Bs) : esc (c :: l) = if c = 0 then 0 :: 255 :: esc l else c :: esc l := rfl
/-- The texts that a name begins with are those its bytes begin with. -/
theorem esc_pre : ∀ b r s : Bs, esc b <+: esc r ++ 0 :: 1 :: s ↔ b <+: r
  | [], r, s => by simp [esc]
  | c :: b, [], s => by
    refine ⟨fun h => ?_, fun h => absurd h (by simp)⟩
    unfold esc at h
    split at h
    · exact absurd (pre_cons (pre_cons h).2).1 (by decide)
    · rename_i hc; exact absurd (pre_cons h).1 hc
  | c :: b, d :: r, s => by
    have ih := esc_pre b r s
    have e1 : (c :: b <+: d :: r) ↔ c = d ∧ b <+: r := ⟨fun h => pre_cons h, fun ⟨h1, h2⟩ => by rw [h1]; simpa using h2⟩
    rw [e1, ← ih, esc_cons, esc_cons]
    by_cases hc : c = 0
    · by_cases hd : d = 0
      · rw [if_pos hc, if_pos hd, hc, hd]
        simp only [true_and]
        exact ⟨fun h => (pre_cons (pre_cons h).2).2, fun h => by simpa using h⟩
      · rw [if_pos hc, if_neg hd, hc]
        exact ⟨fun h => absurd (pre_cons h).1.symm hd, fun h => absurd h.1.symm hd⟩
    · by_cases hd : d = 0
      · rw [if_neg hc, if_pos hd, hd]
        exact ⟨fun h => absurd (pre_cons h).1 hc, fun h => absurd h.1 hc⟩
      · rw [if_neg hc, if_neg hd]
        exact ⟨fun h => pre_cons h, fun ⟨h1, h2⟩ => by rw [h1]; simpa using h2⟩

theorem pre_iff (k : Key) (h3 : k.kind = 3) (b : Bs) : (UInt8.ofNat 3 :: (k.bucket.data.toList ++ [0]) ++ esc b) <+: encL k ↔ b <+: k.name.data.toList := by
  rw [← esc_pre b k.name.data.toList (be 8 (top - k.n))]
  unfold encL
  rw [h3]
  have e1 : hasB 3 = true := rfl
  rw [e1, if_pos rfl, if_pos rfl, if_neg (by decide)]
  rw [List.cons_append]
  have e2 : UInt8.ofNat 3 :: (k.bucket.data.toList ++ [0] ++ (esc k.name.data.toList ++ [0, 1] ++ be 8 (top - k.n) ++ [])) = UInt8.ofNat 3 :: (k.bucket.data.toList ++ [0]) ++ (esc k.name.data.toList ++ 0 :: 1 :: be 8 (top - k.n)) := by simp
  rw [e2, ← List.cons_append]
  exact List.prefix_append_right_inj _

/-- A beginning, as Go asks for it. -/
theorem sub_iff (x p : ByteArray) : ((x.extract 0 p.size).toList == p.toList) = decide (p.data.toList <+: x.data.toList) := by
  rw [ByteArray.toList_eq, ByteArray.toList_eq, Lib.extract_data, Bool.eq_iff_iff, beq_iff_eq, decide_eq_true_iff]
  show x.data.toList.take p.size = _ ↔ _
  rw [List.prefix_iff_eq_take, size_list]
  exact ⟨fun h => h.symm, fun h => h.symm⟩
theorem sub_short (x p : ByteArray) (h : x.size < p.size) : decide (p.data.toList <+: x.data.toList) = false := by
  rw [decide_eq_false_iff_not]
  intro hp
  have := hp.length_le
  rw [size_list, size_list] at this
  omega
def begB (x p : ByteArray) : Bool := decide (p.data.toList <+: x.data.toList)
/-- The three ways of the test. -/
theorem beg_cases (x p : ByteArray) : (x.size < p.size ∧ begB x p = false) ∨ (p.size ≤ x.size ∧ ((x.extract 0 p.size).toList == p.toList) = begB x p) := by
  rcases Nat.lt_or_ge x.size p.size with h | h
  · exact .inl ⟨h, sub_short x p h⟩
  · exact .inr ⟨h, sub_iff x p⟩
theorem order_cases (x p : ByteArray) (h : behindL p.data.toList ≠ []) : (begB x p = true ∧ Op.bytesLess x.toList p.toList = false ∧ Op.bytesLess x.toList (bs (behindL p.data.toList)).toList = true) ∨ (begB x p = false ∧ Op.bytesLess x.toList p.toList = true) ∨
    (begB x p = false ∧ Op.bytesLess x.toList p.toList = false ∧ Op.bytesLess x.toList (bs (behindL p.data.toList)).toList = false) := by
  have h1 := begins_iff p.data.toList x.data.toList
  unfold begB
  rw [ByteArray.toList_eq, ByteArray.toList_eq, ByteArray.toList_eq]
  rw [show (bs (behindL p.data.toList)).data.toList = behindL p.data.toList from rfl]
  by_cases hp : p.data.toList <+: x.data.toList
  · obtain ⟨h2, h3⟩ := h1.1 hp
    exact .inl ⟨decide_eq_true hp, h2, h3.resolve_left h⟩
  · cases ha : Op.bytesLess x.data.toList p.data.toList
    · cases hb : Op.bytesLess x.data.toList (behindL p.data.toList)
      · exact .inr (.inr ⟨decide_eq_false hp, rfl, rfl⟩)
      · exact absurd (h1.2 ⟨ha, .inr hb⟩) hp
    · exact .inr (.inl ⟨decide_eq_false hp, rfl⟩)

end Go.Proofs.YtaeiahkomdpcoaaDoor.Name
