/- Keys' bytes, byte by byte, stand in the order of keys; they are read as the keys: plain Lean, no program in sight. -/
import Derived.Test.YtaeiahkomdpcoaaDoorNameDec
namespace Go.Proofs.YtaeiahkomdpcoaaDoor.Name
open Go.RowKit

def orZ (a b : Int) : Int := if a = 0 then b else a
def cmpN (a b : Nat) : Int := if a < b then -1 else if b < a then 1 else 0
def cmpZ (a b : Int) : Int := if a < b then -1 else if b < a then 1 else 0
def cmpL : Bs → Bs → Int
  | [], [] => 0
  | [], _ :: _ => -1
  | _ :: _, [] => 1
  | a :: l, b :: r => if a < b then -1 else if b < a then 1 else cmpL l r
/-- Which of two keys comes first. -/
def cmpK (a b : Key) : Int := orZ (cmpN a.kind b.kind) (orZ (cmpL a.bucket.data.toList b.bucket.data.toList) (orZ (cmpL a.name.data.toList b.name.data.toList) (orZ (if a.kind = 3 then - cmpN a.n b.n else cmpN a.n b.n) (cmpZ a.part b.part))))

theorem u8_irr (a : UInt8) : ¬ a < a := by rw [UInt8.lt_iff_toNat_lt]; omega
theorem u8_tri (a b : UInt8) : (a < b ∧ ¬ b < a ∧ a ≠ b) ∨ (a = b) ∨ (b < a ∧ ¬ a < b ∧ a ≠ b) := by
  rw [UInt8.lt_iff_toNat_lt, UInt8.lt_iff_toNat_lt]
  rcases Nat.lt_trichotomy a.toNat b.toNat with h | h | h
  · exact .inl ⟨h, by omega, fun e => by rw [e] at h; omega⟩
  · exact .inr (.inl (UInt8.toNat_inj.1 h))
  · exact .inr (.inr ⟨h, by omega, fun e => by rw [e] at h; omega⟩)
theorem cmpL_cons (a b : UInt8) (l r : Bs) : cmpL (a :: l) (b :: r) = if a < b then -1 else if b < a then 1 else cmpL l r := rfl
theorem cmpL_same (c : UInt8) (l r : Bs) : cmpL (c :: l) (c :: r) = cmpL l r := by rw [cmpL_cons, if_neg (u8_irr c), if_neg (u8_irr c)]
theorem cmpL_self : ∀ l : Bs, cmpL l l = 0
  | [] => rfl
  | a :: l => by rw [cmpL_same]; exact cmpL_self l
theorem cmpL_neg : ∀ l r : Bs, cmpL r l = - cmpL l r
  | [], [] => rfl
  | [], _ :: _ => rfl
  | _ :: _, [] => rfl
  | a :: l, b :: r => by
    rw [cmpL_cons, cmpL_cons, cmpL_neg l r]
    rcases u8_tri a b with ⟨h1, h2, _⟩ | h | ⟨h1, h2, _⟩
    · rw [if_neg h2, if_pos h1, if_pos h1]; rfl
    · subst h; simp [u8_irr a]
    · rw [if_pos h1, if_neg h2, if_pos h1]
theorem cmpL_zero : ∀ l r : Bs, cmpL l r = 0 ↔ l = r
  | [], [] => by simp [cmpL]
  | [], _ :: _ => by simp [cmpL]
  | _ :: _, [] => by simp [cmpL]
  | a :: l, b :: r => by
    rw [cmpL_cons]
    rcases u8_tri a b with ⟨h1, h2, h3⟩ | h | ⟨h1, h2, h3⟩
    · rw [if_pos h1]; simp [h3]
    · subst h; rw [if_neg (u8_irr a), if_neg (u8_irr a), cmpL_zero l r]; simp
    · rw [if_neg h2, if_pos h1]; simp [h3]
theorem cmpL_less : ∀ l r : Bs, Op.bytesLess l r = decide (cmpL l r < 0)
  | [], [] => rfl
  | [], _ :: _ => rfl
  | _ :: _, [] => rfl
  | a :: l, b :: r => by
    rw [cmpL_cons, Op.bytesLess, cmpL_less l r]
    rcases u8_tri a b with ⟨h1, h2, h3⟩ | h | ⟨h1, h2, h3⟩
    · simp [h1]
    · subst h; simp [u8_irr a]
    · simp [h1, h2, h3]
/-- Of two texts neither of which begins the other, what stands behind matters only where they are one. -/
theorem cmpL_app : ∀ (a b r s : Bs), (a <+: b → a = b) → (b <+: a → b = a) → cmpL (a ++ r) (b ++ s) = orZ (cmpL a b) (cmpL r s)
  | [], [], r, s, _, _ => by simp [cmpL, orZ]
  | [], b :: y, _, _, h, _ => absurd (h (List.nil_prefix)) (by simp)
  | a :: x, [], _, _, _, h => absurd (h (List.nil_prefix)) (by simp)
  | a :: x, b :: y, r, s, h1, h2 => by
    rw [List.cons_append, List.cons_append, cmpL_cons, cmpL_cons]
    rcases u8_tri a b with ⟨h3, h4, h5⟩ | h | ⟨h3, h4, h5⟩
    · rw [if_pos h3, if_pos h3]; rfl
    · subst h
      rw [if_neg (u8_irr a), if_neg (u8_irr a), if_neg (u8_irr a), if_neg (u8_irr a)]
      exact cmpL_app x y r s (fun h => by have := h1 (by simpa using h); simpa using this) (fun h => by have := h2 (by simpa using h); simpa using this)
    · rw [if_neg h4, if_pos h3, if_neg h4, if_pos h3]; rfl
theorem cmpL_app_len (a b r s : Bs) (h : a.length = b.length) : cmpL (a ++ r) (b ++ s) = orZ (cmpL a b) (cmpL r s) :=
  cmpL_app a b r s (fun hp => hp.eq_of_length h) (fun hp => hp.eq_of_length h.symm)

theorem cmpN_u8 (a b : UInt8) : cmpL [a] [b] = cmpN a.toNat b.toNat := by
  rw [cmpL_cons]
  unfold cmpN
  have h1 := @UInt8.lt_iff_toNat_lt a b
  have h2 := @UInt8.lt_iff_toNat_lt b a
  by_cases g1 : a < b
  · rw [if_pos g1, if_pos (h1.1 g1)]
  · rw [if_neg g1, if_neg (fun h => g1 (h1.2 h))]
    by_cases g2 : b < a
    · rw [if_pos g2, if_pos (h2.1 g2)]
    · rw [if_neg g2, if_neg (fun h => g2 (h2.2 h))]; rfl
theorem cmpN_orZ (x m n : Nat) (hx : 0 < x) : orZ (cmpN (m / x) (n / x)) (cmpN (m % x) (n % x)) = cmpN m n := by
  have h1 := Nat.div_add_mod m x
  have h2 := Nat.div_add_mod n x
  have h3 := Nat.mod_lt m hx
  have h4 := Nat.mod_lt n hx
  have key : ∀ p q a b : Nat, p < q → a < x → x * p + a < x * q + b := fun p q a b hpq ha => by
    have : x * (p + 1) ≤ x * q := Nat.mul_le_mul_left _ hpq
    rw [Nat.mul_add] at this
    omega
  rcases Nat.lt_trichotomy (m / x) (n / x) with h | h | h
  · have := key _ _ (m % x) (n % x) h h3
    rw [h1, h2] at this
    unfold orZ cmpN
    rw [if_pos h, if_neg (by decide), if_pos this]
  · have e : cmpN (m / x) (n / x) = 0 := by unfold cmpN; rw [h, if_neg (Nat.lt_irrefl _), if_neg (Nat.lt_irrefl _)]
    rw [e, orZ, if_pos rfl]
    rw [h] at h1
    unfold cmpN
    rcases Nat.lt_trichotomy (m % x) (n % x) with g | g | g
    · rw [if_pos g, if_pos (by omega)]
    · rw [g, if_neg (Nat.lt_irrefl _), if_neg (Nat.lt_irrefl _), if_neg (by omega), if_neg (by omega)]
    · rw [if_neg (by omega), if_pos g, if_neg (by omega), if_pos (by omega)]
  · have := key _ _ (n % x) (m % x) h h4
    rw [h1, h2] at this
    unfold orZ cmpN
    have g1 : ¬ m / x < n / x := by omega
    have g2 : ¬ m < n := by omega
    simp only [g1, h, g2, this, if_true, if_false]
    rfl
theorem cmpL_be (k : Nat) : ∀ m n, m < 256 ^ k → n < 256 ^ k → cmpL (be k m) (be k n) = cmpN m n := by
  induction k with
  | zero => intro m n hm hn; simp at hm hn; subst hm hn; rfl
  | succ k ih =>
    intro m n hm hn
    rw [Nat.pow_succ] at hm hn
    rw [be, be, cmpL_app_len _ _ _ _ (by rw [be_length, be_length]), ih _ _ (by omega) (by omega), cmpN_u8]
    rw [UInt8.toNat_ofNat', UInt8.toNat_ofNat']
    rw [show 2 ^ 8 = 256 from rfl, Nat.mod_mod, Nat.mod_mod]
    exact cmpN_orZ 256 m n (by decide)

theorem cmpL_bucket : ∀ x y : Bs, (∀ c ∈ x, c ≠ 0) → (∀ c ∈ y, c ≠ 0) → cmpL (x ++ [0]) (y ++ [0]) = cmpL x y
  | [], [], _, _ => rfl
  | [], d :: y, _, hy => by
    have hd := hy d (by simp)
    have h0 : (0 : UInt8) < d := by
      rw [UInt8.lt_iff_toNat_lt]
      rcases Nat.eq_zero_or_pos d.toNat with h | h
      · exact absurd (UInt8.toNat_inj.1 h) hd
      · exact h
    rw [List.nil_append, List.cons_append, cmpL_cons, if_pos h0]; rfl
  | c :: x, [], hx, _ => by
    have hd := hx c (by simp)
    have h0 : (0 : UInt8) < c := by
      rw [UInt8.lt_iff_toNat_lt]
      rcases Nat.eq_zero_or_pos c.toNat with h | h
      · exact absurd (UInt8.toNat_inj.1 h) hd
      · exact h
    rw [List.nil_append, List.cons_append, cmpL_cons, if_pos h0, if_neg]
    · rfl
    · rw [UInt8.lt_iff_toNat_lt] at h0 ⊢; omega
  | c :: x, d :: y, hx, hy => by
    rw [List.cons_append, List.cons_append, cmpL_cons, cmpL_cons, cmpL_bucket x y (fun e he => hx e (List.mem_cons_of_mem _ he)) (fun e he => hy e (List.mem_cons_of_mem _ he))]
theorem esc_one (c : UInt8) (l : Bs) : esc (c :: l) = if c = 0 then 0 :: 255 :: esc l else c :: esc l := rfl
theorem u8_pos {c : UInt8} (h : c ≠ 0) : (0 : UInt8) < c := by
  rw [UInt8.lt_iff_toNat_lt]
  rcases Nat.eq_zero_or_pos c.toNat with h2 | h2
  · exact absurd (UInt8.toNat_inj.1 h2) h
  · exact h2
theorem u8_notneg (c : UInt8) : ¬ c < (0 : UInt8) := by
  rw [UInt8.lt_iff_toNat_lt]
  exact Nat.not_lt_zero _
theorem cmpL_esc : ∀ x y : Bs, cmpL (esc x ++ [0, 1]) (esc y ++ [0, 1]) = cmpL x y
  | [], [] => rfl
  | [], d :: y => by
    rw [esc_one]
    by_cases hd : d = 0
    · rw [if_pos hd]; rfl
    · rw [if_neg hd]
      show cmpL (0 :: [1]) (d :: _) = -1
      rw [cmpL_cons, if_pos (u8_pos hd)]
  | c :: x, [] => by
    rw [esc_one]
    by_cases hd : c = 0
    · rw [if_pos hd]; rfl
    · rw [if_neg hd]
      show cmpL (c :: _) (0 :: [1]) = 1
      rw [cmpL_cons, if_neg (u8_notneg c), if_pos (u8_pos hd)]
  | c :: x, d :: y => by
    have ih := cmpL_esc x y
    rw [esc_one, esc_one]
    by_cases hc : c = 0
    · by_cases hd : d = 0
      · rw [if_pos hc, if_pos hd, hc, hd, List.cons_append, List.cons_append, List.cons_append, List.cons_append, cmpL_same, cmpL_same, cmpL_same]; exact ih
      · rw [if_pos hc, if_neg hd, hc, List.cons_append, List.cons_append, List.cons_append, cmpL_cons, cmpL_cons, if_pos (u8_pos hd), if_pos (u8_pos hd)]
    · by_cases hd : d = 0
      · rw [if_neg hc, if_pos hd, hd, List.cons_append, List.cons_append, List.cons_append, cmpL_cons, cmpL_cons, if_neg (u8_notneg c), if_neg (u8_notneg c), if_pos (u8_pos hc), if_pos (u8_pos hc)]
      · rw [if_neg hc, if_neg hd, List.cons_append, List.cons_append, cmpL_cons, cmpL_cons, ih]

theorem orZ_zero (a : Int) : orZ a 0 = a := by unfold orZ; split <;> simp_all
theorem zero_orZ (a : Int) : orZ 0 a = a := rfl
theorem orZ_eq_zero (a b : Int) : orZ a b = 0 ↔ a = 0 ∧ b = 0 := by
  unfold orZ
  split
  · rename_i h; simp [h]
  · rename_i h; simp [h]
theorem orZ_neg (a b : Int) : orZ (-a) (-b) = - orZ a b := by
  unfold orZ
  by_cases h : a = 0
  · subst h; simp
  · rw [if_neg h, if_neg (by omega)]
theorem cmpN_neg (a b : Nat) : cmpN b a = - cmpN a b := by
  unfold cmpN
  rcases Nat.lt_trichotomy a b with h | h | h
  · rw [if_neg (by omega), if_pos h, if_pos h]; rfl
  · subst h; simp
  · rw [if_pos h, if_neg (by omega), if_pos h]
theorem cmpN_zero (a b : Nat) : cmpN a b = 0 ↔ a = b := by
  unfold cmpN
  rcases Nat.lt_trichotomy a b with h | h | h
  · rw [if_pos h]; constructor
    · intro h; cases h
    · omega
  · subst h; rw [if_neg (Nat.lt_irrefl _)]; simp
  · rw [if_neg (by omega), if_pos h]; constructor
    · intro h; cases h
    · omega
theorem cmpZ_neg (a b : Int) : cmpZ b a = - cmpZ a b := by
  unfold cmpZ
  rcases Int.lt_trichotomy a b with h | h | h
  · rw [if_neg (by omega), if_pos h, if_pos h]; rfl
  · subst h; simp
  · rw [if_pos h, if_neg (by omega), if_pos h]
theorem cmpZ_zero (a b : Int) : cmpZ a b = 0 ↔ a = b := by
  unfold cmpZ
  rcases Int.lt_trichotomy a b with h | h | h
  · rw [if_pos h]; constructor
    · intro h; cases h
    · omega
  · subst h; rw [if_neg (Int.lt_irrefl _)]; simp
  · rw [if_neg (by omega), if_pos h]; constructor
    · intro h; cases h
    · omega

/-- The order the other way round. -/
theorem cmpK_neg (a b : Key) : cmpK b a = - cmpK a b := by
  unfold cmpK
  rw [cmpN_neg a.kind b.kind, cmpL_neg a.bucket.data.toList, cmpL_neg a.name.data.toList, cmpN_neg a.n b.n, cmpZ_neg a.part b.part]
  by_cases hk : a.kind = b.kind
  · rw [hk]
    rw [← orZ_neg, ← orZ_neg, ← orZ_neg, ← orZ_neg]
    congr 4
    split <;> rfl
  · have h0 : cmpN a.kind b.kind ≠ 0 := fun h => hk ((cmpN_zero _ _).1 h)
    unfold orZ
    rw [if_neg (by omega), if_neg h0]
theorem cmpK_zero (a b : Key) : cmpK a b = 0 ↔ a = b := by
  obtain ⟨ak, ab, an, ann, ap⟩ := a
  obtain ⟨bk, bb, bn, bnn, bp⟩ := b
  unfold cmpK
  simp only [orZ_eq_zero, cmpN_zero, cmpL_zero, cmpZ_zero, Key.mk.injEq]
  have e : ((if ak = 3 then -cmpN ann bnn else cmpN ann bnn) = 0) ↔ ann = bnn := by
    split
    · rw [Int.neg_eq_zero, cmpN_zero]
    · exact cmpN_zero _ _
  rw [e]
  exact ⟨fun ⟨h1, h2, h3, h4, h5⟩ => ⟨h1, ba_ext h2, ba_ext h3, h4, h5⟩, fun ⟨h1, h2, h3, h4, h5⟩ => ⟨h1, by rw [h2], by rw [h3], h4, h5⟩⟩

/-- Keys' bytes stand in the order of keys. -/
theorem cmpL_enc {a b : Key} (ha : mayB a = true) (hb : mayB b = true) (na : a.n ≤ top) (nb : b.n ≤ top) : cmpL (encL a) (encL b) = cmpK a b := by
  obtain ⟨ka, a1, a2, _, a4, a5, a6, a7⟩ := may_facts ha
  obtain ⟨kb, b1, b2, _, b4, b5, b6, b7⟩ := may_facts hb
  obtain ⟨ak, ab, an, ann, ap⟩ := a
  obtain ⟨bk, bb, bn, bnn, bp⟩ := b
  simp only at *
  have e8 : (256 : Nat) ^ 8 = 18446744073709551616 := by decide
  have e2 : (256 : Nat) ^ 2 = 65536 := by decide
  have hkk : cmpL [UInt8.ofNat ak] [UInt8.ofNat bk] = cmpN ak bk := by
    rw [cmpN_u8, UInt8.toNat_ofNat', UInt8.toNat_ofNat', Nat.mod_eq_of_lt (by omega), Nat.mod_eq_of_lt (by omega)]
  unfold cmpK
  simp only
  have hsplit : ∀ r s : Bs, cmpL (UInt8.ofNat ak :: r) (UInt8.ofNat bk :: s) = orZ (cmpN ak bk) (cmpL r s) := fun r s => by
    rw [← hkk]
    exact cmpL_app_len [UInt8.ofNat ak] [UInt8.ofNat bk] r s rfl
  unfold encL
  rw [hsplit]
  clear hsplit hkk
  by_cases hk : ak = bk
  case neg =>
    have h0 : cmpN ak bk ≠ 0 := fun h => hk ((cmpN_zero _ _).1 h)
    unfold orZ
    rw [if_neg h0, if_neg h0]
  subst hk
  congr 1
  simp only
  have hB : ∀ r s : Bs, cmpL ((if hasB ak = true then ab.data.toList ++ [0] else []) ++ r) ((if hasB ak = true then bb.data.toList ++ [0] else []) ++ s) = orZ (cmpL ab.data.toList bb.data.toList) (cmpL r s) := fun r s => by
    cases hh : hasB ak
    · rw [a2 hh, b2 hh]; rfl
    · rw [if_pos rfl, if_pos rfl]
      have z1 := bucket_nz (a1 hh)
      have z2 := bucket_nz (b1 hh)
      rw [cmpL_app _ _ r s (fun h => by rw [(pre_bucket (r := []) (s := []) z1 z2 h).1]) (fun h => by rw [(pre_bucket (r := []) (s := []) z2 z1 h).1]), cmpL_bucket _ _ z1 z2]
  rw [hB]
  clear hB
  congr 1
  by_cases h3 : ak = 3
  · subst h3
    rw [if_pos rfl, if_pos rfl, if_pos rfl, if_neg (by decide), if_neg (by decide), List.append_nil, List.append_nil, a7 (by decide), b7 (by decide)]
    rw [show cmpZ 0 0 = 0 from rfl, orZ_zero]
    rw [cmpL_app _ _ _ _ (fun h => by rw [(pre_esc (r := []) (s := []) h).1]) (fun h => by rw [(pre_esc (r := []) (s := []) h).1]), cmpL_esc, cmpL_be 8 _ _ (by unfold top; omega) (by unfold top; omega)]
    congr 1
    unfold cmpN
    unfold top at na nb ⊢
    rcases Nat.lt_trichotomy ann bnn with h | h | h
    · rw [if_neg (by omega), if_pos (by omega), if_pos h]; rfl
    · rw [h, if_neg (Nat.lt_irrefl _), if_neg (Nat.lt_irrefl _), if_neg (Nat.lt_irrefl _), if_neg (Nat.lt_irrefl _)]; rfl
    · rw [if_pos (by omega), if_neg (by omega), if_pos h]
  · rw [if_neg h3, if_neg h3, if_neg h3, a4 h3, b4 h3]
    rw [show cmpL (⟨#[]⟩ : ByteArray).data.toList (⟨#[]⟩ : ByteArray).data.toList = 0 from rfl, zero_orZ]
    have hN : ∀ r s : Bs, cmpL ((if hasN ak = true then be 8 ann else []) ++ r) ((if hasN ak = true then be 8 bnn else []) ++ s) = orZ (cmpN ann bnn) (cmpL r s) := fun r s => by
      cases hh : hasN ak
      · rw [a5 hh, b5 hh]; rfl
      · rw [if_pos rfl, if_pos rfl, cmpL_app_len _ _ _ _ (by rw [be_length, be_length]), cmpL_be 8 _ _ (by unfold top at na; omega) (by unfold top at nb; omega)]
    rw [hN]
    congr 1
    by_cases h5 : ak = 5
    · rw [if_pos h5, if_pos h5]
      have h7 := a6 h5
      have h8 := b6 h5
      rw [cmpL_be 2 _ _ (by omega) (by omega)]
      unfold cmpN cmpZ
      rcases Int.lt_trichotomy ap bp with h | h | h
      · rw [if_pos (by omega), if_pos h]
      · rw [h, if_neg (Nat.lt_irrefl _), if_neg (Nat.lt_irrefl _), if_neg (Int.lt_irrefl _), if_neg (Int.lt_irrefl _)]
      · rw [if_neg (by omega), if_pos (by omega), if_neg (by omega), if_pos h]
    · rw [if_neg h5, if_neg h5, a7 h5, b7 h5]; rfl

theorem cut_at : ∀ (x r : Bs), (∀ c ∈ x, c ≠ 0) → Lib.cut (x ++ 0 :: r) [0] = (x, r, true) := fun x r hx => by
  have h1 : Lib.index (x ++ 0 :: r) [0] = x.length := by
    refine Lib.index_first (i := x.length) (by simp) ?_ (fun j hj => ?_)
    · unfold Lib.occAt
      rw [List.drop_left]; rfl
    · unfold Lib.occAt
      have hl : j < (x ++ 0 :: r).length := by simp; omega
      rw [List.drop_eq_getElem_cons hl]
      have e : (x ++ 0 :: r)[j] = x[j] := List.getElem_append_left hj
      rw [e]
      have : x[j] ≠ 0 := hx _ (List.getElem_mem hj)
      simp only [List.isPrefixOf]
      rw [Bool.and_eq_false_iff]
      exact .inl (by rw [beq_eq_false_iff_ne]; exact fun h => this h.symm)
  unfold Lib.cut
  rw [h1, if_pos (by omega)]
  simp only [Int.toNat_natCast, List.length_singleton]
  rw [List.take_left, show x ++ 0 :: r = (x ++ [0]) ++ r by simp, List.drop_left' (by simp)]
theorem bs_data (x : ByteArray) : bs x.data.toList = x := ba_ext rfl

/-- A key's bytes are read as the key. -/
theorem dec_enc {k : Key} (h : mayB k = true) (hn : k.n ≤ top) : decR (encL k) = .tuple #[k.val, .int .i64 0] := by
  obtain ⟨kk, a1, a2, a3, a4, a5, a6, a7⟩ := may_facts h
  obtain ⟨r1, hr1⟩ : ∃ r, r = (if k.kind = 5 then be 2 k.part.toNat else []) := ⟨_, rfl⟩
  obtain ⟨r2, hr2⟩ : ∃ r, r = (if k.kind = 3 then esc k.name.data.toList ++ [0, 1] ++ be 8 (top - k.n) else if hasN k.kind then be 8 k.n else []) ++ r1 := ⟨_, rfl⟩
  obtain ⟨r3, hr3⟩ : ∃ r, r = (if hasB k.kind then k.bucket.data.toList ++ [0] else []) ++ r2 := ⟨_, rfl⟩
  have hE : encL k = UInt8.ofNat k.kind :: r3 := by rw [hr3, hr2, hr1]; rfl
  have e8 : (256 : Nat) ^ 8 = 18446744073709551616 := by decide
  have e2 : (256 : Nat) ^ 2 = 65536 := by decide
  have hc : ((encL k).getD 0 0).toNat = k.kind := by
    rw [hE]
    show (UInt8.ofNat k.kind).toNat = _
    rw [UInt8.toNat_ofNat', Nat.mod_eq_of_lt (by omega)]
  have hd1 : dec1 k.kind r3 = ⟨⟨k.kind, k.bucket, ⟨#[]⟩, 0, 0⟩, r2, true⟩ := by
    unfold dec1
    rw [hr3]
    cases hh : hasB k.kind
    · rw [a2 hh]; rfl
    · rw [if_pos rfl, if_pos rfl, List.append_assoc, List.singleton_append, cut_at _ _ (bucket_nz (a1 hh)), bs_data]
  obtain ⟨r2', hr2'⟩ : ∃ r, r = (if k.kind = 3 then be 8 (top - k.n) else if hasN k.kind then be 8 k.n else []) ++ r1 := ⟨_, rfl⟩
  have hd2 : dec2 ⟨⟨k.kind, k.bucket, ⟨#[]⟩, 0, 0⟩, r2, true⟩ = ⟨⟨k.kind, k.bucket, k.name, 0, 0⟩, r2', true⟩ := by
    unfold dec2
    rw [hr2, hr2']
    by_cases h3 : k.kind = 3
    · simp only [h3, decide_true, Bool.and_self, if_true]
      rw [List.append_assoc, List.append_assoc]
      rw [show esc k.name.data.toList ++ ([0, 1] ++ (be 8 (top - k.n) ++ r1)) = esc k.name.data.toList ++ 0 :: 1 :: (be 8 (top - k.n) ++ r1) from rfl, un_esc]
      simp only [bs_data]
    · rw [if_neg (by simp [h3]), if_neg h3, if_neg h3, a4 h3]
  have hd3 : dec3 ⟨⟨k.kind, k.bucket, k.name, 0, 0⟩, r2', true⟩ = ⟨⟨k.kind, k.bucket, k.name, k.n, 0⟩, r1, true⟩ := by
    unfold dec3
    simp only
    cases hh : hasN k.kind
    · have h3 : k.kind ≠ 3 := fun e => by rw [e] at hh; cases hh
      rw [if_neg (by simp), a5 hh, hr2', hh, if_neg h3, if_neg (by simp)]; rfl
    · obtain ⟨N, hN⟩ : ∃ N, N = if k.kind = 3 then top - k.n else k.n := ⟨_, rfl⟩
      have hr : r2' = be 8 N ++ r1 := by
        rw [hr2', hN, hh]
        by_cases h3 : k.kind = 3
        · rw [if_pos h3, if_pos h3]
        · rw [if_neg h3, if_neg h3, if_pos rfl]
      have hNt : N ≤ top := by rw [hN]; split <;> omega
      have hl : (be 8 N).length = 8 := be_length 8 N
      rw [hr, if_pos (by simp [hl]), List.take_left' hl, List.drop_left' hl, val_be 8 N (by unfold top at hNt; omega), hN]
      by_cases h3 : k.kind = 3
      · rw [if_pos h3, if_pos h3, show top - (top - k.n) = k.n by omega]
      · rw [if_neg h3, if_neg h3]
  have hd4 : dec4 ⟨⟨k.kind, k.bucket, k.name, k.n, 0⟩, r1, true⟩ = ⟨k, r1, true⟩ := by
    unfold dec4
    simp only
    by_cases h5 : k.kind = 5
    · have hl : r1.length = 2 := by rw [hr1, if_pos h5, be_length]
      have := a6 h5
      rw [if_pos (by simp [h5, hl]), hr1, if_pos h5, val_be 2 _ (by omega), Int.toNat_of_nonneg (by omega)]
    · rw [if_neg (by simp [h5]), ← a7 h5]
  have hD : decD (encL k) = ⟨k, r1, true⟩ := by
    unfold decD
    rw [hc, hE, List.drop_one, List.tail_cons, hd1, hd2, hd3, hd4]
  unfold decR
  rw [hD, if_pos ⟨by rw [hE]; simp, rfl, h, rfl⟩]

end Go.Proofs.YtaeiahkomdpcoaaDoor.Name
