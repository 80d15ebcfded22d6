/- Texts merged into one: part 7 of 11. -/
import Derived.Laws.StructEq
import Derived.Deep.RegionHeld3
import Derived.RangeFuncNested
import Derived.RangeFuncBound
import Derived.RangeFuncCalls
import Derived.RangeFuncLeaves
import Derived.WalkKit
import Derived.OwnWalkIn
import Derived.TacticsInMore
import Derived.LoopNIn
import Derived.LoopIn
import Derived.WalkMore
import Derived.Deep.Slices
import Derived.Lib.Hide
import Derived.Test.YtaeiahkomdpcoaaGreatDoorZ6
import Derived.Test.YtaeiahkomdpcoaaGreatDoorZ1
import Derived.Test.YtaeiahkomdpcoaaGreatDoorZ4

section
/- Keys' bytes, byte by byte, stand in the order of keys; they are read as the keys: plain Lean, no program in sight. -/
namespace Go.Proofs.YtaeiahkomdpcoaaGreatDoor.Name
open Go.RowKit

def orZ (a b : Int) : Int := if a = 0 then b else a
def cmpN (a b : Nat) : Int := if a < b then -1 else if b < a then 1 else 0
def cmpZ (a b : Int) : Int := if a < b then -1 else if b < a then 1 else 0
def cmpL : Bs → Bs → Int
  | [], [] => 0
  | [], _ :: _ => -1
  | _ :: _, [] => 1
  | a :: l, b :: r => if a < b then -1 else if b < a then 1 else cmpL l r
/-- Which of two keys comes first. -/
def cmpK (a b : Key) : Int := orZ (cmpN a.kind b.kind) (orZ (cmpL a.bucket.data.toList b.bucket.data.toList) (orZ (cmpL a.name.data.toList b.name.data.toList) (orZ (if a.kind = 3 then - cmpN a.n b.n else cmpN a.n b.n) (cmpZ a.part b.part))))

theorem u8_irr (a : UInt8) : ¬ a < a := by rw [UInt8.lt_iff_toNat_lt]; omega
theorem u8_tri (a b : UInt8) : (a < b ∧ ¬ b < a ∧ a ≠ b) ∨ (a = b) ∨ (b < a ∧ ¬ a < b ∧ a ≠ b) := by
  rw [UInt8.lt_iff_toNat_lt, UInt8.lt_iff_toNat_lt]
  rcases Nat.lt_trichotomy a.toNat b.toNat with h | h | h
  · exact .inl ⟨h, by omega, fun e => by rw [e] at h; omega⟩
  · exact .inr (.inl (UInt8.toNat_inj.1 h))
  · exact .inr (.inr ⟨h, by omega, fun e => by rw [e] at h; omega⟩)
theorem cmpL_cons (a b : UInt8) (l r : Bs) : cmpL (a :: l) (b :: r) = if a < b then -1 else if b < a then 1 else cmpL l r := rfl
theorem cmpL_same (c : UInt8) (l r : Bs) : cmpL (c :: l) (c :: r) = cmpL l r := by rw [cmpL_cons, if_neg (u8_irr c), if_neg (u8_irr c)]
theorem cmpL_self : ∀ l : Bs, cmpL l l = 0
  | [] => rfl
  | a :: l => by rw [cmpL_same]; exact cmpL_self l
theorem cmpL_neg : ∀ l r : Bs, cmpL r l = - cmpL l r
  | [], [] => rfl
  | [], _ :: _ => rfl
  | _ :: _, [] => rfl
  | a :: l, b :: r => by
    rw [cmpL_cons, cmpL_cons, cmpL_neg l r]
    rcases u8_tri a b with ⟨h1, h2, _⟩ | h | ⟨h1, h2, _⟩
    · rw [if_neg h2, if_pos h1, if_pos h1]; rfl
    · subst h; simp [u8_irr a]
    · rw [if_pos h1, if_neg h2, if_pos h1]
theorem cmpL_zero : ∀ l r : Bs, cmpL l r = 0 ↔ l = r
  | [], [] => by simp [cmpL]
  | [], _ :: _ => by simp [cmpL]
  | _ :: _, [] => by simp [cmpL]
  | a :: l, b :: r => by
    rw [cmpL_cons]
    rcases u8_tri a b with ⟨h1, h2, h3⟩ | h | ⟨h1, h2, h3⟩
    · rw [if_pos h1]; simp [h3]
    · subst h; rw [if_neg (u8_irr a), if_neg (u8_irr a), cmpL_zero l r]; simp
    · rw [if_neg h2, if_pos h1]; simp [h3]
theorem cmpL_less : ∀ l r : Bs, Op.bytesLess l r = decide (cmpL l r < 0)
  | [], [] => rfl
  | [], _ :: _ => rfl
  | _ :: _, [] => rfl
  | a :: l, b :: r => by
    rw [cmpL_cons, Op.bytesLess, cmpL_less l r]
    rcases u8_tri a b with ⟨h1, h2, h3⟩ | h | ⟨h1, h2, h3⟩
    · simp [h1]
    · subst h; simp [u8_irr a]
    · simp [h1, h2, h3]
/-- Of two texts neither of which begins the other, what stands behind matters only where they are one. -/
theorem cmpL_app : ∀ (a b r s : Bs), (a <+: b → a = b) → (b <+: a → b = a) → cmpL (a ++ r) (b ++ s) = orZ (cmpL a b) (cmpL r s)
  | [], [], r, s, _, _ => by simp [cmpL, orZ]
  | [], b :: y, _, _, h, _ => absurd (h (List.nil_prefix)) (by simp)
  | a :: x, [], _, _, _, h => absurd (h (List.nil_prefix)) (by simp)
  | a :: x, b :: y, r, s, h1, h2 => by
    rw [List.cons_append, List.cons_append, cmpL_cons, cmpL_cons]
    rcases u8_tri a b with ⟨h3, h4, h5⟩ | h | ⟨h3, h4, h5⟩
    · rw [if_pos h3, if_pos h3]; rfl
    · subst h
      rw [if_neg (u8_irr a), if_neg (u8_irr a), if_neg (u8_irr a), if_neg (u8_irr a)]
      exact cmpL_app x y r s (fun h => by have := h1 (by simpa using h); simpa using this) (fun h => by have := h2 (by simpa using h); simpa using this)
    · rw [if_neg h4, if_pos h3, if_neg h4, if_pos h3]; rfl
theorem cmpL_app_len (a b r s : Bs) (h : a.length = b.length) : cmpL (a ++ r) (b ++ s) = orZ (cmpL a b) (cmpL r s) :=
  cmpL_app a b r s (fun hp => hp.eq_of_length h) (fun hp => hp.eq_of_length h.symm)

theorem cmpN_u8 (a b : UInt8) : cmpL [a] [b] = cmpN a.toNat b.toNat := by
  rw [cmpL_cons]
  unfold cmpN
  have h1 := @UInt8.lt_iff_toNat_lt a b
  have h2 := @UInt8.lt_iff_toNat_lt b a
  by_cases g1 : a < b
  · rw [if_pos g1, if_pos (h1.1 g1)]
  · rw [if_neg g1, if_neg (fun h => g1 (h1.2 h))]
    by_cases g2 : b < a
    · rw [if_pos g2, if_pos (h2.1 g2)]
    · rw [if_neg g2, if_neg (fun h => g2 (h2.2 h))]; rfl
theorem cmpN_orZ (x m n : Nat) (hx : 0 < x) : orZ (cmpN (m / x) (n / x)) (cmpN (m % x) (n % x)) = cmpN m n := by
  have h1 := Nat.div_add_mod m x
  have h2 := Nat.div_add_mod n x
  have h3 := Nat.mod_lt m hx
  have h4 := Nat.mod_lt n hx
  have key : ∀ p q a b : Nat, p < q → a < x → x * p + a < x * q + b := fun p q a b hpq ha => by
    have : x * (p + 1) ≤ x * q := Nat.mul_le_mul_left _ hpq
    rw [Nat.mul_add] at this
    omega
  rcases Nat.lt_trichotomy (m / x) (n / x) with h | h | h
  · have := key _ _ (m % x) (n % x) h h3
    rw [h1, h2] at this
    unfold orZ cmpN
    rw [if_pos h, if_neg (by decide), if_pos this]
  · have e : cmpN (m / x) (n / x) = 0 := by unfold cmpN; rw [h, if_neg (Nat.lt_irrefl _), if_neg (Nat.lt_irrefl _)]
    rw [e, orZ, if_pos rfl]
    rw [h] at h1
    unfold cmpN
    rcases Nat.lt_trichotomy (m % x) (n % x) with g | g | g
    · rw [if_pos g, if_pos (by omega)]
    · rw [g, if_neg (Nat.lt_irrefl _), if_neg (Nat.lt_irrefl _), if_neg (by omega), if_neg (by omega)]
    · rw [if_neg (by omega), if_pos g, if_neg (by omega), if_pos (by omega)]
  · have := key _ _ (n % x) (m % x) h h4
    rw [h1, h2] at this
    unfold orZ cmpN
    have g1 : ¬ m / x < n / x := by omega
    have g2 : ¬ m < n := by omega
    simp only [g1, h, g2, this, if_true, if_false]
    rfl
theorem cmpL_be (k : Nat) : ∀ m n, m < 256 ^ k → n < 256 ^ k → cmpL (be k m) (be k n) = cmpN m n := by
  induction k with
  | zero => intro m n hm hn; simp at hm hn; subst hm hn; rfl
  | succ k ih =>
    intro m n hm hn
    rw [Nat.pow_succ] at hm hn
    rw [be, be, cmpL_app_len _ _ _ _ (by rw [be_length, be_length]), ih _ _ (by omega) (by omega), cmpN_u8]
    rw [UInt8.toNat_ofNat', UInt8.toNat_ofNat']
    rw [show 2 ^ 8 = 256 from rfl, Nat.mod_mod, Nat.mod_mod]
    exact cmpN_orZ 256 m n (by decide)

theorem cmpL_bucket : ∀ x y : Bs, (∀ c ∈ x, c ≠ 0) → (∀ c ∈ y, c ≠ 0) → cmpL (x ++ [0]) (y ++ [0]) = cmpL x y
  | [], [], _, _ => rfl
  | [], d :: y, _, hy => by
    have hd := hy d (by simp)
    have h0 : (0 : UInt8) < d := by
      rw [UInt8.lt_iff_toNat_lt]
      rcases Nat.eq_zero_or_pos d.toNat with h | h
      · exact absurd (UInt8.toNat_inj.1 h) hd
      · exact h
    rw [List.nil_append, List.cons_append, cmpL_cons, if_pos h0]; rfl
  | c :: x, [], hx, _ => by
    have hd := hx c (by simp)
    have h0 : (0 : UInt8) < c := by
      rw [UInt8.lt_iff_toNat_lt]
      rcases Nat.eq_zero_or_pos c.toNat with h | h
      · exact absurd (UInt8.toNat_inj.1 h) hd
      · exact h
    rw [List.nil_append, List.cons_append, cmpL_cons, if_pos h0, if_neg]
    · rfl
    · rw [UInt8.lt_iff_toNat_lt] at h0 ⊢; omega
  | c :: x, d :: y, hx, hy => by
    rw [List.cons_append, List.cons_append, cmpL_cons, cmpL_cons, cmpL_bucket x y (fun e he => hx e (List.mem_cons_of_mem _ he)) (fun e he => hy e (List.mem_cons_of_mem _ he))]
theorem esc_one (c : UInt8) (l : Bs) : esc (c :: l) = if c = 0 then 0 :: 255 :: esc l else c :: esc l := rfl
theorem u8_pos {c : UInt8} (h : c ≠ 0) : (0 : UInt8) < c := by
  rw [UInt8.lt_iff_toNat_lt]
  rcases Nat.eq_zero_or_pos c.toNat with h2 | h2
  · exact absurd (UInt8.toNat_inj.1 h2) h
  · exact h2
theorem u8_notneg (c : UInt8) : ¬ c < (0 : UInt8) := by
  rw [UInt8.lt_iff_toNat_lt]
  exact Nat.not_lt_zero _
theorem cmpL_esc : ∀ x y : Bs, cmpL (esc x ++ [0, 1]) (esc y ++ [0, 1]) = cmpL x y
  | [], [] => rfl
  | [], d :: y => by
    rw [esc_one]
    by_cases hd : d = 0
    · rw [if_pos hd]; rfl
    · rw [if_neg hd]
      show cmpL (0 :: [1]) (d :: _) = -1
      rw [cmpL_cons, if_pos (u8_pos hd)]
  | c :: x, [] => by
    rw [esc_one]
    by_cases hd : c = 0
    · rw [if_pos hd]; rfl
    · rw [if_neg hd]
      show cmpL (c :: _) (0 :: [1]) = 1
      rw [cmpL_cons, if_neg (u8_notneg c), if_pos (u8_pos hd)]
  | c :: x, d :: y => by
    have ih := cmpL_esc x y
    rw [esc_one, esc_one]
    by_cases hc : c = 0
    · by_cases hd : d = 0
      · rw [if_pos hc, if_pos hd, hc, hd, List.cons_append, List.cons_append, List.cons_append, List.cons_append, cmpL_same, cmpL_same, cmpL_same]; exact ih
      · rw [if_pos hc, if_neg hd, hc, List.cons_append, List.cons_append, List.cons_append, cmpL_cons, cmpL_cons, if_pos (u8_pos hd), if_pos (u8_pos hd)]
    · by_cases hd : d = 0
      · rw [if_neg hc, if_pos hd, hd, List.cons_append, List.cons_append, List.cons_append, cmpL_cons, cmpL_cons, if_neg (u8_notneg c), if_neg (u8_notneg c), if_pos (u8_pos hc), if_pos (u8_pos hc)]
      · rw [if_neg hc, if_neg hd, List.cons_append, List.cons_append, cmpL_cons, cmpL_cons, ih]

theorem orZ_zero (a : Int) : orZ a 0 = a := by unfold orZ; split <;> simp_all
theorem zero_orZ (a : Int) : orZ 0 a = a := rfl
theorem orZ_eq_zero (a b : Int) : orZ a b = 0 ↔ a = 0 ∧ b = 0 := by
  unfold orZ
  split
  · rename_i h; simp [h]
  · rename_i h; simp [h]
theorem orZ_neg (a b : Int) : orZ (-a) (-b) = - orZ a b := by
  unfold orZ
  by_cases h : a = 0
  · subst h; simp
  · rw [if_neg h, if_neg (by omega)]
theorem cmpN_neg (a b : Nat) : cmpN b a = - cmpN a b := by
  unfold cmpN
  rcases Nat.lt_trichotomy a b with h | h | h
  · rw [if_neg (by omega), if_pos h, if_pos h]; rfl
  · subst h; simp
  · rw [if_pos h, if_neg (by omega), if_pos h]
theorem cmpN_zero (a b : Nat) : cmpN a b = 0 ↔ a = b := by
  unfold cmpN
  rcases Nat.lt_trichotomy a b with h | h | h
  · rw [if_pos h]; constructor
    · intro h; cases h
    · omega
  · subst h; rw [if_neg (Nat.lt_irrefl _)]; simp
  · rw [if_neg (by omega), if_pos h]; constructor
    · intro h; cases h
    · omega
theorem cmpZ_neg (a b : Int) : cmpZ b a = - cmpZ a b := by
  unfold cmpZ
  rcases Int.lt_trichotomy a b with h | h | h
  · rw [if_neg (by omega), if_pos h, if_pos h]; rfl
  · subst h; simp
  · rw [if_pos h, if_neg (by omega), if_pos h]
theorem cmpZ_zero (a b : Int) : cmpZ a b = 0 ↔ a = b := by
  unfold cmpZ
  rcases Int.lt_trichotomy a b with h | h | h
  · rw [if_pos h]; constructor
    · intro h; cases h
    · omega
  · subst h; rw [if_neg (Int.lt_irrefl _)]; simp
  · rw [if_neg (by omega), if_pos h]; constructor
    · intro h; cases h
    · omega

/-- The order the other way round. -/
theorem cmpK_neg (a b : Key) : cmpK b a = - cmpK a b := by
  unfold cmpK
  rw [cmpN_neg a.kind b.kind, cmpL_neg a.bucket.data.toList, cmpL_neg a.name.data.toList, cmpN_neg a.n b.n, cmpZ_neg a.part b.part]
  by_cases hk : a.kind = b.kind
  · rw [hk]
    rw [← orZ_neg, ← orZ_neg, ← orZ_neg, ← orZ_neg]
    congr 4
    split <;> rfl
  · have h0 : cmpN a.kind b.kind ≠ 0 := fun h => hk ((cmpN_zero _ _).1 h)
    unfold orZ
    rw [if_neg (by omega), if_neg h0]
theorem cmpK_zero (a b : Key) : cmpK a b = 0 ↔ a = b := by
  obtain ⟨ak, ab, an, ann, ap⟩ := a
  obtain ⟨bk, bb, bn, bnn, bp⟩ := b
  unfold cmpK
  simp only [orZ_eq_zero, cmpN_zero, cmpL_zero, cmpZ_zero, Key.mk.injEq]
  have e : ((if ak = 3 then -cmpN ann bnn else cmpN ann bnn) = 0) ↔ ann = bnn := by
    split
    · rw [Int.neg_eq_zero, cmpN_zero]
    · exact cmpN_zero _ _
  rw [e]
  exact ⟨fun ⟨h1, h2, h3, h4, h5⟩ => ⟨h1, ba_ext h2, ba_ext h3, h4, h5⟩, fun ⟨h1, h2, h3, h4, h5⟩ => ⟨h1, by rw [h2], by rw [h3], h4, h5⟩⟩

/-- Keys' bytes stand in the order of keys. -/
theorem cmpL_enc {a b : Key} (ha : mayB a = true) (hb : mayB b = true) (na : a.n ≤ top) (nb : b.n ≤ top) : cmpL (encL a) (encL b) = cmpK a b := by
  obtain ⟨ka, a1, a2, _, a4, a5, a6, a7⟩ := may_facts ha
  obtain ⟨kb, b1, b2, _, b4, b5, b6, b7⟩ := may_facts hb
  obtain ⟨ak, ab, an, ann, ap⟩ := a
  obtain ⟨bk, bb, bn, bnn, bp⟩ := b
  simp only at *
  have e8 : (256 : Nat) ^ 8 = 18446744073709551616 := by decide
  have e2 : (256 : Nat) ^ 2 = 65536 := by decide
  have hkk : cmpL [UInt8.ofNat ak] [UInt8.ofNat bk] = cmpN ak bk := by
    rw [cmpN_u8, UInt8.toNat_ofNat', UInt8.toNat_ofNat', Nat.mod_eq_of_lt (by omega), Nat.mod_eq_of_lt (by omega)]
  unfold cmpK
  simp only
  have hsplit : ∀ r s : Bs, cmpL (UInt8.ofNat ak :: r) (UInt8.ofNat bk :: s) = orZ (cmpN ak bk) (cmpL r s) := fun r s => by
    rw [← hkk]
    exact cmpL_app_len [UInt8.ofNat ak] [UInt8.ofNat bk] r s rfl
  unfold encL
  rw [hsplit]
  clear hsplit hkk
  by_cases hk : ak = bk
  case neg =>
    have h0 : cmpN ak bk ≠ 0 := fun h => hk ((cmpN_zero _ _).1 h)
    unfold orZ
    rw [if_neg h0, if_neg h0]
  subst hk
  congr 1
  simp only
  have hB : ∀ r s : Bs, cmpL ((if hasB ak = true then ab.data.toList ++ [0] else []) ++ r) ((if hasB ak = true then bb.data.toList ++ [0] else []) ++ s) = orZ (cmpL ab.data.toList bb.data.toList) (cmpL r s) := fun r s => by
    cases hh : hasB ak
    · rw [a2 hh, b2 hh]; rfl
    · rw [if_pos rfl, if_pos rfl]
      have z1 := bucket_nz (a1 hh)
      have z2 := bucket_nz (b1 hh)
      rw [cmpL_app _ _ r s (fun h => by rw [(pre_bucket (r := []) (s := []) z1 z2 h).1]) (fun h => by rw [(pre_bucket (r := []) (s := []) z2 z1 h).1]), cmpL_bucket _ _ z1 z2]
  rw [hB]
  clear hB
  congr 1
  by_cases h3 : ak = 3
  · subst h3
    rw [if_pos rfl, if_pos rfl, if_pos rfl, if_neg (by decide), if_neg (by decide), List.append_nil, List.append_nil, a7 (by decide), b7 (by decide)]
    rw [show cmpZ 0 0 = 0 from rfl, orZ_zero]
    rw [cmpL_app _ _ _ _ (fun h => by rw [(pre_esc (r := []) (s := []) h).1]) (fun h => by rw [(pre_esc (r := []) (s := []) h).1]), cmpL_esc, cmpL_be 8 _ _ (by unfold top; omega) (by unfold top; omega)]
    congr 1
    unfold cmpN
    unfold top at na nb ⊢
    rcases Nat.lt_trichotomy ann bnn with h | h | h
    · rw [if_neg (by omega), if_pos (by omega), if_pos h]; rfl
    · rw [h, if_neg (Nat.lt_irrefl _), if_neg (Nat.lt_irrefl _), if_neg (Nat.lt_irrefl _), if_neg (Nat.lt_irrefl _)]; rfl
    · rw [if_pos (by omega), if_neg (by omega), if_pos h]
  · rw [if_neg h3, if_neg h3, if_neg h3, a4 h3, b4 h3]
    rw [show cmpL (⟨#[]⟩ : ByteArray).data.toList (⟨#[]⟩ : ByteArray).data.toList = 0 from rfl, zero_orZ]
    have hN : ∀ r s : Bs, cmpL ((if hasN ak = true then be 8 ann else []) ++ r) ((if hasN ak = true then be 8 bnn else []) ++ s) = orZ (cmpN ann bnn) (cmpL r s) := fun r s => by
      cases hh : hasN ak
      · rw [a5 hh, b5 hh]; rfl
      · rw [if_pos rfl, if_pos rfl, cmpL_app_len _ _ _ _ (by rw [be_length, be_length]), cmpL_be 8 _ _ (by unfold top at na; omega) (by unfold top at nb; omega)]
    rw [hN]
    congr 1
    by_cases h5 : ak = 5
    · rw [if_pos h5, if_pos h5]
      have h7 := a6 h5
      have h8 := b6 h5
      rw [cmpL_be 2 _ _ (by omega) (by omega)]
      unfold cmpN cmpZ
      rcases Int.lt_trichotomy ap bp with h | h | h
      · rw [if_pos (by omega), if_pos h]
      · rw [h, if_neg (Nat.lt_irrefl _), if_neg (Nat.lt_irrefl _), if_neg (Int.lt_irrefl _), if_neg (Int.lt_irrefl _)]
      · rw [if_neg (by omega), if_pos (by omega), if_neg (by omega), if_pos h]
    · rw [if_neg h5, if_neg h5, a7 h5, b7 h5]; rfl

theorem cut_at : ∀ (x r : Bs), (∀ c ∈ x, c ≠ 0) → Lib.cut (x ++ 0 :: r) [0] = (x, r, true) := fun x r hx => by
  have h1 : Lib.index (x ++ 0 :: r) [0] = x.length := by
    refine Lib.index_first (i := x.length) (by simp) ?_ (fun j hj => ?_)
    · unfold Lib.occAt
      rw [List.drop_left]; rfl
    · unfold Lib.occAt
      have hl : j < (x ++ 0 :: r).length := by simp; omega
      rw [List.drop_eq_getElem_cons hl]
      have e : (x ++ 0 :: r)[j] = x[j] := List.getElem_append_left hj
      rw [e]
      have : x[j] ≠ 0 := hx _ (List.getElem_mem hj)
      simp only [List.isPrefixOf]
      rw [Bool.and_eq_false_iff]
      exact .inl (by rw [beq_eq_false_iff_ne]; exact fun h => this h.symm)
  unfold Lib.cut
  rw [h1, if_pos (by omega)]
  simp only [Int.toNat_natCast, List.length_singleton]
  rw [List.take_left, show x ++ 0 :: r = (x ++ [0]) ++ r by simp, List.drop_left' (by simp)]
theorem bs_data (x : ByteArray) : bs x.data.toList = x := ba_ext rfl

/-- A key's bytes are read as the key. -/
theorem dec_enc {k : Key} (h : mayB k = true) (hn : k.n ≤ top) : decR (encL k) = .tuple #[k.val, .int .i64 0] := by
  obtain ⟨kk, a1, a2, a3, a4, a5, a6, a7⟩ := may_facts h
  obtain ⟨r1, hr1⟩ : ∃ r, r = (if k.kind = 5 then be 2 k.part.toNat else []) := ⟨_, rfl⟩
  obtain ⟨r2, hr2⟩ : ∃ r, r = (if k.kind = 3 then esc k.name.data.toList ++ [0, 1] ++ be 8 (top - k.n) else if hasN k.kind then be 8 k.n else []) ++ r1 := ⟨_, rfl⟩
  obtain ⟨r3, hr3⟩ : ∃ r, r = (if hasB k.kind then k.bucket.data.toList ++ [0] else []) ++ r2 := ⟨_, rfl⟩
  have hE : encL k = UInt8.ofNat k.kind :: r3 := by rw [hr3, hr2, hr1]; rfl
  have e8 : (256 : Nat) ^ 8 = 18446744073709551616 := by decide
  have e2 : (256 : Nat) ^ 2 = 65536 := by decide
  have hc : ((encL k).getD 0 0).toNat = k.kind := by
    rw [hE]
    show (UInt8.ofNat k.kind).toNat = _
    rw [UInt8.toNat_ofNat', Nat.mod_eq_of_lt (by omega)]
  have hd1 : dec1 k.kind r3 = ⟨⟨k.kind, k.bucket, ⟨#[]⟩, 0, 0⟩, r2, true⟩ := by
    unfold dec1
    rw [hr3]
    cases hh : hasB k.kind
    · rw [a2 hh]; rfl
    · rw [if_pos rfl, if_pos rfl, List.append_assoc, List.singleton_append, cut_at _ _ (bucket_nz (a1 hh)), bs_data]
  obtain ⟨r2', hr2'⟩ : ∃ r, r = (if k.kind = 3 then be 8 (top - k.n) else if hasN k.kind then be 8 k.n else []) ++ r1 := ⟨_, rfl⟩
  have hd2 : dec2 ⟨⟨k.kind, k.bucket, ⟨#[]⟩, 0, 0⟩, r2, true⟩ = ⟨⟨k.kind, k.bucket, k.name, 0, 0⟩, r2', true⟩ := by
    unfold dec2
    rw [hr2, hr2']
    by_cases h3 : k.kind = 3
    · simp only [h3, decide_true, Bool.and_self, if_true]
      rw [List.append_assoc, List.append_assoc]
      rw [show esc k.name.data.toList ++ ([0, 1] ++ (be 8 (top - k.n) ++ r1)) = esc k.name.data.toList ++ 0 :: 1 :: (be 8 (top - k.n) ++ r1) from rfl, un_esc]
      simp only [bs_data]
    · rw [if_neg (by simp [h3]), if_neg h3, if_neg h3, a4 h3]
  have hd3 : dec3 ⟨⟨k.kind, k.bucket, k.name, 0, 0⟩, r2', true⟩ = ⟨⟨k.kind, k.bucket, k.name, k.n, 0⟩, r1, true⟩ := by
    unfold dec3
    simp only
    cases hh : hasN k.kind
    · have h3 : k.kind ≠ 3 := fun e => by rw [e] at hh; cases hh
      rw [if_neg (by simp), a5 hh, hr2', hh, if_neg h3, if_neg (by simp)]; rfl
    · obtain ⟨N, hN⟩ : ∃ N, N = if k.kind = 3 then top - k.n else k.n := ⟨_, rfl⟩
      have hr : r2' = be 8 N ++ r1 := by
        rw [hr2', hN, hh]
        by_cases h3 : k.kind = 3
        · rw [if_pos h3, if_pos h3]
        · rw [if_neg h3, if_neg h3, if_pos rfl]
      have hNt : N ≤ top := by rw [hN]; split <;> omega
      have hl : (be 8 N).length = 8 := be_length 8 N
      rw [hr, if_pos (by simp [hl]), List.take_left' hl, List.drop_left' hl, val_be 8 N (by unfold top at hNt; omega), hN]
      by_cases h3 : k.kind = 3
      · rw [if_pos h3, if_pos h3, show top - (top - k.n) = k.n by omega]
      · rw [if_neg h3, if_neg h3]
  have hd4 : dec4 ⟨⟨k.kind, k.bucket, k.name, k.n, 0⟩, r1, true⟩ = ⟨k, r1, true⟩ := by
    unfold dec4
    simp only
    by_cases h5 : k.kind = 5
    · have hl : r1.length = 2 := by rw [hr1, if_pos h5, be_length]
      have := a6 h5
      rw [if_pos (by simp [h5, hl]), hr1, if_pos h5, val_be 2 _ (by omega), Int.toNat_of_nonneg (by omega)]
    · rw [if_neg (by simp [h5]), ← a7 h5]
  have hD : decD (encL k) = ⟨k, r1, true⟩ := by
    unfold decD
    rw [hc, hE, List.drop_one, List.tail_cons, hd1, hd2, hd3, hd4]
  unfold decR
  rw [hD, if_pos ⟨by rw [hE]; simp, rfl, h, rfl⟩]

end Go.Proofs.YtaeiahkomdpcoaaGreatDoor.Name
end

section
/- The walks of cmp.Compare, cmp.Or, and package name's Compare. -/
namespace Go.Proofs.YtaeiahkomdpcoaaGreatDoor.Name
open Go.RowKit Go.Shelf

theorem cmpN_cast (a b : Nat) : cmpZ (a : Int) (b : Int) = cmpN a b := by
  unfold cmpZ cmpN
  rcases Nat.lt_trichotomy a b with h | h | h
  · rw [if_pos (by omega), if_pos h]
  · subst h; simp
  · rw [if_neg (by omega), if_pos (by omega), if_neg (by omega), if_pos h]
theorem cmpZ_lt {a b : Int} (h : a < b) : cmpZ a b = -1 := if_pos h
theorem cmpZ_gt {a b : Int} (h : b < a) : cmpZ a b = 1 := by unfold cmpZ; rw [if_neg (by omega), if_pos h]
theorem cmpZ_eq (a : Int) : cmpZ a a = 0 := by unfold cmpZ; simp

theorem cmpL_range : ∀ l r : Bs, cmpL l r = -1 ∨ cmpL l r = 0 ∨ cmpL l r = 1
  | [], [] => .inr (.inl rfl)
  | [], _ :: _ => .inl rfl
  | _ :: _, [] => .inr (.inr rfl)
  | a :: l, b :: r => by
    rw [cmpL_cons]
    split
    · exact .inl rfl
    · split
      · exact .inr (.inr rfl)
      · exact cmpL_range l r
theorem less_cmp (x y : ByteArray) : Op.bytesLess x.toList y.toList = decide (cmpL x.data.toList y.data.toList < 0) := by
  rw [ByteArray.toList_eq, ByteArray.toList_eq]; exact cmpL_less _ _

/-- The first that is not zero. -/
def orL : List Int → Int
  | [] => 0
  | a :: l => if a = 0 then orL l else a

theorem cmpZ_range (a b : Int) : cmpZ a b = -1 ∨ cmpZ a b = 0 ∨ cmpZ a b = 1 := by
  unfold cmpZ
  split
  · exact .inl rfl
  · split
    · exact .inr (.inr rfl)
    · exact .inr (.inl rfl)
theorem or_five (a b c d e : Int) : orL [a, b, c, d, e] = orZ a (orZ b (orZ c (orZ d e))) := by
  simp only [orL, orZ]
  repeat' split
  all_goals simp_all


end Go.Proofs.YtaeiahkomdpcoaaGreatDoor.Name
end

section
/- Two keys held one against the other. -/
namespace Go.Proofs.YtaeiahkomdpcoaaGreatDoor.Name
open Go.RowKit Go.Shelf

def eqB (a b : Key) : Bool := (a.kind == b.kind) && (a.bucket.toList == b.bucket.toList) && (a.name.toList == b.name.toList) && (a.n == b.n) && (a.part == b.part)
theorem nat_beq (a b : Nat) : ((a : Int) == (b : Int)) = (a == b) := by
  by_cases h : a = b
  · subst h; simp
  · rw [beq_eq_false_iff_ne.2 h, beq_eq_false_iff_ne]; omega
theorem str_beq (x y : ByteArray) : (x.toList == y.toList) = decide (x = y) := by
  rw [ByteArray.toList_eq, ByteArray.toList_eq]
  by_cases h : x = y
  · subst h; simp
  · rw [decide_eq_false h, beq_eq_false_iff_ne]
    intro e
    exact h (ByteArray.ext (Array.toList_inj.1 e))
theorem eqB_iff (a b : Key) : eqB a b = true ↔ a = b := by
  obtain ⟨ak, ab, an, ann, ap⟩ := a
  obtain ⟨bk, bb, bn, bnn, bp⟩ := b
  unfold eqB
  rw [str_beq, str_beq]
  simp only [Bool.and_eq_true, beq_iff_eq, decide_eq_true_eq, Key.mk.injEq, and_assoc]

set_option maxHeartbeats 400000 in
set_option maxRecDepth 100000 in
theorem eq_run (ak : Nat) (ab an : ByteArray) (ann : Nat) (ap : Int) (bk : Nat) (bb bn : ByteArray) (bnn : Nat) (bp : Int) (W : World) : (binOp .eql 60 (.agg #[.int .u8 (ak : Int), .string ab, .string an, .int .u64 (ann : Int), .int .i64 ap]) (.agg #[.int .u8 (bk : Int), .string bb, .string bn, .int .u64 (bnn : Int), .int .i64 bp])).run Tryz.prog W = .ok (.bool (eqB ⟨ak, ab, an, ann, ap⟩ ⟨bk, bb, bn, bnn, bp⟩)) W := by
  have hu := Tryz.underlying60
  have h5 := Tryz.underlying5
  have h9 := Tryz.underlying9
  have h22 := Tryz.underlying31
  have h3 := Tryz.underlying3
  have hp : Tryz.prog.stoodInHeld 60 = false := by kernel_rfl
  have hf : Tryz.prog.underlying 60 = some (.struct (Tryz.prog.fieldsOf 60)) := by kernel_rfl
  rw [run_eql_struct, run_equalIn_agg W 9999 _ _ _ hf hp]
  clear hf hp
  simp [Program.fieldsOf, hu, Op.eqFields, go_sem, h5, h9, h22, h3]
  unfold eqB
  simp only
  by_cases h1 : ak = bk
  · subst h1
    by_cases h2 : ab.toList = bb.toList
    · by_cases h3 : an.toList = bn.toList
      · by_cases h4 : ann = bnn
        · subst h4
          by_cases h5 : ap = bp
          · subst h5; simp [h2, h3]
          · simp [h2, h3, h5]
        · have h4' : ¬ (ann : Int) = (bnn : Int) := by omega
          simp [h2, h3, h4, h4']
      · simp [h2, h3]
    · simp [h2]
  · have h1' : ¬ (ak : Int) = (bk : Int) := by omega
    simp [h1, h1']

end Go.Proofs.YtaeiahkomdpcoaaGreatDoor.Name
end

section
/- The walk of hoardlaw13.NameApart. -/
namespace Go.Proofs.YtaeiahkomdpcoaaGreatDoor.Name
open Go.RowKit Go.Shelf

theorem enc_cases (k : Key) : ∃ (T : ByteArray) (E : Int), encR k = .tuple #[.string T, .int .i64 E] ∧ ((E = 2 ∧ mayB k = false) ∨ (E = 0 ∧ mayB k = true ∧ T = bs (encL k))) := by
  unfold encR
  cases h : mayB k
  · exact ⟨_, _, if_neg (by simp), .inl ⟨rfl, rfl⟩⟩
  · exact ⟨_, _, if_pos rfl, .inr ⟨rfl, rfl, rfl⟩⟩
theorem encL_length (k : Key) (h : k.bucket.size ≤ 4096 ∧ k.name.size ≤ 4096) : (encL k).length ≤ 20000 := by
  have h1 := esc_length k.name.data.toList
  rw [size_list] at h1
  have h2 : (k.bucket.data.toList).length = k.bucket.size := size_list _
  have p1 : (if hasB k.kind = true then k.bucket.data.toList ++ [0] else []).length ≤ k.bucket.size + 1 := by
    split
    · rw [List.length_append, h2]; exact Nat.le_refl _
    · exact Nat.zero_le _
  have p2 : (if k.kind = 3 then esc k.name.data.toList ++ [0, 1] ++ be 8 (top - k.n) else if hasN k.kind = true then be 8 k.n else []).length ≤ 2 * k.name.size + 10 := by
    split
    · rw [List.length_append, List.length_append, be_length]; simp only [List.length_cons, List.length_nil]; omega
    · split
      · rw [be_length]; omega
      · exact Nat.zero_le _
  have p3 : (if k.kind = 5 then be 2 k.part.toNat else []).length ≤ 2 := by
    split
    · rw [be_length]; exact Nat.le_refl _
    · exact Nat.zero_le _
  unfold encL
  rw [List.length_cons, List.length_append, List.length_append]
  omega
/-- Neither's bytes begin the other's. -/
theorem not_pre {x y : Bs} (h1 : ¬ x <+: y) (h2 : ¬ y <+: x) (n : Nat) (hn : n = min x.length y.length) : ((bs x).extract 0 n).toList ≠ ((bs y).extract 0 n).toList := by
  intro e
  rw [ByteArray.toList_eq, ByteArray.toList_eq, Lib.extract_data, Lib.extract_data] at e
  have e2 : x.take n = y.take n := e
  rcases Nat.le_total x.length y.length with hl | hl
  · rw [hn, Nat.min_eq_left hl, List.take_length] at e2
    exact h1 (by rw [e2]; exact List.take_prefix _ _)
  · rw [hn, Nat.min_eq_right hl, List.take_length] at e2
    exact h2 (by rw [← e2]; exact List.take_prefix _ _)


end Go.Proofs.YtaeiahkomdpcoaaGreatDoor.Name
end

section
/- The walk of hoardlaw13.NameOrder. -/
namespace Go.Proofs.YtaeiahkomdpcoaaGreatDoor.Name
open Go.RowKit Go.Shelf

/-- The bytes of a key that may be are few. -/
theorem encL_small {k : Key} (h : mayB k = true) : (encL k).length ≤ 4096 := by
  obtain ⟨_, a1, a2, a3, a4, _⟩ := may_facts h
  have h1 := esc_length k.name.data.toList
  have hb : k.bucket.data.toList.length ≤ 63 := by
    cases hh : hasB k.kind
    · rw [a2 hh]; decide
    · have := a1 hh
      unfold bucketL at this
      simp only [Bool.and_eq_true, decide_eq_true_eq] at this
      exact this.1.1.1.2
  have hn : k.name.data.toList.length ≤ 200 := by
    by_cases h3 : k.kind = 3
    · have := a3 h3
      unfold objectL at this
      simp only [decide_eq_true_eq] at this
      exact this.2
    · rw [a4 h3]; decide
  have h2 := encL_length k ⟨by rw [← size_list]; omega, by rw [← size_list]; omega⟩
  have p1 : (if hasB k.kind = true then k.bucket.data.toList ++ [0] else []).length ≤ 64 := by
    split
    · rw [List.length_append]; simp only [List.length_singleton]; omega
    · exact Nat.zero_le _
  have p2 : (if k.kind = 3 then esc k.name.data.toList ++ [0, 1] ++ be 8 (top - k.n) else if hasN k.kind = true then be 8 k.n else []).length ≤ 410 := by
    split
    · rw [List.length_append, List.length_append, be_length]; simp only [List.length_cons, List.length_nil]; omega
    · split
      · rw [be_length]; omega
      · exact Nat.zero_le _
  have p3 : (if k.kind = 5 then be 2 k.part.toNat else []).length ≤ 2 := by
    split
    · rw [be_length]; exact Nat.le_refl _
    · exact Nat.zero_le _
  unfold encL
  rw [List.length_cons, List.length_append, List.length_append]
  omega

theorem cmpK_range (a b : Key) : cmpK a b = -1 ∨ cmpK a b = 0 ∨ cmpK a b = 1 := by
  have o : ∀ x y : Int, (x = -1 ∨ x = 0 ∨ x = 1) → (y = -1 ∨ y = 0 ∨ y = 1) → (orZ x y = -1 ∨ orZ x y = 0 ∨ orZ x y = 1) := fun x y hx hy => by
    unfold orZ; split
    · exact hy
    · exact hx
  have hN : ∀ x y : Nat, cmpN x y = -1 ∨ cmpN x y = 0 ∨ cmpN x y = 1 := fun x y => by rw [← cmpN_cast]; exact cmpZ_range _ _
  unfold cmpK
  refine o _ _ (hN _ _) (o _ _ (cmpL_range _ _) (o _ _ (cmpL_range _ _) (o _ _ ?_ (cmpZ_range _ _))))
  have := hN a.n b.n
  split
  · omega
  · exact this

/-- Two keys that may be, in the order of their bytes: the three ways. -/
theorem order_ways {a b : Key} (ha : mayB a = true) (hb : mayB b = true) (na : a.n ≤ top) (nb : b.n ≤ top) :
    (cmpK a b = -1 ∧ cmpK b a = 1 ∧ Op.bytesLess (bs (encL a)).toList (bs (encL b)).toList = true ∧ ((bs (encL a)).toList == (bs (encL b)).toList) = false ∧ eqB a b = false) ∨
    (cmpK a b = 0 ∧ cmpK b a = 0 ∧ Op.bytesLess (bs (encL a)).toList (bs (encL b)).toList = false ∧ ((bs (encL a)).toList == (bs (encL b)).toList) = true ∧ eqB a b = true) ∨
    (cmpK a b = 1 ∧ cmpK b a = -1 ∧ Op.bytesLess (bs (encL a)).toList (bs (encL b)).toList = false ∧ ((bs (encL a)).toList == (bs (encL b)).toList) = false ∧ eqB a b = false) := by
  have hc := cmpL_enc ha hb na nb
  have hl := cmpL_less (encL a) (encL b)
  have hz := cmpL_zero (encL a) (encL b)
  have hk := cmpK_zero a b
  have hn := cmpK_neg a b
  rw [hc] at hl hz
  have e1 : (bs (encL a)).toList = encL a := by rw [ByteArray.toList_eq]; rfl
  have e2 : (bs (encL b)).toList = encL b := by rw [ByteArray.toList_eq]; rfl
  rw [e1, e2]
  have hE : ∀ t : Bool, (cmpK a b = 0 ↔ t = true) → ((encL a == encL b) = t ∧ eqB a b = t) := fun t ht => by
    refine ⟨?_, ?_⟩
    · rw [Bool.eq_iff_iff, beq_iff_eq, ← ht, hz]
    · rw [Bool.eq_iff_iff, eqB_iff, ← ht, hk]
  rcases cmpK_range a b with h | h | h
  · have := hE false (by rw [h]; simp)
    rw [h] at hl hn
    exact .inl ⟨h, hn, hl, this.1, this.2⟩
  · have := hE true (by rw [h]; simp)
    rw [h] at hl hn
    exact .inr (.inl ⟨h, hn, hl, this.1, this.2⟩)
  · have := hE false (by rw [h]; simp)
    rw [h] at hl hn
    exact .inr (.inr ⟨h, hn, hl, this.1, this.2⟩)


end Go.Proofs.YtaeiahkomdpcoaaGreatDoor.Name
end

section
/- A range over a function whose iterator may itself range over another one: contract and law over a set of blocks that the iterator owns. (The law's proof follows the library's law for a loop over an iterator.) -/
namespace Go.Proofs.YtaeiahkomdpcoaaGreatDoor.Seq
open Go Go.RowKit

section
variable {F : Fence} {n : Nat} {P : Program} {Q : Exit → Act → World → Prop} {a : Act} {w : World} {b : Frame} {k : List Item} {cs : List Frame}
theorem stepR_scope {c : Code} : step P (lone (b.atR a (.code (.scope c) :: k)) cs w) = .next (lone (b.atR a (.code c :: .inScope c :: k)) cs w) :=
  step_lone_go (by simp [stepG, stepG.exec, Frame.atR])
theorem stepR_inScope {c : Code} : step P (lone (b.atR a (.inScope c :: k)) cs w) = .next (lone (b.atR a k) cs w) :=
  step_lone_go (by simp [stepG, stepG.exec, Frame.atR])
/-- A scope, inside a fence, through which the run goes without a goto. -/
theorem wpIn_scope_straight {c : Code} (h : c.wpIn F n P (Exit.noGoto Q) a w) : (Code.scope c).wpIn F n P Q a w := by
  intro b k cs hro hb hr
  have h0 : (lone (b.atR a (.code (.scope c) :: k)) cs w).fenced P F := fenced_calm hb hr rfl
  obtain ⟨e, a₁, w₁, hq, harr⟩ := h b (.inScope c :: k) cs hro hb hr
  cases e with
  | normal => exact ⟨.normal, a₁, w₁, hq, .head h0 stepR_scope (StepsIn.trans harr (.one (fenced_calm hb hr rfl) stepR_inScope))⟩
  | exit id =>
    have hx : exitTo id (.inScope c :: k) = exitTo id k := by simp [exitTo]
    exact ⟨.exit id, a₁, w₁, hq, fun k' hk => .head h0 stepR_scope (harr.1 k' (by rw [hx]; exact hk)),
      fun hr' hk => let ⟨k₁, h1, h2⟩ := harr.2 hr' (by rw [hx]; exact hk); ⟨k₁, h1, .head h0 stepR_scope h2⟩⟩
  | goto l => exact hq.elim
  | ret => exact ⟨_, a₁, w₁, hq, .of_steps (.one h0 stepR_scope) harr⟩
  | panic ch => exact ⟨_, a₁, w₁, hq, .of_steps (.one h0 stepR_scope) harr⟩
  | outgrown => exact ⟨_, a₁, w₁, hq, .of_steps (.one h0 stepR_scope) harr⟩
end

/-- Off O: nothing has turned but what lies in O; new blocks. -/
structure Off (O : Nat → Prop) (W W' : World) : Prop where
  os : W'.os = W.os
  tape : W'.tape = W.tape
  output : W'.output = W.output
  size : W.heap.size ≤ W'.heap.size
  block : ∀ k, k < W.heap.size → ¬ O k → W'.heap[k]? = W.heap[k]?
/-- O with the blocks that are new. -/
def own (O : Nat → Prop) (W W' : World) (k : Nat) : Prop := O k ∨ (W.heap.size ≤ k ∧ k < W'.heap.size)
/-- What is said abides whatever the owner of O does. -/
def Abide {β : Type} (J : (Nat → Prop) → β → World → Prop) : Prop := ∀ O s W W', J O s W → Off O W W' → J (own O W W') s W'
/-- A round's word to the iterator: what lies below n₀ and what the iterator owns lies as it lay. -/
structure Kept (O : Nat → Prop) (n₀ : Nat) (W W' : World) : Prop where
  below : Below n₀ W W'
  same : ∀ k, O k → k < W.heap.size → W'.heap[k]? = W.heap[k]?
theorem Kept.refl (O : Nat → Prop) (n₀ : Nat) (W : World) : Kept O n₀ W W := ⟨Below.refl _ _, fun _ _ _ => rfl⟩
theorem Kept.trans {O : Nat → Prop} {n₀ : Nat} {A B C : World} (h : Kept O n₀ A B) (k : Kept O n₀ B C) : Kept O n₀ A C :=
  ⟨h.below.trans k.below, fun i hi hl => (k.same i hi (Nat.lt_of_lt_of_le hl h.below.size)).trans (h.same i hi hl)⟩
theorem Kept.less {O O' : Nat → Prop} {n₀ : Nat} {A B : World} (h : Kept O n₀ A B) (hs : ∀ k, O' k → O k) : Kept O' n₀ A B := ⟨h.below, fun k hk => h.same k (hs k hk)⟩
theorem Off.more {O O' : Nat → Prop} {A B : World} (h : Off O A B) (hs : ∀ k, O k → O' k) : Off O' A B := ⟨h.os, h.tape, h.output, h.size, fun k hk hn => h.block k hk (fun ho => hn (hs k ho))⟩
theorem off_of_below {O : Nat → Prop} {W W' : World} (h : Below W.heap.size W W') : Off O W W' := ⟨h.os, h.tape, h.output, h.size, fun k hk _ => h.block k hk⟩
theorem kept_of_below {O : Nat → Prop} {n₀ : Nat} {W W' : World} (h : Below W.heap.size W W') (hn : n₀ ≤ W.heap.size) : Kept O n₀ W W' := ⟨h.mono hn, fun k _ hk => h.block k hk⟩
theorem off_putObj {O : Nat → Prop} (W : World) (l : Nat) (o : Obj) (hl : O l) : Off O W (W.putObj l o) :=
  ⟨rfl, rfl, rfl, by simp, fun k _ hn => World.putObj_heap_other (fun e => hn (by rw [e]; exact hl))⟩
theorem kept_putObj {O : Nat → Prop} {n₀ : Nat} (W : World) (l : Nat) (o : Obj) (hl : ¬ O l) (hn : n₀ ≤ l) : Kept O n₀ W (W.putObj l o) :=
  ⟨⟨rfl, rfl, rfl, by simp, fun k hk => World.putObj_heap_other (by omega)⟩, fun k hk _ => World.putObj_heap_other (fun e => hl (by rw [← e]; exact hk))⟩
theorem own_same (O : Nat → Prop) {W W' : World} (h : W'.heap.size = W.heap.size) : own O W W' = O := by
  funext k; apply propext; unfold own; constructor
  · rintro (h1 | h1); exact h1; omega
  · exact fun h => .inl h
theorem Abide.putObj {β : Type} {J : (Nat → Prop) → β → World → Prop} (h : Abide J) {O : Nat → Prop} {s : β} {W : World} (l : Nat) (o : Obj) (hs : J O s W) (hl : O l) : J O s (W.putObj l o) := by
  have := h O s W (W.putObj l o) hs (off_putObj W l o hl)
  rwa [own_same O (by simp)] at this

/-- AN ITERATOR OVER xs: it reads what Rd says (below n₀, or in the blocks R0, which are its own from the start). -/
def SeqO {α : Type} (F : Fence) (n : Nat) (P : Program) (g : Nat) (lb : Array Value) (encs : α → Array Value) (n₀ : Nat) (R0 : Nat → Prop) (xs : List α) (Rd : World → Prop) : Prop :=
  ∀ (l : Nat) (J Jx : (Nat → Prop) → List α → World → Prop) (O : Nat → Prop) (W : World), n₀ ≤ W.heap.size → Rd W → (∀ i, R0 i → O i) → Abide J → Abide Jx →
    (∀ O pre x rest W1, xs = pre ++ x :: rest → J O pre W1 → YieldAt F (n - 1) P l (encs x) W1 fun e W' => Kept O n₀ W1 W' ∧
      ((e = .returned (.bool true) ∧ J O (pre ++ [x]) W') ∨ (e = .returned (.bool false) ∧ Jx O (pre ++ [x]) W'))) →
    J O [] W →
    CallsIn F n P g (#[.func (.yield l) #[] #[]] ++ lb) W fun e W' => (∃ v, e = .returned v) ∧ ∃ O', J O' xs W' ∨ ∃ pre x rest, xs = pre ++ x :: rest ∧ Jx O' (pre ++ [x]) W'

/-- How the body of a round may be left. -/
def postO {α : Type} (O : Nat → Prop) (n₀ : Nat) (W : World) (I : (Nat → Prop) → List α → World → Prop) (Ix : Code → (Nat → Prop) → List α → World → Prop) (xs : List α) : Exit → Act → World → Prop
  | .normal, _, W' => Kept O n₀ W W' ∧ I O xs W'
  | .ret, _, W' => Kept O n₀ W W' ∧ Ix .ret O xs W'
  | .exit id, _, W' => Kept O n₀ W W' ∧ Ix (.exit id) O xs W'
  | .goto t, _, W' => Kept O n₀ W W' ∧ Ix (.goto t) O xs W'
  | _, _, _ => False

variable {F : Fence} {n : Nat} {P : Program}
/-- THE LAW. -/
theorem wpIn_rangeFunc_O {α : Type} {g : Operand} {ps : Array Tmp} {assign body : Code} {Q : Exit → Act → World → Prop} {a : Act} {w : World}
    (hro : F.round = none) (h1 : 1 ≤ n) {gf : Nat} {lb : Array Value} (hg : a.eval g = .func (.func gf) #[] lb) (hFg : F.fn gf) (eg : ∀ args w, (callFunc gf args).run P w = .ok (.enter gf args) w)
    {encs : α → Array Value} {n₀ : Nat} {R0 : Nat → Prop} {xs : List α} {Rd : World → Prop} (hseq : SeqO F (n - 1) P gf lb encs n₀ R0 xs Rd) (hn : n₀ ≤ w.heap.size)
    (hRd : ∀ W, Below w.heap.size w W → Rd W) (hps : ∀ x, (encs x).size = ps.size)
    (I : (Nat → Prop) → List α → World → Prop) (Ix : Code → (Nat → Prop) → List α → World → Prop) (hI : Abide I) (hIx : ∀ c, Abide (Ix c)) (O₀ : Nat → Prop) (hO₀ : ∀ i, O₀ i → i < w.heap.size) (hR0 : ∀ i, R0 i → O₀ i) (h0 : I O₀ [] w)
    (Ax : (Nat → Prop) → α → Act → World → Prop) (hAx : ∀ x, Abide (fun O a' W => Ax O x a' W))
    (hassign : ∀ (l : Nat) (O : Nat → Prop) (pre : List α) (x : α) (W : World) (K : Act → World → Prop), I O pre W → (∀ a' W', Kept O n₀ W W' → I O pre W' → Ax O x a' W' → K a' W') →
      assign.wpIn (F.inRound l) (n - 1 - 1) P (Exit.then K (fun _ _ _ => False)) { tmps := (ps.zip (encs x)).foldl (fun t (p, v) => t.setIfInBounds p v) a.tmps, defers := [] } W)
    (hbody : ∀ (l : Nat) (O : Nat → Prop) (pre : List α) (x : α) (rest : List α) (a' : Act) (W : World), xs = pre ++ x :: rest → I O pre W → Ax O x a' W → body.wpIn (F.inRound l) (n - 1 - 1) P (postO O n₀ W I Ix (pre ++ [x])) a' W)
    (hdone : ∀ (O : Nat → Prop) (D : Nat) (W : World), w.heap.size ≤ D → O D → I O xs W → W.heap[D]? = some (.deferred (some [])) → Q .normal { a with defers := { target := .collected D, args := #[] } :: a.defers } W)
    (hstop : ∀ (O : Nat → Prop) (D : Nat) (c : Code) (pre : List α) (x : α) (rest : List α) (W : World), w.heap.size ≤ D → O D → xs = pre ++ x :: rest → Ix c O (pre ++ [x]) W → W.heap[D]? = some (.deferred (some [])) → c.wpIn F n P Q { a with defers := { target := .collected D, args := #[] } :: a.defers } W) :
    (Code.rangeFunc g ps assign body).wpIn F n P Q a w := by
  refine wpIn_rangeFunc ?_
  intro fn hfn
  rw [hro]
  obtain ⟨rec, hrec⟩ : ∃ rec : LoopState → Option Code → Loop, rec = fun st pe => { state := st, pending := pe, fn, tmps := a.tmps, params := ps, assign, body, defers := w.heap.size } := ⟨_, rfl⟩
  obtain ⟨W1, hW1⟩ : ∃ W1, (w.alloc (.deferred (some []))).alloc (.loop (rec .ready none)) = W1 := ⟨_, rfl⟩
  have hs1 : W1.heap.size = w.heap.size + 2 := by rw [← hW1]; simp
  have hL1 : W1.heap[w.heap.size + 1]? = some (.loop (rec .ready none)) := by
    rw [← hW1]; have := World.alloc_heap_new (w.alloc (.deferred (some []))) (.loop (rec .ready none)); rwa [World.size_alloc] at this
  have hK1 : W1.heap[w.heap.size]? = some (.deferred (some [])) := by
    rw [← hW1]; exact (Below.heap_alloc _ _ _ (by simp)).trans (World.alloc_heap_new w _)
  have hb1 : Below w.heap.size w W1 := by
    rw [← hW1]; exact ((Below.refl _ w).alloc (Nat.le_refl _) _).alloc (by simp) _
  obtain ⟨X, hX⟩ : ∃ X : (Nat → Prop) → Nat → Prop, X = fun O k => O k ∨ k = w.heap.size + 1 ∨ k = w.heap.size := ⟨_, rfl⟩
  have hXl : ∀ O, X O (w.heap.size + 1) := fun O => by rw [hX]; exact .inr (.inl rfl)
  have hXD : ∀ O, X O w.heap.size := fun O => by rw [hX]; exact .inr (.inr rfl)
  have hXi : ∀ O k, O k → X O k := fun O k h => by rw [hX]; exact .inl h
  have hXo : ∀ O W W', own (X O) W W' = X (own O W W') := fun O W W' => by
    funext k; apply propext; rw [hX]; unfold own
    constructor
    · rintro ((h | h) | h)
      · exact .inl (.inl h)
      · exact .inr h
      · exact .inl (.inr h)
    · rintro ((h | h) | h)
      · exact .inl (.inl h)
      · exact .inr h
      · exact .inl (.inr h)
  have hI1 : I (X O₀) [] W1 := by
    have h := hI _ _ w W1 h0 (off_of_below hb1)
    rwa [show own O₀ w W1 = X O₀ by
      funext k; apply propext; rw [hX]; unfold own
      constructor
      · rintro (h | h); exact .inl h; right; omega
      · rintro (h | h | h); exact .inl h; right; omega; right; omega] at h
  have hab : ∀ {β : Type} (J : (Nat → Prop) → β → World → Prop) (st : LoopState) (pe : β → Option Code → Prop), Abide J →
      Abide (fun O (s : β) W => ∃ c, pe s c ∧ J (X O) s W ∧ W.heap[w.heap.size + 1]? = some (.loop (rec st c)) ∧ W.heap[w.heap.size]? = some (.deferred (some [])) ∧ ¬ O (w.heap.size + 1) ∧ ¬ O w.heap.size) :=
    fun J st pe hJ O s W W' hs ho => by
      obtain ⟨c, hc, h2, hl, hk, n1, n2⟩ := hs
      have hll := (Array.getElem?_eq_some_iff.1 hl).1
      refine ⟨c, hc, ?_, (ho.block _ hll n1).trans hl, (ho.block _ (by omega) n2).trans hk, ?_, ?_⟩
      · rw [← hXo]; exact hJ _ _ _ _ h2 (ho.more (hXi O))
      · rintro (h | h); exact n1 h; omega
      · rintro (h | h); exact n2 h; omega
  refine ⟨w.heap.size + 1, [{ target := .collected w.heap.size, args := #[] }], W1, { target := .fn (.func gf) lb, args := #[.func (.yield (w.heap.size + 1)) #[] #[]] }, W1, gf,
    #[.func (.yield (w.heap.size + 1)) #[] #[]] ++ lb, W1, ?_, ?_, ?_, ?_, fun _ => h1, ?_⟩
  · rw [← hW1, hrec]; exact run_enterLoop_outer _ _ _ _ _
  · simp only [resolve, hg]
    simp [go_sem]
  · intro f' hf'; simp [Target.leads] at hf'; subst hf'; exact hFg
  · simp [invoke, go_sem, eg]
  · have hAbx : Abide (fun O (s : List α) W => ∃ c, Ix c (X O) s W ∧ W.heap[w.heap.size + 1]? = some (.loop (rec .done (some c))) ∧ W.heap[w.heap.size]? = some (.deferred (some [])) ∧ ¬ O (w.heap.size + 1) ∧ ¬ O w.heap.size) := fun O s W W' hs ho => by
      obtain ⟨c, hc, hl, hk, n1, n2⟩ := hs
      have hll := (Array.getElem?_eq_some_iff.1 hl).1
      refine ⟨c, ?_, (ho.block _ hll n1).trans hl, (ho.block _ (by omega) n2).trans hk, ?_, ?_⟩
      · rw [← hXo]; exact hIx c _ _ _ _ hc (ho.more (hXi O))
      · rintro (h | h); exact n1 h; omega
      · rintro (h | h); exact n2 h; omega
    refine (hseq (w.heap.size + 1)
      (fun O pre W => ∃ c, c = none ∧ I (X O) pre W ∧ W.heap[w.heap.size + 1]? = some (.loop (rec .ready c)) ∧ W.heap[w.heap.size]? = some (.deferred (some [])) ∧ ¬ O (w.heap.size + 1) ∧ ¬ O w.heap.size)
      (fun O pre W => ∃ c, Ix c (X O) pre W ∧ W.heap[w.heap.size + 1]? = some (.loop (rec .done (some c))) ∧ W.heap[w.heap.size]? = some (.deferred (some [])) ∧ ¬ O (w.heap.size + 1) ∧ ¬ O w.heap.size)
      O₀ W1 (by omega) (hRd W1 hb1) hR0 (hab I .ready (fun _ c => c = none) hI) hAbx ?_ ⟨none, rfl, hI1, hL1, hK1, fun h => absurd (hO₀ _ h) (by omega), fun h => absurd (hO₀ _ h) (by omega)⟩).mono ?_
    · -- ONE ROUND
      rintro O pre x rest W hxs ⟨c0, rfl, hi, hl, hk, n1, n2⟩
      have hlt : w.heap.size + 1 < W.heap.size := (Array.getElem?_eq_some_iff.1 hl).1
      have hy := run_yield (P := P) (args := encs x) hl (by rw [hrec]; exact hps x)
      rw [hrec] at hy
      refine ⟨fn, _, assign, body, hy, roundIn_of_wpIn hfn (hassign _ (X O) pre x W _ hi ?_)⟩
      clear hy
      intro a' Wa hka hia hax
      have hla := (hka.same _ (hXl O) hlt).trans hl
      have hda := (hka.same _ (hXD O) (by omega)).trans hk
      have hlta : w.heap.size + 1 < Wa.heap.size := (Array.getElem?_eq_some_iff.1 hla).1
      refine ⟨_, run_beginRound hla (by rw [hrec]), ?_⟩
      have hl2 : (Wa.putObj (w.heap.size + 1) (.loop { rec .ready none with state := .busy })).heap[w.heap.size + 1]? = some (.loop { rec .ready none with state := .busy }) := World.putObj_heap_same hlta
      have hk2 : (Wa.putObj (w.heap.size + 1) (.loop { rec .ready none with state := .busy })).heap[w.heap.size]? = some (.deferred (some [])) := (World.putObj_heap_other (by omega)).trans hda
      have hs2 : (Wa.putObj (w.heap.size + 1) (.loop { rec .ready none with state := .busy })).heap.size = Wa.heap.size := by simp
      have hkO : Kept O n₀ W (Wa.putObj (w.heap.size + 1) (.loop { rec .ready none with state := .busy })) := (hka.less (hXi O)).trans (kept_putObj _ _ _ n1 (by omega))
      refine wpIn_mono (hbody _ (X O) pre x rest a' _ hxs (hI.putObj _ _ hia (hXl O)) ((hAx x).putObj _ _ hax (hXl O))) ?_
      have fin : ∀ (jump : Option Code) (W3 : World), Kept (X O) n₀ (Wa.putObj (w.heap.size + 1) (.loop { rec .ready none with state := .busy })) W3 →
          (Instr.endRound (w.heap.size + 1) jump).run P W3 = .ok (.bool jump.isNone) (W3.putObj (w.heap.size + 1) (.loop (rec (if jump.isNone then .ready else .done) jump))) ∧
          (W3.putObj (w.heap.size + 1) (.loop (rec (if jump.isNone then .ready else .done) jump))).heap[w.heap.size + 1]? = some (.loop (rec (if jump.isNone then .ready else .done) jump)) ∧
          (W3.putObj (w.heap.size + 1) (.loop (rec (if jump.isNone then .ready else .done) jump))).heap[w.heap.size]? = some (.deferred (some [])) ∧
          Kept O n₀ W (W3.putObj (w.heap.size + 1) (.loop (rec (if jump.isNone then .ready else .done) jump))) := fun jump W3 hk3 => by
        have hl3 := (hk3.same _ (hXl O) (by omega)).trans hl2
        have := run_endRound (P := P) jump hl3
        rw [hrec] at this ⊢
        exact ⟨this, World.putObj_heap_same (Array.getElem?_eq_some_iff.1 hl3).1, (World.putObj_heap_other (by omega)).trans ((hk3.same _ (hXD O) (by omega)).trans hk2), (by rw [hrec] at hkO hk3; exact (hkO.trans (hk3.less (hXi O))).trans (kept_putObj _ _ _ n1 (by omega)))⟩
      rintro e a3 W3 hp
      cases e with
      | normal =>
        obtain ⟨hk3, hi3⟩ := hp
        obtain ⟨hr, hl4, hk4, hkk⟩ := fin none W3 hk3
        exact ⟨_, _, hr, hkk, .inl ⟨rfl, none, rfl, hI.putObj _ _ hi3 (hXl O), hl4, hk4, n1, n2⟩⟩
      | ret =>
        obtain ⟨hk3, hi3⟩ := hp
        obtain ⟨hr, hl4, hk4, hkk⟩ := fin (some .ret) W3 hk3
        exact ⟨_, _, hr, hkk, .inr ⟨rfl, .ret, (hIx _).putObj _ _ hi3 (hXl O), hl4, hk4, n1, n2⟩⟩
      | exit id =>
        obtain ⟨hk3, hi3⟩ := hp
        obtain ⟨hr, hl4, hk4, hkk⟩ := fin (some (.exit id)) W3 hk3
        exact ⟨_, _, hr, hkk, .inr ⟨rfl, .exit id, (hIx _).putObj _ _ hi3 (hXl O), hl4, hk4, n1, n2⟩⟩
      | goto t =>
        obtain ⟨hk3, hi3⟩ := hp
        obtain ⟨hr, hl4, hk4, hkk⟩ := fin (some (.goto t)) W3 hk3
        exact ⟨_, _, hr, hkk, .inr ⟨rfl, .goto t, (hIx _).putObj _ _ hi3 (hXl O), hl4, hk4, n1, n2⟩⟩
      | panic ch => exact hp.elim
      | outgrown => exact hp.elim
    · -- BEHIND THE ITERATOR
      rintro e W2 ⟨⟨v, rfl⟩, O', (⟨c0, rfl, hi, hl, hk, n1, n2⟩ | ⟨pre, x, rest, hxs, c, hi, hl, hk, n1, n2⟩)⟩
      · exact ⟨none, _, by have := run_endLoop (P := P) hl (by rw [hrec]; simp); rw [hrec] at this; exact this, hdone _ _ _ (Nat.le_refl _) (hXD O') (hI.putObj _ _ hi (hXl O')) ((World.putObj_heap_other (by omega)).trans hk)⟩
      · exact ⟨some c, _, by have := run_endLoop (P := P) hl (by rw [hrec]; simp); rw [hrec] at this; exact this, hstop _ _ c pre x rest _ (Nat.le_refl _) (hXD O') hxs ((hIx c).putObj _ _ hi (hXl O')) ((World.putObj_heap_other (by omega)).trans hk)⟩

end Go.Proofs.YtaeiahkomdpcoaaGreatDoor.Seq
end

section
/- merge.Of: its closure hands out the pairs of a row, in order. -/
namespace Go.Proofs.YtaeiahkomdpcoaaGreatDoor.Seq
open Go Go.RowKit Go.Deep

attribute [local go_sem] Oper.semAt_some

theorem block_of_add (a : Addr) (n : Nat) : (a.add n).block = a.block := by unfold Addr.add; split <;> rfl
abbrev Pr := ByteArray × ByteArray
/-- The row of pairs, in a block below n₀. -/
def PrsAt (n₀ : Nat) (w : World) (A : Option Addr) (ps : List Pr) : Prop := ∀ i p, ps[i]? = some p → ∃ ad, A = some ad ∧ ad.block < n₀ ∧ ad.block < w.heap.size ∧ w.cell? (ad.add (i * 2)) = some (.string p.1) ∧ w.cell? (ad.add (i * 2 + 1)) = some (.string p.2)
theorem PrsAt.below {n₀ : Nat} {w w' : World} {A : Option Addr} {ps : List Pr} (h : PrsAt n₀ w A ps) (hb : Below n₀ w w') : PrsAt n₀ w' A ps := fun i s hs => by
  obtain ⟨ad, h0, h1, h2, h3, h4⟩ := h i s hs
  have hk : ∀ n, w'.cell? (ad.add n) = w.cell? (ad.add n) := fun n => World.cell?_of_block (by rw [block_of_add]; exact hb.block _ h1)
  exact ⟨ad, h0, h1, Nat.lt_of_lt_of_le h2 hb.size, (hk _).trans h3, (hk _).trans h4⟩
theorem PrsAt.at_ {n₀ : Nat} {w : World} {A : Option Addr} {ps : List Pr} (h : PrsAt n₀ w A ps) {k : Nat} (hk : k < ps.length) : ∃ ad, A = some ad ∧ ad.block < w.heap.size ∧ w.cell? (ad.add (k * 2)) = some (.string ps[k].1) ∧ w.cell? ⟨(ad.add (k * 2)).block, (ad.add (k * 2)).off + 1, none⟩ = some (.string ps[k].2) := by
  obtain ⟨ad, h0, h1, h2, h3, h4⟩ := h k _ (List.getElem?_eq_getElem hk)
  refine ⟨ad, h0, h2, h3, ?_⟩
  rw [← h4, ← Deep.add_add]; rfl

/-- What merge.Of's closure reads. -/
def OfRd (n₀ B : Nat) (A : Option Addr) (c : Nat) (ps : List Pr) (W : World) : Prop := B < n₀ ∧ W.cell? ⟨B, 0, none⟩ = some (.slice A ps.length c) ∧ PrsAt n₀ W A ps
theorem OfRd.below {n₀ B : Nat} {A : Option Addr} {c : Nat} {ps : List Pr} {W W' : World} (h : OfRd n₀ B A c ps W) (hb : Below n₀ W W') : OfRd n₀ B A c ps W' :=
  ⟨h.1, (hb.cell (p := ⟨B, 0, none⟩) h.1).trans h.2.1, h.2.2.below hb⟩
def encPr (p : Pr) : Array Value := #[.string p.1, .string p.2]

set_option maxRecDepth 100000 in
set_option maxHeartbeats 4000000 in
theorem of_seq (F : Fence) (n : Nat) (hF : F.fn 26) (hro : F.round = none) (hn : 1 ≤ n) (n₀ B : Nat) (A : Option Addr) (c : Nat) (ps : List Pr) (hreach : ps.length ≤ 100000) :
    SeqO F n Tryz.prog 26 #[.pointer (some ⟨B, 0, none⟩)] encPr n₀ (fun _ => False) ps (OfRd n₀ B A c ps) := fun l J Jx O W hW hRd _ hJ hJx hY h0 => by
  have hc0 := hRd.2.1
  refine callsIn_of_wp Tryz.func26 rfl hF ?_ hro
  simp only [Tryz.ntmps26, List.size_toArray, List.length_cons, List.length_nil, Nat.reduceAdd, Nat.reduceSub, Array.replicate_succ, Array.replicate_zero, List.push_toArray, List.append_toArray, List.nil_append, List.cons_append]
  gi_wp2
  gi_loopw [7] (fun i wr => ∃ (k : Nat) (O' : Nat → Prop), k ≤ ps.length ∧ i = .int .i64 k ∧ J O' (ps.take k) wr ∧ OfRd n₀ B A c ps wr ∧ n₀ ≤ wr.heap.size)
    (fun i _ => ps.length - (intOf i).toNat)
  case atStart => exact ⟨0, O, Nat.zero_le _, rfl, h0, hRd, hW⟩
  case round =>
    obtain ⟨k, O', hk, rfl, hJs, hR, hnw⟩ := hrel
    by_cases hlt : k < ps.length
    · obtain ⟨ad, rfl, hbl, hc1, hc2⟩ := hR.2.2.at_ hlt
      have hxs : ps = ps.take k ++ ps[k] :: ps.drop (k + 1) := by rw [← List.drop_eq_getElem_cons hlt, List.take_append_drop]
      have hJ2 := hJ _ _ wr _ hJs (off_of_below (below_one wr (.cells #[.string ps[k].1, .string ps[k].2] 36)))
      obtain ⟨fn, tmps, assign, body, hy, hRd2⟩ := hY _ _ _ _ _ hxs hJ2
      unfold encPr at hy
      have HXS := Lib.hid hxs
      clear hxs
      obtain ⟨x1, q1⟩ : ∃ x, x = ps[k].1 := ⟨_, rfl⟩
      obtain ⟨x2, q2⟩ : ∃ x, x = ps[k].2 := ⟨_, rfl⟩
      rw [← q1] at hc1 hJ2 hy hRd2
      rw [← q2] at hc2 hJ2 hy hRd2
      clear q1 q2
      have HJ2 := Lib.hid hJ2
      clear hJ2 hJs h0 hY
      gi_wp2
      refine hRd2.mono ?_
      rintro e W3 ⟨hk3, (⟨rfl, hJ3⟩ | ⟨rfl, hJx3⟩)⟩
      · have hR3 := (hR.below ((below_one wr (.cells #[.string x1, .string x2] 36)).mono hnw)).below hk3.below
        have hs3 := hk3.below.size
        rw [World.size_alloc] at hs3
        have htk : ps.take k ++ [ps[k]] = ps.take (k + 1) := by rw [List.take_add_one, List.getElem?_eq_getElem hlt]; rfl
        rw [htk] at hJ3
        gi_wp2
        go_roundw
        case rel => exact ⟨k + 1, _, by omega, by simp, hJ3, hR3, by omega⟩
        case measure => simp [intOf]; omega
      · gi_wp2
        refine bodyPost_ret (results_none rfl _ _ _) rfl ?_
        exact ⟨⟨_, rfl⟩, _, .inr ⟨_, _, _, HXS.out, hJx3⟩⟩
    · obtain rfl : k = ps.length := by omega
      gi_wp2
      go_end0
      exact ⟨⟨_, rfl⟩, O', .inl (by rw [List.take_length] at hJs; exact hJs)⟩

end Go.Proofs.YtaeiahkomdpcoaaGreatDoor.Seq
end

section
/- A version of an object: its pair; what name.Decode and cell.Decode answer of it. -/
namespace Go.Proofs.YtaeiahkomdpcoaaGreatDoor.Seq
open Go Go.RowKit

structure Ver where
  bk : ByteArray
  nm : ByteArray
  n : Nat
  tx : ByteArray
  gone : Bool
def Ver.key (v : Ver) : Name.Key := ⟨3, v.bk, v.nm, v.n, 0⟩
def Ver.cel (v : Ver) : Cell.Cel := ⟨3, 0, v.gone, ⟨#[]⟩, if v.gone then Cell.Body.zero else ⟨v.tx.size, v.tx, []⟩⟩
/-- What an item says of its length. -/
def Ver.len (v : Ver) : Int := if v.gone then 0 else (v.tx.size : Int)
structure Ver.Ok (v : Ver) : Prop where
  k : Name.mayB v.key = true
  n : v.n ≤ Name.top
  c : Cell.mayC v.cel
def prOf (v : Ver) : Pr := (Name.bs (Name.encL v.key), Num.bs (Cell.cellW v.cel))
def Ver.item (v : Ver) : Value := .agg #[.string v.nm, .int .u64 (v.n : Int), .int .i64 v.len, .bool v.gone]

theorem Ver.Ok.pr1 {v : Ver} (h : v.Ok) : (prOf v).1.size ≤ 4096 := by
  unfold prOf
  rw [Name.bs_size]
  exact Name.encL_small h.k
theorem cellW_len {c : Cell.Cel} (h : Cell.mayC c) : 1 ≤ (Cell.cellW c).length ∧ (Cell.cellW c).length ≤ 15000 := by
  obtain ⟨_, _, _, h4, h5⟩ := h
  have h6 := Cell.bodyW_len h5
  have h7 := Wire.numsW_len [c.kind]
  have h8 := Wire.numsW_len [c.n]
  have h9 := Wire.textsW_len [c.name.data.toList] 200 (by intro s hs; simp at hs; subst hs; simpa using h4)
  have h10 : ∀ b, (Wire.boolW b).length = 1 := fun _ => rfl
  simp only [List.length_singleton] at h7 h8 h9
  have h11 : 1 ≤ (Wire.numsW [c.kind]).length := by rw [Cell.numsW_one, Num.up_length]; omega
  unfold Cell.cellW
  rw [List.length_append]
  split
  · omega
  · split
    · omega
    · split
      · rw [List.length_append, h10]
        split
        · simp; omega
        · omega
      · omega
theorem Ver.Ok.pr2 {v : Ver} (h : v.Ok) : (prOf v).2.size ≤ 50000 := by
  unfold prOf
  rw [Num.bs_size]
  have := (cellW_len h.c).2
  omega

theorem nameDec {v : Ver} (h : v.Ok) (w : World) (hv : Name.Var0 w) : Calls Tryz.prog 30 #[.string (prOf v).1] w fun e w' => e = .returned (.tuple #[.agg #[.int .u8 3, .string v.bk, .string v.nm, .int .u64 (v.n : Int), .int .i64 0], .int .i64 0]) ∧ Below w.heap.size w w' := by
  refine (Name.decode_calls (prOf v).1 w hv h.pr1).mono ?_
  rintro e w' ⟨rfl, hb⟩
  refine ⟨?_, hb⟩
  rw [show (prOf v).1.data.toList = Name.encL v.key from rfl, Name.dec_enc h.k h.n]
  rfl

theorem cellDec {v : Ver} (h : v.Ok) (w : World) : Calls Tryz.prog 31 #[.string (prOf v).2] w fun e w' => (∃ A cp, e = .returned (.tuple #[.agg #[.int .u8 3, .int .u64 0, .bool v.gone, .string ⟨#[]⟩, .int .i64 v.len, .string v.cel.body.inl, .slice A 0 cp], .int .i64 0])) ∧ Below w.heap.size w w' := by
  refine (Cell.decode_calls (prOf v).2 w h.pr2).mono ?_
  rintro e w' ⟨c, A, cp, E, rfl, _, hc, hb⟩
  have h1 := Cell.cellR_back v.cel [] h.c
  rw [List.append_nil] at h1
  have hd : (prOf v).2.data.toList = Cell.cellW v.cel := rfl
  rw [hd] at hc
  rcases hc with ⟨_, rfl, rfl⟩ | ⟨hno, _⟩
  · refine ⟨⟨A, cp, ?_⟩, hb⟩
    rw [h1]
    unfold Ver.cel Ver.len Cell.cvs
    cases v.gone <;> rfl
  · refine absurd ?_ hno
    unfold Cell.decOk
    rw [h1]
    exact ⟨rfl, h.c, rfl⟩

end Go.Proofs.YtaeiahkomdpcoaaGreatDoor.Seq
end

section
/- The plain law of pages: which names and versions a page has, and that page after page makes the whole. No program in sight. -/
namespace Go.Proofs.YtaeiahkomdpcoaaGreatDoor.Page
open Go Go.Proofs.YtaeiahkomdpcoaaGreatDoor.Seq Go.Proofs.YtaeiahkomdpcoaaGreatDoor.Name

theorem cmpL_trans : ∀ a b c : Bs, cmpL a b < 0 → cmpL b c < 0 → cmpL a c < 0
  | [], [], _, h, _ => by simp [cmpL] at h
  | [], _ :: _, [], _, h => by simp [cmpL] at h
  | [], _ :: _, _ :: _, _, _ => by simp [cmpL]
  | _ :: _, [], _, h, _ => by simp [cmpL] at h
  | _ :: _, _ :: _, [], _, h => by simp [cmpL] at h
  | a :: l, b :: r, c :: t, h1, h2 => by
    have ih := cmpL_trans l r t
    rw [cmpL_cons] at h1 h2 ⊢
    simp only [UInt8.lt_iff_toNat_lt] at h1 h2 ⊢
    split at h1
    · split at h2
      · rw [if_pos (by omega)]; decide
      · split at h2
        · simp at h2
        · rw [if_pos (by omega)]; decide
    · split at h1
      · simp at h1
      · split at h2
        · rw [if_pos (by omega)]; decide
        · split at h2
          · simp at h2
          · rw [if_neg (by omega), if_neg (by omega)]; exact ih h1 h2

/-- The order of texts. -/
def lt (a b : ByteArray) : Bool := Op.bytesLess a.toList b.toList
theorem lt_cmp (a b : ByteArray) : lt a b = decide (cmpL a.data.toList b.data.toList < 0) := less_cmp a b
theorem lt_trans {a b c : ByteArray} (h1 : lt a b = true) (h2 : lt b c = true) : lt a c = true := by
  rw [lt_cmp, decide_eq_true_iff] at *
  exact cmpL_trans _ _ _ h1 h2
theorem lt_irr (a : ByteArray) : lt a a = false := by rw [lt_cmp, cmpL_self]; rfl
theorem lt_not {a b : ByteArray} (h : lt a b = true) : lt b a = false := by
  rw [lt_cmp, decide_eq_true_iff] at h
  rw [lt_cmp, cmpL_neg a.data.toList b.data.toList, decide_eq_false_iff_not]
  omega
theorem lt_tri {a b : ByteArray} (h : lt b a = false) : a = b ∨ lt a b = true := by
  rw [lt_cmp, decide_eq_false_iff_not, cmpL_neg a.data.toList b.data.toList] at h
  rw [lt_cmp, decide_eq_true_iff]
  rcases cmpL_range a.data.toList b.data.toList with h1 | h1 | h1
  · exact .inr (by omega)
  · exact .inl (ba_ext ((cmpL_zero _ _).1 h1))
  · omega
theorem lt_le {a b c : ByteArray} (h1 : lt b a = false) (h2 : lt b c = true) : lt a c = true := by
  rcases lt_tri h1 with rfl | h
  · exact h2
  · exact lt_trans h h2
theorem le_le {a b c : ByteArray} (h1 : lt b a = false) (h2 : lt c b = false) : lt c a = false := by
  rcases lt_tri h1 with rfl | h
  · exact h2
  · rcases lt_tri h2 with rfl | h'
    · exact h1
    · exact lt_not (lt_trans h h')
theorem lt_ne {a b : ByteArray} (h : lt a b = true) : a ≠ b := fun e => by rw [e, lt_irr] at h; cases h
def none' : ByteArray := ⟨#[]⟩
theorem lt_none {a : ByteArray} (h : a ≠ none') : lt none' a = true := by
  rcases lt_tri (a := none') (b := a) (by
    rw [lt_cmp, decide_eq_false_iff_not]
    show ¬ cmpL a.data.toList [] < 0
    cases a.data.toList <;> simp [cmpL]) with h1 | h1
  · exact absurd h1.symm h
  · exact h1

/-- Does a text begin with another one? -/
def pfx (p s : ByteArray) : Bool := p.data.toList.isPrefixOf s.data.toList
/-- A version that a page of names has, behind a version of name 'last'. -/
def okV (p a last : ByteArray) (v : Ver) : Bool := !(decide (v.nm = last)) && !v.gone && lt a v.nm && pfx p v.nm
def sel (p a : ByteArray) : ByteArray → List Ver → List Ver
  | _, [] => []
  | last, v :: vs => (if okV p a last v = true then [v] else []) ++ sel p a v.nm vs
def lastN : ByteArray → List Ver → ByteArray
  | last, [] => last
  | _, v :: vs => lastN v.nm vs
theorem lastN_app : ∀ (l : ByteArray) (xs ys : List Ver), lastN l (xs ++ ys) = lastN (lastN l xs) ys
  | _, [], _ => rfl
  | _, v :: vs, ys => lastN_app v.nm vs ys
theorem lastN_snoc (l : ByteArray) (xs : List Ver) (v : Ver) : lastN l (xs ++ [v]) = v.nm := by rw [lastN_app]; rfl
theorem sel_app (p a : ByteArray) : ∀ (l : ByteArray) (xs ys : List Ver), sel p a l (xs ++ ys) = sel p a l xs ++ sel p a (lastN l xs) ys
  | _, [], _ => rfl
  | l, v :: vs, ys => by
    show _ ++ sel p a v.nm (vs ++ ys) = (_ ++ sel p a v.nm vs) ++ _
    rw [sel_app p a v.nm vs ys, List.append_assoc]
    rfl
theorem sel_snoc (p a l : ByteArray) (xs : List Ver) (v : Ver) : sel p a l (xs ++ [v]) = sel p a l xs ++ (if okV p a (lastN l xs) v = true then [v] else []) := by
  rw [sel_app]
  show _ ++ ((if okV p a (lastN l xs) v = true then [v] else []) ++ []) = _
  rw [List.append_nil]
/-- A page of a row: its first so many; are there more? -/
def cutP (most : Nat) (l : List Ver) : List Ver × Bool := (l.take most, decide (most < l.length))
theorem sel_stop {p a l : ByteArray} {xs pre rest : List Ver} {x : Ver} {most : Nat} (h : xs = pre ++ x :: rest) (hl : (sel p a l pre).length = most) (ho : okV p a (lastN l pre) x = true) :
    cutP most (sel p a l xs) = (sel p a l pre, true) := by
  subst h
  have : sel p a l (pre ++ x :: rest) = sel p a l pre ++ x :: sel p a x.nm rest := by
    rw [sel_app]
    show _ ++ ((if okV p a (lastN l pre) x = true then [x] else []) ++ _) = _
    rw [if_pos ho]
    rfl
  unfold cutP
  rw [this, ← hl, List.take_left']
  · simp
  · rfl
theorem cut_all {most : Nat} {l : List Ver} (h : l.length ≤ most) : cutP most l = (l, false) := by
  unfold cutP
  rw [List.take_of_length_le h]
  simp; omega

/-- The versions of a name that a page has. -/
def selV (nm : ByteArray) (aft : Nat) (vs : List Ver) : List Ver := vs.filter fun v => decide (v.nm = nm) && (decide (aft = 0) || decide (v.n < aft))
theorem selV_snoc (nm : ByteArray) (aft : Nat) (xs : List Ver) (v : Ver) : selV nm aft (xs ++ [v]) = selV nm aft xs ++ (if (decide (v.nm = nm) && (decide (aft = 0) || decide (v.n < aft))) = true then [v] else []) := by
  unfold selV
  rw [List.filter_append, List.filter_cons, List.filter_nil]
theorem selV_stop {nm : ByteArray} {aft : Nat} {xs pre rest : List Ver} {x : Ver} {most : Nat} (h : xs = pre ++ x :: rest) (hl : (selV nm aft pre).length = most) (ho : (decide (x.nm = nm) && (decide (aft = 0) || decide (x.n < aft))) = true) :
    cutP most (selV nm aft xs) = (selV nm aft pre, true) := by
  subst h
  have : selV nm aft (pre ++ x :: rest) = selV nm aft pre ++ x :: selV nm aft rest := by
    unfold selV
    rw [List.filter_append, List.filter_cons, if_pos ho]
  unfold cutP
  rw [this, ← hl, List.take_left']
  · simp
  · rfl

theorem sel_mem {p a : ByteArray} {v : Ver} : ∀ {l : ByteArray} {vs : List Ver}, v ∈ sel p a l vs → v ∈ vs ∧ v.gone = false ∧ lt a v.nm = true
  | _, [], h => by simp [sel] at h
  | l, u :: us, h => by
    unfold sel at h
    rcases List.mem_append.1 h with h | h
    · split at h
      · rename_i ho
        rw [List.mem_singleton] at h
        subst h
        unfold okV at ho
        simp only [Bool.and_eq_true, Bool.not_eq_true'] at ho
        exact ⟨List.mem_cons_self, ho.1.1.2, ho.1.2⟩
      · simp at h
    · obtain ⟨h1, h2⟩ := sel_mem h
      exact ⟨List.mem_cons_of_mem _ h1, h2⟩
/-- In the order of names. -/
def Srt (vs : List Ver) : Prop := vs.Pairwise fun a b => lt b.nm a.nm = false
theorem sel_inc {p a : ByteArray} : ∀ {l : ByteArray} {vs : List Ver}, Srt vs → (∀ v ∈ vs, lt v.nm l = false) → (sel p a l vs).Pairwise (fun u v => lt u.nm v.nm = true) ∧ ∀ v ∈ sel p a l vs, lt l v.nm = true
  | _, [], _, _ => ⟨.nil, fun _ h => by simp [sel] at h⟩
  | l, u :: us, hs, hl => by
    obtain ⟨h1, h2⟩ := List.pairwise_cons.1 hs
    obtain ⟨i1, i2⟩ := sel_inc (p := p) (a := a) (l := u.nm) h2 h1
    have hu := hl u List.mem_cons_self
    have i3 : ∀ v ∈ sel p a u.nm us, lt l v.nm = true := fun v hv => lt_le hu (i2 v hv)
    unfold sel
    split
    · rename_i ho
      refine ⟨List.pairwise_cons.2 ⟨i2, i1⟩, fun v hv => ?_⟩
      rcases List.mem_cons.1 hv with rfl | hv
      · unfold okV at ho
        simp only [Bool.and_eq_true, Bool.not_eq_true', decide_eq_false_iff_not] at ho
        rcases lt_tri hu with h | h
        · exact absurd h.symm ho.1.1.1
        · exact h
      · exact i3 v hv
    · exact ⟨i1, i3⟩
theorem okV_after {p a l : ByteArray} {v : Ver} (h : v.nm ≠ none') : okV p a l v = (okV p none' l v && lt a v.nm) := by
  unfold okV
  rw [lt_none h]
  cases decide (v.nm = l) <;> cases v.gone <;> cases lt a v.nm <;> cases pfx p v.nm <;> rfl
theorem sel_after {p a : ByteArray} : ∀ {l : ByteArray} {vs : List Ver}, (∀ v ∈ vs, v.nm ≠ none') → sel p a l vs = (sel p none' l vs).filter fun v => lt a v.nm
  | _, [], _ => rfl
  | l, u :: us, h => by
    unfold sel
    rw [List.filter_append, ← sel_after (fun v hv => h v (List.mem_cons_of_mem _ hv)), okV_after (h u List.mem_cons_self)]
    cases okV p none' l u <;> cases hh : lt a u.nm <;> simp [hh]
theorem drop_inc : ∀ {S : List Ver} {j : Nat} {v : Ver}, S.Pairwise (fun u v => lt u.nm v.nm = true) → S[j]? = some v → S.filter (fun u => lt v.nm u.nm) = S.drop (j + 1)
  | [], _, _, _, h => by simp at h
  | u :: us, 0, v, hs, h => by
    obtain rfl : u = v := by simpa using h
    obtain ⟨h1, _⟩ := List.pairwise_cons.1 hs
    rw [List.filter_cons, if_neg (by simp [lt_irr]), List.filter_eq_self.2 h1]
    rfl
  | u :: us, j + 1, v, hs, h => by
    obtain ⟨h1, h2⟩ := List.pairwise_cons.1 hs
    have h' : us[j]? = some v := by simpa using h
    rw [List.filter_cons, if_neg (by simp [lt_not (h1 v (List.mem_of_getElem? h'))]), drop_inc h2 h']
    rfl
/-- The page behind the first j + 1 names of the whole. -/
theorem sel_next {p : ByteArray} {vs : List Ver} (hs : Srt vs) (hn : ∀ v ∈ vs, v.nm ≠ none') {j : Nat} {v : Ver} (h : (sel p none' none' vs)[j]? = some v) : sel p v.nm none' vs = (sel p none' none' vs).drop (j + 1) := by
  rw [sel_after hn, drop_inc (sel_inc hs fun v hv => lt_not (lt_none (hn v hv))).1 h]
theorem sel_first {p a : ByteArray} {v : Ver} : ∀ {l : ByteArray} {vs : List Ver}, Srt vs → (∀ v ∈ vs, lt v.nm l = false) → v ∈ sel p a l vs → ∃ r, vs.filter (fun u => decide (u.nm = v.nm)) = v :: r
  | _, [], _, _, h => by simp [sel] at h
  | l, u :: us, hs, hl, h => by
    obtain ⟨h1, h2⟩ := List.pairwise_cons.1 hs
    have hi := (sel_inc (p := p) (a := a) (l := u.nm) h2 h1).2
    unfold sel at h
    rcases List.mem_append.1 h with h | h
    · split at h
      · rw [List.mem_singleton] at h
        subst h
        exact ⟨_, by rw [List.filter_cons, if_pos (by simp)]⟩
      · simp at h
    · have hv := hi v h
      obtain ⟨r, hr⟩ := sel_first h2 h1 h
      exact ⟨r, by rw [List.filter_cons, if_neg (by simpa using lt_ne hv), hr]⟩
/-- The newest version of a name that a page has is the one that stands first among that name's. -/
theorem selV_first {p : ByteArray} {vs : List Ver} (hs : Srt vs) (hn : ∀ v ∈ vs, v.nm ≠ none') {v : Ver} (h : v ∈ sel p none' none' vs) : (cutP 1 (selV v.nm 0 vs)).1 = [v] := by
  obtain ⟨r, hr⟩ := sel_first hs (fun v hv => lt_not (lt_none (hn v hv))) h
  unfold cutP selV
  rw [show (fun u : Ver => decide (u.nm = v.nm) && (decide (0 = 0) || decide (u.n < 0))) = fun u => decide (u.nm = v.nm) from funext fun u => by simp, hr]
  rfl

end Go.Proofs.YtaeiahkomdpcoaaGreatDoor.Page
end
