/- Keys' bytes: plain Lean, no program in sight. -/
namespace Go.Proofs.YtaeiahkomdpcoaaDoor.Name

abbrev Bs := List UInt8
structure Key where
  kind : Nat
  bucket : ByteArray
  name : ByteArray
  n : Nat
  part : Int

def wordB (c : Nat) : Bool := decide (97 ≤ c ∧ c ≤ 122) || decide (48 ≤ c ∧ c ≤ 57)
/-- The bytes that a bucket's name may have. -/
def okCs : Bs := [97, 98, 99, 100, 101, 102, 103, 104, 105, 106, 107, 108, 109, 110, 111, 112, 113, 114, 115, 116, 117, 118, 119, 120, 121, 122, 48, 49, 50, 51, 52, 53, 54, 55, 56, 57, 45, 46]
def bucketL (l : Bs) : Bool := decide (1 ≤ l.length ∧ l.length ≤ 63) && wordB (l.getD 0 0).toNat && wordB (l.getD (l.length - 1) 0).toNat && l.all (okCs.contains ·)
def objectL (l : Bs) : Bool := decide (1 ≤ l.length ∧ l.length ≤ 200)
def hasB (k : Nat) : Bool := decide (2 ≤ k ∧ k ≤ 5)
def hasN (k : Nat) : Bool := decide (3 ≤ k ∧ k ≤ 6)
def mayB (k : Key) : Bool :=
  decide (1 ≤ k.kind ∧ k.kind ≤ 6) && (if hasB k.kind then bucketL k.bucket.data.toList else decide (k.bucket = ⟨#[]⟩)) && (if k.kind = 3 then objectL k.name.data.toList else decide (k.name = ⟨#[]⟩)) &&
    (hasN k.kind || decide (k.n = 0)) && (if k.kind = 5 then decide (1 ≤ k.part ∧ k.part ≤ 1000) else decide (k.part = 0))

def esc : Bs → Bs
  | [] => []
  | c :: l => if c = 0 then 0 :: 255 :: esc l else c :: esc l
/-- A number in so many bytes, the highest first. -/
def be : Nat → Nat → Bs
  | 0, _ => []
  | k + 1, n => be k (n / 256) ++ [UInt8.ofNat (n % 256)]
def top : Nat := 18446744073709551615
def encL (k : Key) : Bs :=
  UInt8.ofNat k.kind :: ((if hasB k.kind then k.bucket.data.toList ++ [0] else []) ++ ((if k.kind = 3 then esc k.name.data.toList ++ [0, 1] ++ be 8 (top - k.n) else if hasN k.kind then be 8 k.n else []) ++ (if k.kind = 5 then be 2 k.part.toNat else [])))

theorem be_length (k n : Nat) : (be k n).length = k := by
  induction k generalizing n with
  | zero => rfl
  | succ k ih => simp [be, ih]
theorem be_inj (k : Nat) : ∀ a b, a < 256 ^ k → b < 256 ^ k → be k a = be k b → a = b := by
  induction k with
  | zero => intro a b ha hb _; simp at ha hb; omega
  | succ k ih =>
    intro a b ha hb h
    simp only [be] at h
    obtain ⟨h1, h2⟩ := List.append_inj h (by rw [be_length, be_length])
    rw [Nat.pow_succ] at ha hb
    have h3 := ih (a / 256) (b / 256) (by omega) (by omega) h1
    have h4 : a % 256 = b % 256 := by
      have h5 : UInt8.ofNat (a % 256) = UInt8.ofNat (b % 256) := by simpa using h2
      have h6 := congrArg UInt8.toNat h5
      simp [UInt8.toNat_ofNat'] at h6
      omega
    omega
theorem pre_same {a b r s : Bs} (hl : a.length = b.length) (h : a ++ r <+: b ++ s) : a = b ∧ r <+: s := by
  obtain ⟨t, ht⟩ := h
  rw [List.append_assoc] at ht
  obtain ⟨h1, h2⟩ := List.append_inj ht hl
  exact ⟨h1, ⟨t, h2⟩⟩
theorem pre_cons {c d : UInt8} {r s : Bs} (h : c :: r <+: d :: s) : c = d ∧ r <+: s := by
  obtain ⟨t, ht⟩ := h
  simp at ht
  exact ⟨ht.1, ⟨t, ht.2⟩⟩
theorem pre_bucket : ∀ {x y r s : Bs}, (∀ c ∈ x, c ≠ 0) → (∀ c ∈ y, c ≠ 0) → x ++ 0 :: r <+: y ++ 0 :: s → x = y ∧ r <+: s
  | [], [], _, _, _, _, h => ⟨rfl, (pre_cons h).2⟩
  | [], d :: y, _, _, _, hy, h => absurd (pre_cons h).1.symm (hy d (by simp))
  | c :: x, [], _, _, hx, _, h => absurd (pre_cons h).1 (hx c (by simp))
  | c :: x, d :: y, _, _, hx, hy, h => by
    obtain ⟨rfl, h2⟩ := pre_cons h
    obtain ⟨rfl, h3⟩ := pre_bucket (fun e he => hx e (List.mem_cons_of_mem _ he)) (fun e he => hy e (List.mem_cons_of_mem _ he)) h2
    exact ⟨rfl, h3⟩
theorem pre_esc : ∀ {x y r s : Bs}, esc x ++ 0 :: 1 :: r <+: esc y ++ 0 :: 1 :: s → x = y ∧ r <+: s
  | [], [], _, _, h => ⟨rfl, (pre_cons (pre_cons h).2).2⟩
  | [], d :: y, _, _, h => by
    unfold esc at h
    split at h
    · exact absurd (pre_cons (pre_cons h).2).1 (by decide)
    · rename_i hd; exact absurd (pre_cons h).1.symm hd
  | c :: x, [], _, _, h => by
    unfold esc at h
    split at h
    · exact absurd (pre_cons (pre_cons h).2).1 (by decide)
    · rename_i hc; exact absurd (pre_cons h).1 hc
  | c :: x, d :: y, _, _, h => by
    unfold esc at h
    split at h
    · rename_i hc
      split at h
      · rename_i hd
        obtain ⟨rfl, h3⟩ := pre_esc (pre_cons (pre_cons h).2).2
        exact ⟨by rw [hc, hd], h3⟩
      · rename_i hd; exact absurd (pre_cons h).1.symm hd
    · rename_i hc
      split at h
      · exact absurd (pre_cons h).1 hc
      · obtain ⟨rfl, h2⟩ := pre_cons h
        obtain ⟨rfl, h3⟩ := pre_esc h2
        exact ⟨rfl, h3⟩

theorem okCs_nz : ∀ c ∈ okCs, c ≠ 0 := by decide
theorem bucket_nz {l : Bs} (h : bucketL l = true) : ∀ c ∈ l, c ≠ 0 := fun c hc => by
  unfold bucketL at h
  simp only [Bool.and_eq_true] at h
  have := List.all_eq_true.1 h.2 c hc
  exact okCs_nz c (by simpa using this)

/-- What holds of a key that may be. -/
theorem may_facts {k : Key} (h : mayB k = true) : (1 ≤ k.kind ∧ k.kind ≤ 6) ∧ (hasB k.kind = true → bucketL k.bucket.data.toList = true) ∧ (hasB k.kind = false → k.bucket = ⟨#[]⟩) ∧ (k.kind = 3 → objectL k.name.data.toList = true) ∧ (k.kind ≠ 3 → k.name = ⟨#[]⟩) ∧
    (hasN k.kind = false → k.n = 0) ∧ (k.kind = 5 → 1 ≤ k.part ∧ k.part ≤ 1000) ∧ (k.kind ≠ 5 → k.part = 0) := by
  unfold mayB at h
  simp only [Bool.and_eq_true, decide_eq_true_eq, Bool.or_eq_true] at h
  obtain ⟨⟨⟨⟨h1, h2⟩, h3⟩, h4⟩, h5⟩ := h
  refine ⟨h1, fun e => ?_, fun e => ?_, fun e => ?_, fun e => ?_, fun e => ?_, fun e => ?_, fun e => ?_⟩
  · rw [if_pos e] at h2; exact h2
  · rw [if_neg (by simp [e])] at h2; simpa using h2
  · rw [if_pos e] at h3; exact h3
  · rw [if_neg e] at h3; simpa using h3
  · rcases h4 with h4 | h4
    · rw [e] at h4; cases h4
    · exact h4
  · rw [if_pos e] at h5; simpa using h5
  · rw [if_neg e] at h5; simpa using h5

theorem ba_ext {a b : ByteArray} (h : a.data.toList = b.data.toList) : a = b := ByteArray.ext (Array.toList_inj.1 h)

/-- No key's bytes are the beginning of another one's. -/
theorem enc_apart {a b : Key} (ha : mayB a = true) (hb : mayB b = true) (na : a.n ≤ top) (nb : b.n ≤ top) (h : encL a <+: encL b) : a = b := by
  obtain ⟨ka, a1, a2, _, a4, a5, a6, a7⟩ := may_facts ha
  obtain ⟨kb, b1, b2, _, b4, b5, b6, b7⟩ := may_facts hb
  obtain ⟨ak, ab, an, ann, ap⟩ := a
  obtain ⟨bk, bb, bn, bnn, bp⟩ := b
  simp only at *
  unfold encL at h
  obtain ⟨h0, h⟩ := pre_cons h
  have hk : ak = bk := by
    have := congrArg UInt8.toNat h0
    simp only [UInt8.toNat_ofNat'] at this
    omega
  subst hk
  simp only at h
  have e8 : (256 : Nat) ^ 8 = 18446744073709551616 := by decide
  have e2 : (256 : Nat) ^ 2 = 65536 := by decide
  have hB : ab = bb ∧ ((if ak = 3 then esc an.data.toList ++ [0, 1] ++ be 8 (top - ann) else if hasN ak then be 8 ann else []) ++ (if ak = 5 then be 2 ap.toNat else [])) <+: ((if ak = 3 then esc bn.data.toList ++ [0, 1] ++ be 8 (top - bnn) else if hasN ak then be 8 bnn else []) ++ (if ak = 5 then be 2 bp.toNat else [])) := by
    cases hh : hasB ak
    · rw [hh] at h a2 b2
      rw [a2 rfl, b2 rfl]
      exact ⟨rfl, by simpa using h⟩
    · rw [hh] at h a1 b1
      simp only [if_true, List.append_assoc, List.singleton_append] at h
      obtain ⟨h1, h2⟩ := pre_bucket (bucket_nz (a1 rfl)) (bucket_nz (b1 rfl)) h
      exact ⟨ba_ext h1, by simpa using h2⟩
  obtain ⟨eB, g⟩ := hB
  clear h h0 ha hb
  subst eB
  by_cases h3 : ak = 3
  · subst h3
    simp only [if_true, List.append_assoc, List.cons_append, List.nil_append] at g
    obtain ⟨h1, h2⟩ := pre_esc g
    obtain ⟨h3, _⟩ := pre_same (by rw [be_length, be_length]) h2
    have h4 := be_inj 8 _ _ (by unfold top; omega) (by unfold top; omega) h3
    have : ann = bnn := by unfold top at h4 na nb; omega
    rw [ba_ext h1, this, a7 (by decide), b7 (by decide)]
  · rw [if_neg h3, if_neg h3] at g
    rw [a4 h3, b4 h3]
    have hN : ann = bnn ∧ (if ak = 5 then be 2 ap.toNat else []) <+: (if ak = 5 then be 2 bp.toNat else []) := by
      cases hh : hasN ak
      · rw [hh] at g a5 b5
        rw [a5 rfl, b5 rfl]
        exact ⟨rfl, by simpa using g⟩
      · rw [hh] at g
        simp only [if_true] at g
        obtain ⟨h1, h2⟩ := pre_same (by rw [be_length, be_length]) g
        exact ⟨be_inj 8 _ _ (by unfold top at na; omega) (by unfold top at nb; omega) h1, h2⟩
    obtain ⟨eN, g2⟩ := hN
    clear g
    subst eN
    by_cases h5 : ak = 5
    · rw [if_pos h5, if_pos h5] at g2
      have h6 : be 2 ap.toNat ++ [] <+: be 2 bp.toNat ++ [] := by simpa using g2
      obtain ⟨h1, _⟩ := pre_same (by rw [be_length, be_length]) h6
      have h7 := a6 h5
      have h8 := b6 h5
      have h9 := be_inj 2 _ _ (by omega) (by omega) h1
      have : ap = bp := by omega
      rw [this]
    · rw [a7 h5, b7 h5]

end Go.Proofs.YtaeiahkomdpcoaaDoor.Name
