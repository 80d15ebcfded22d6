/- What the document's answer reads of bytes: plain Lean, no program in sight. -/
import Derived.Test.YtaeiahkomdpcoaaDoorNameOrdP
namespace Go.Proofs.YtaeiahkomdpcoaaDoor.Name
open Go.RowKit Go.Shelf

def z0 (r : Bs) : Nat := (r.takeWhile (fun c => c != 0)).length
def nm : Bs → Bs × Bs
  | [] => ([], [])
  | [_] => ([], [])
  | c :: d :: r => if c ≠ 0 then (c :: (nm (d :: r)).1, (nm (d :: r)).2) else if d = 255 then (0 :: (nm r).1, (nm r).2) else ([], r)
def o1 (c : Nat) (r : Bs) : Dec := if hasB c then ⟨{ K0 c with bucket := bs (r.take (z0 r)) }, r.drop (z0 r + 1), decide (z0 r < r.length)⟩ else ⟨K0 c, r, true⟩
def o2 (d : Dec) : Dec := if d.key.kind = 3 then ⟨{ d.key with name := bs (nm d.rest).1 }, (nm d.rest).2, d.is⟩ else d
def o3 (d : Dec) : Dec := if hasN d.key.kind then ⟨{ d.key with n := if d.key.kind = 3 then top - val (d.rest.take 8) else val (d.rest.take 8) }, d.rest.drop 8, d.is && decide (8 ≤ d.rest.length)⟩ else d
def o4 (d : Dec) : Dec := if d.key.kind = 5 ∧ d.rest.length = 2 then ⟨{ d.key with part := (val d.rest : Int) }, d.rest, d.is⟩ else d
def ofD (s : Bs) : Dec := o4 (o3 (o2 (o1 (s.getD 0 0).toNat (s.drop 1))))
def ofR (s : Bs) : Value := if s ≠ [] ∧ (ofD s).is = true ∧ mayB (ofD s).key = true ∧ encL (ofD s).key = s then .tuple #[(ofD s).key.val, .bool true] else .tuple #[zeroK.val, .bool false]

theorem z0_le (r : Bs) : z0 r ≤ r.length := (List.takeWhile_prefix _).length_le
theorem z0_lt : ∀ (r : Bs) (k : Nat) (_ : k < z0 r) (h : k < r.length), r[k] ≠ 0
  | [], _, _, h => absurd h (by simp)
  | c :: r, 0, hk, _ => by
    unfold z0 at hk
    rw [List.takeWhile_cons] at hk
    split at hk
    · rename_i hc; simpa using hc
    · simp at hk
  | c :: r, k + 1, hk, h => by
    unfold z0 at hk
    rw [List.takeWhile_cons] at hk
    split at hk
    · simp only [List.length_cons] at hk
      have := z0_lt r k (by unfold z0; omega) (by simpa using h)
      simpa using this
    · simp at hk
theorem z0_at : ∀ (r : Bs) (h : z0 r < r.length), r[z0 r] = 0
  | [], h => absurd h (by simp)
  | c :: r, h => by
    by_cases hc : c = 0
    · have e : z0 (c :: r) = 0 := by unfold z0; rw [List.takeWhile_cons, if_neg (by simp [hc])]; rfl
      simp only [e, List.getElem_cons_zero]; exact hc
    · have e : z0 (c :: r) = z0 r + 1 := by unfold z0; rw [List.takeWhile_cons, if_pos (by simp [hc])]; rfl
      simp only [e, List.getElem_cons_succ]
      exact z0_at r (by rw [e] at h; simpa using h)
theorem z0_cat : ∀ (x r : Bs), (∀ c ∈ x, c ≠ 0) → z0 (x ++ 0 :: r) = x.length
  | [], r, _ => by unfold z0; rw [List.nil_append, List.takeWhile_cons, if_neg (by simp)]
  | c :: x, r, h => by
    have hc := h c (by simp)
    have ih := z0_cat x r (fun d hd => h d (List.mem_cons_of_mem _ hd))
    unfold z0 at ih ⊢
    rw [List.cons_append, List.takeWhile_cons, if_pos (by simp [hc]), List.length_cons, ih, List.length_cons]

theorem nm_len : ∀ r : Bs, (nm r).1.length ≤ r.length ∧ (nm r).2.length ≤ r.length
  | [] => by simp [nm]
  | [_] => by simp [nm]
  | c :: d :: r => by
    have h1 := nm_len (d :: r)
    have h2 := nm_len r
    unfold nm
    simp only [List.length_cons] at h1 ⊢
    split
    · simp only [List.length_cons]; omega
    · split
      · simp only [List.length_cons]; omega
      · simp only [List.length_nil]; omega
theorem nm_esc : ∀ (x r : Bs), nm (esc x ++ 0 :: 1 :: r) = (x, r)
  | [], r => by simp [esc, nm]
  | c :: x, r => by
    have ih := nm_esc x r
    rw [esc_one]
    by_cases hc : c = 0
    · rw [if_pos hc, hc, List.cons_append, List.cons_append, nm, if_neg (by simp), if_pos rfl, ih]
    · rw [if_neg hc]
      cases hx : esc x ++ 0 :: 1 :: r with
      | nil => simp at hx
      | cons d m => rw [List.cons_append, hx, nm, if_pos hc, ← hx, ih]
theorem nm_step (s : Bs) (k : Nat) (h : k + 1 < s.length) : nm (s.drop k) = if s[k] ≠ 0 then (s[k] :: (nm (s.drop (k + 1))).1, (nm (s.drop (k + 1))).2) else if s[k + 1] = 255 then (0 :: (nm (s.drop (k + 2))).1, (nm (s.drop (k + 2))).2) else ([], s.drop (k + 2)) := by
  rw [List.drop_eq_getElem_cons (show k < s.length by omega), List.drop_eq_getElem_cons h, nm]
theorem nm_end (s : Bs) (k : Nat) (h : s.length ≤ k + 1) : nm (s.drop k) = ([], []) := by
  rcases Nat.lt_or_ge k s.length with h1 | h1
  · rw [List.drop_eq_getElem_cons h1, List.drop_eq_nil_of_le (by omega)]; rfl
  · rw [List.drop_eq_nil_of_le h1]; rfl

theorem of_enc {k : Key} (h : mayB k = true) (hn : k.n ≤ top) : (ofD (encL k)).key = k ∧ (ofD (encL k)).is = true := by
  obtain ⟨kk, a1, a2, a3, a4, a5, a6, a7⟩ := may_facts h
  obtain ⟨r1, hr1⟩ : ∃ r, r = (if k.kind = 5 then be 2 k.part.toNat else []) := ⟨_, rfl⟩
  obtain ⟨r2, hr2⟩ : ∃ r, r = (if k.kind = 3 then esc k.name.data.toList ++ [0, 1] ++ be 8 (top - k.n) else if hasN k.kind then be 8 k.n else []) ++ r1 := ⟨_, rfl⟩
  obtain ⟨r3, hr3⟩ : ∃ r, r = (if hasB k.kind then k.bucket.data.toList ++ [0] else []) ++ r2 := ⟨_, rfl⟩
  have hE : encL k = UInt8.ofNat k.kind :: r3 := by rw [hr3, hr2, hr1]; rfl
  have e8 : (256 : Nat) ^ 8 = 18446744073709551616 := by decide
  have e2 : (256 : Nat) ^ 2 = 65536 := by decide
  have hc : ((encL k).getD 0 0).toNat = k.kind := by
    rw [hE]
    show (UInt8.ofNat k.kind).toNat = _
    rw [UInt8.toNat_ofNat', Nat.mod_eq_of_lt (by omega)]
  have hd1 : o1 k.kind r3 = ⟨⟨k.kind, k.bucket, ⟨#[]⟩, 0, 0⟩, r2, true⟩ := by
    unfold o1
    rw [hr3]
    cases hh : hasB k.kind
    · rw [a2 hh]; rfl
    · rw [if_pos rfl, if_pos rfl, List.append_assoc, List.singleton_append, z0_cat _ _ (bucket_nz (a1 hh)), List.take_left' rfl, bs_data]
      rw [show k.bucket.data.toList ++ 0 :: r2 = (k.bucket.data.toList ++ [0]) ++ r2 by simp, List.drop_left' (by simp)]
      rw [decide_eq_true (by simp)]
      rfl
  obtain ⟨r2', hr2'⟩ : ∃ r, r = (if k.kind = 3 then be 8 (top - k.n) else if hasN k.kind then be 8 k.n else []) ++ r1 := ⟨_, rfl⟩
  have hd2 : o2 ⟨⟨k.kind, k.bucket, ⟨#[]⟩, 0, 0⟩, r2, true⟩ = ⟨⟨k.kind, k.bucket, k.name, 0, 0⟩, r2', true⟩ := by
    unfold o2
    rw [hr2, hr2']
    by_cases h3 : k.kind = 3
    · simp only [h3, if_true]
      rw [List.append_assoc, List.append_assoc]
      rw [show esc k.name.data.toList ++ ([0, 1] ++ (be 8 (top - k.n) ++ r1)) = esc k.name.data.toList ++ 0 :: 1 :: (be 8 (top - k.n) ++ r1) from rfl, nm_esc]
      simp only [bs_data]
    · rw [if_neg h3, if_neg h3, if_neg h3, a4 h3]
  have hd3 : o3 ⟨⟨k.kind, k.bucket, k.name, 0, 0⟩, r2', true⟩ = ⟨⟨k.kind, k.bucket, k.name, k.n, 0⟩, r1, true⟩ := by
    unfold o3
    simp only
    cases hh : hasN k.kind
    · have h3 : k.kind ≠ 3 := fun e => by rw [e] at hh; cases hh
      rw [if_neg (by simp), a5 hh, hr2', hh, if_neg h3, if_neg (by simp)]; rfl
    · obtain ⟨N, hN⟩ : ∃ N, N = if k.kind = 3 then top - k.n else k.n := ⟨_, rfl⟩
      have hr : r2' = be 8 N ++ r1 := by
        rw [hr2', hN, hh]
        by_cases h3 : k.kind = 3
        · rw [if_pos h3, if_pos h3]
        · rw [if_neg h3, if_neg h3, if_pos rfl]
      have hNt : N ≤ top := by rw [hN]; split <;> omega
      have hl : (be 8 N).length = 8 := be_length 8 N
      rw [hr, if_pos rfl, List.take_left' hl, List.drop_left' hl, val_be 8 N (by unfold top at hNt; omega), hN]
      have hle : decide (8 ≤ (be 8 (if k.kind = 3 then top - k.n else k.n) ++ r1).length) = true := by rw [decide_eq_true_iff, List.length_append, be_length]; omega
      rw [hle]
      by_cases h3 : k.kind = 3
      · rw [if_pos h3, if_pos h3, show top - (top - k.n) = k.n by omega]; rfl
      · rw [if_neg h3, if_neg h3]; rfl
  have hd4 : o4 ⟨⟨k.kind, k.bucket, k.name, k.n, 0⟩, r1, true⟩ = ⟨k, r1, true⟩ := by
    unfold o4
    simp only
    by_cases h5 : k.kind = 5
    · have hl : r1.length = 2 := by rw [hr1, if_pos h5, be_length]
      have := a6 h5
      rw [if_pos ⟨h5, hl⟩, hr1, if_pos h5, val_be 2 _ (by omega), Int.toNat_of_nonneg (by omega)]
    · rw [if_neg (fun h => h5 h.1), ← a7 h5]
  have hD : ofD (encL k) = ⟨k, r1, true⟩ := by
    unfold ofD
    rw [hc, hE, List.drop_one, List.tail_cons, hd1, hd2, hd3, hd4]
  rw [hD]
  exact ⟨rfl, rfl⟩

theorem val8_le (r : Bs) : val (r.take 8) ≤ top := by
  have e8 : (256 : Nat) ^ 8 = 18446744073709551616 := by decide
  have h1 := val_lt (r.take 8)
  have h2 : (r.take 8).length ≤ 8 := by rw [List.length_take]; omega
  have h3 : 256 ^ (r.take 8).length ≤ 256 ^ 8 := Nat.pow_le_pow_right (by omega) h2
  unfold top; omega
theorem ofD_n (s : Bs) : (ofD s).key.n ≤ top := by
  unfold ofD
  have h1 : (o1 (s.getD 0 0).toNat (s.drop 1)).key.n ≤ top := by unfold o1; split <;> exact Nat.zero_le _
  have h2 : ∀ d : Dec, d.key.n ≤ top → (o2 d).key.n ≤ top := fun d h => by unfold o2; split <;> exact h
  have h3 : ∀ d : Dec, d.key.n ≤ top → (o3 d).key.n ≤ top := fun d h => by
    unfold o3; split
    · show (if _ then _ else _) ≤ top
      split
      · exact Nat.sub_le _ _
      · exact val8_le _
    · exact h
  have h4 : ∀ d : Dec, d.key.n ≤ top → (o4 d).key.n ≤ top := fun d h => by unfold o4; split <;> exact h
  exact h4 _ (h3 _ (h2 _ h1))
theorem decD_n (s : Bs) : (decD s).key.n ≤ top := by
  unfold decD
  have h1 : (dec1 (s.getD 0 0).toNat (s.drop 1)).key.n ≤ top := by unfold dec1; split <;> exact Nat.zero_le _
  have h2 : ∀ d : Dec, d.key.n ≤ top → (dec2 d).key.n ≤ top := fun d h => by
    unfold dec2; split
    · split <;> exact h
    · exact h
  have h3 : ∀ d : Dec, d.key.n ≤ top → (dec3 d).key.n ≤ top := fun d h => by
    unfold dec3; split
    · show (if _ then _ else _) ≤ top
      split
      · exact Nat.sub_le _ _
      · exact val8_le _
    · exact h
  have h4 : ∀ d : Dec, d.key.n ≤ top → (dec4 d).key.n ≤ top := fun d h => by unfold dec4; split <;> exact h
  exact h4 _ (h3 _ (h2 _ h1))
theorem enc_ne (k : Key) : encL k ≠ [] := by unfold encL; simp

/-- Both read the same of any bytes. -/
theorem of_dec (s : Bs) : (∃ k : Key, mayB k = true ∧ k.n ≤ top ∧ encL k = s ∧ decR s = .tuple #[k.val, .int .i64 0] ∧ ofR s = .tuple #[k.val, .bool true]) ∨
    (decR s = .tuple #[zeroK.val, .int .i64 8] ∧ ofR s = .tuple #[zeroK.val, .bool false]) := by
  by_cases h : ∃ k : Key, mayB k = true ∧ k.n ≤ top ∧ encL k = s
  · obtain ⟨k, h1, h2, rfl⟩ := h
    obtain ⟨g1, g2⟩ := of_enc h1 h2
    refine .inl ⟨k, h1, h2, rfl, dec_enc h1 h2, ?_⟩
    unfold ofR
    rw [if_pos ⟨enc_ne k, g2, by rw [g1]; exact h1, by rw [g1]⟩, g1]
  · refine .inr ⟨?_, ?_⟩
    · unfold decR
      rw [if_neg (fun g => h ⟨_, g.2.2.1, decD_n s, g.2.2.2⟩)]
    · unfold ofR
      rw [if_neg (fun g => h ⟨_, g.2.2.1, ofD_n s, g.2.2.2⟩)]

end Go.Proofs.YtaeiahkomdpcoaaDoor.Name
