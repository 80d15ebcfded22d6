/- Numbers as bytes, in plain Lean: the bytes of a number, reading them back, their order. No program in sight. -/
namespace Go.Proofs.Ytaeiahkomdpcoaa.Num

/-- The bytes of x, the least first, as many as there are, eight at most. -/
def lsb : Nat → Nat → List UInt8
  | 0, _ => []
  | f + 1, x => if x = 0 then [] else UInt8.ofNat (x % 256) :: lsb f (x / 256)

def digs (x : Nat) : List UInt8 := (lsb 8 x).reverse
def up (x : Nat) : List UInt8 := UInt8.ofNat (digs x).length :: digs x
def turn (l : List UInt8) : List UInt8 := l.map fun c => 255 - c
def down (x : Nat) : List UInt8 := turn (up x)
def val (l : List UInt8) : Nat := l.foldl (fun a c => a * 256 + c.toNat) 0
/-- What stands at the front of bytes: the number, how many bytes, the error's number. -/
def read : List UInt8 → Nat × Nat × Nat
  | [] => (0, 0, 10)
  | c :: r => if 8 < c.toNat then (0, 0, 8) else if r.length < c.toNat then (0, 0, 10) else if 0 < c.toNat ∧ r.head? = some 0 then (0, 0, 8) else (val (r.take c.toNat), c.toNat + 1, 0)
def readDown (l : List UInt8) : Nat × Nat × Nat := read (turn (l.take 9))

theorem lsb_length_le (f x : Nat) : (lsb f x).length ≤ f := by
  induction f generalizing x with
  | zero => simp [lsb]
  | succ f ih =>
    unfold lsb
    split
    · simp
    · simp only [List.length_cons]; have := ih (x / 256); omega

theorem digs_length_le (x : Nat) : (digs x).length ≤ 8 := by unfold digs; rw [List.length_reverse]; exact lsb_length_le 8 x
theorem up_length (x : Nat) : (up x).length = (digs x).length + 1 := by simp [up]
theorem up_length_le (x : Nat) : (up x).length ≤ 9 := by rw [up_length]; have := digs_length_le x; omega
theorem turn_length (l : List UInt8) : (turn l).length = l.length := by simp [turn]
theorem turn_turn (l : List UInt8) : turn (turn l) = l := by
  unfold turn
  rw [List.map_map]
  conv => rhs; rw [← List.map_id l]
  apply List.map_congr_left
  intro c _
  simp only [Function.comp, id]
  apply UInt8.toNat_inj.1
  have := c.toNat_lt
  rw [UInt8.toNat_sub_of_le _ _ (by rw [UInt8.le_iff_toNat_le, UInt8.toNat_sub_of_le _ _ (by rw [UInt8.le_iff_toNat_le]; show c.toNat ≤ 255; omega)]; show 255 - c.toNat ≤ 255; omega)]
  rw [UInt8.toNat_sub_of_le _ _ (by rw [UInt8.le_iff_toNat_le]; show c.toNat ≤ 255; omega)]
  show 255 - (255 - c.toNat) = c.toNat
  omega

/-- k rounds over the bytes, the least first. -/
def low (k x : Nat) : List UInt8 := (List.range k).map fun i => UInt8.ofNat (x / 256 ^ i % 256)
theorem low_length (k x : Nat) : (low k x).length = k := by simp [low]
theorem low_succ (k x : Nat) : low (k + 1) x = low k x ++ [UInt8.ofNat (x / 256 ^ k % 256)] := by
  simp [low, List.range_succ]
theorem low_cons (k x : Nat) : low (k + 1) x = UInt8.ofNat (x % 256) :: low k (x / 256) := by
  unfold low
  rw [List.range_succ_eq_map, List.map_cons, List.map_map]
  simp only [Nat.pow_zero, Nat.div_one, List.cons.injEq, true_and]
  apply List.map_congr_left
  intro i _
  simp only [Function.comp, Nat.pow_succ]
  rw [Nat.mul_comm, Nat.div_div_eq_div_mul]
/-- Where the loop ends: the bytes taken are the number's own. -/
theorem low_eq_lsb (f k x : Nat) (hk : k ≤ f) (hz : x / 256 ^ k = 0) (hp : ∀ i, i < k → x / 256 ^ i ≠ 0) : low k x = lsb f x := by
  induction k generalizing f x with
  | zero =>
    have hx : x = 0 := by simpa using hz
    subst hx
    cases f <;> simp [low, lsb]
  | succ k ih =>
    obtain ⟨f, rfl⟩ : ∃ g, f = g + 1 := ⟨f - 1, by omega⟩
    have h0 : x ≠ 0 := by have := hp 0 (by omega); simpa using this
    rw [low_cons, lsb, if_neg h0, ih f (x / 256) (by omega) (by rw [Nat.div_div_eq_div_mul, ← Nat.pow_succ']; exact hz) (fun i hi => by rw [Nat.div_div_eq_div_mul, ← Nat.pow_succ']; exact hp (i + 1) (by omega))]

theorem digs_eq (k x : Nat) (hk : k ≤ 8) (hz : x / 256 ^ k = 0) (hp : ∀ i, i < k → x / 256 ^ i ≠ 0) : digs x = (low k x).reverse := by
  unfold digs; rw [low_eq_lsb 8 k x hk hz hp]
theorem digs_len_eq (k x : Nat) (hk : k ≤ 8) (hz : x / 256 ^ k = 0) (hp : ∀ i, i < k → x / 256 ^ i ≠ 0) : (digs x).length = k := by
  rw [digs_eq k x hk hz hp, List.length_reverse, low_length]

/-- A number below 2^64 has no more than eight. -/
theorem pow8_zero (x : Nat) (h : x < 18446744073709551616) : x / 256 ^ 8 = 0 := by
  rw [Nat.div_eq_of_lt]; simpa using h

/-! ### Reading back -/

theorem val_snoc (l : List UInt8) (c : UInt8) : val (l ++ [c]) = val l * 256 + c.toNat := by simp [val]
theorem val_reverse_cons (c : UInt8) (l : List UInt8) : val (c :: l).reverse = val l.reverse * 256 + c.toNat := by
  rw [List.reverse_cons, val_snoc]
theorem val_lsb (f x : Nat) (h : x < 256 ^ f) : val (lsb f x).reverse = x := by
  induction f generalizing x with
  | zero => have : x = 0 := by simpa using h
            subst this; rfl
  | succ f ih =>
    unfold lsb
    split
    · rename_i h0; subst h0; rfl
    · rw [val_reverse_cons, ih (x / 256) (by rw [Nat.div_lt_iff_lt_mul (by omega)]; rw [Nat.pow_succ] at h; exact h)]
      have : (UInt8.ofNat (x % 256)).toNat = x % 256 := by simp [UInt8.toNat_ofNat']
      rw [this]; omega
theorem val_digs (x : Nat) (h : x < 18446744073709551616) : val (digs x) = x := by
  unfold digs
  exact val_lsb 8 x (by simpa using h)

/-- The highest byte is not 0. -/
theorem lsb_last (f x : Nat) (h : x < 256 ^ f) : ∀ c, (lsb f x).getLast? = some c → c ≠ 0 := by
  induction f generalizing x with
  | zero => intro c hc; simp [lsb] at hc
  | succ f ih =>
    intro c hc
    unfold lsb at hc
    split at hc
    · simp at hc
    · rename_i h0
      have hl : x / 256 < 256 ^ f := by rw [Nat.div_lt_iff_lt_mul (by omega)]; rw [Nat.pow_succ] at h; exact h
      by_cases he : lsb f (x / 256) = []
      · rw [he] at hc
        simp at hc
        subst hc
        have hz : x / 256 = 0 := by
          rcases Nat.eq_zero_or_pos f with hf | hf
          · subst hf; simpa using hl
          · obtain ⟨g, rfl⟩ : ∃ g, f = g + 1 := ⟨f - 1, by omega⟩
            unfold lsb at he
            split at he
            · assumption
            · cases he
        intro hcz
        have := congrArg UInt8.toNat hcz
        simp [UInt8.toNat_ofNat'] at this
        omega
      · rw [List.getLast?_cons_of_ne_nil he] at hc
        exact ih (x / 256) hl c hc
theorem digs_head (x : Nat) (h : x < 18446744073709551616) : ∀ c, (digs x).head? = some c → c ≠ 0 := by
  intro c hc
  unfold digs at hc
  rw [List.head?_reverse] at hc
  exact lsb_last 8 x (by simpa using h) c hc

theorem ofNat_len (x : Nat) : (UInt8.ofNat (digs x).length).toNat = (digs x).length := by
  have := digs_length_le x
  simp [UInt8.toNat_ofNat']; omega

theorem read_up (x : Nat) (s : List UInt8) (h : x < 18446744073709551616) : read (up x ++ s) = (x, (up x).length, 0) := by
  unfold up
  simp only [List.cons_append, read, ofNat_len, List.length_append, List.length_cons]
  have h8 := digs_length_le x
  rw [if_neg (by omega), if_neg (by omega), if_neg, List.take_left, val_digs x h]
  rintro ⟨h1, h2⟩
  cases hd : digs x with
  | nil => rw [hd] at h1; simp at h1
  | cons c r =>
    rw [hd] at h2
    simp at h2
    exact digs_head x h c (by rw [hd]; rfl) h2

theorem turn_append (a b : List UInt8) : turn (a ++ b) = turn a ++ turn b := by simp [turn]
theorem turn_take (a : List UInt8) (n : Nat) : turn (a.take n) = (turn a).take n := by simp [turn, List.map_take]
theorem readDown_down (x : Nat) (s : List UInt8) (h : x < 18446744073709551616) : readDown (down x ++ s) = (x, (down x).length, 0) := by
  unfold readDown down
  have h9 := up_length_le x
  rw [List.take_append, List.take_of_length_le (by rw [turn_length]; exact h9), turn_append, turn_turn, read_up x _ h, turn_length]

/-- Cut off anywhere, it is short. -/
theorem read_cut (x i : Nat) (hi : i < (up x).length) : read ((up x).take i) = (0, 0, 10) := by
  cases i with
  | zero => simp [read]
  | succ i =>
    rw [up_length] at hi
    have h8 := digs_length_le x
    unfold up
    simp only [List.take_succ_cons, read, ofNat_len, List.length_take]
    rw [if_neg (by omega), if_pos (by omega)]

/-! ### What is read is the number's own bytes -/

theorem lsb_val_reverse (l : List UInt8) (hl : l.getLast? ≠ some 0) (f : Nat) (hf : l.length ≤ f) : lsb f (val l.reverse) = l := by
  induction l generalizing f with
  | nil => cases f <;> simp [val, lsb]
  | cons c l ih =>
    obtain ⟨g, rfl⟩ : ∃ g, f = g + 1 := ⟨f - 1, by simp at hf; omega⟩
    have hc := c.toNat_lt
    rw [val_reverse_cons]
    have hpos : val l.reverse * 256 + c.toNat ≠ 0 := by
      intro h0
      have h1 : val l.reverse = 0 := by omega
      have h2 : c.toNat = 0 := by omega
      cases l with
      | nil =>
        apply hl
        have : c = 0 := UInt8.toNat_inj.1 (by simpa using h2)
        rw [this]; rfl
      | cons d r =>
        have hl' : (d :: r).getLast? ≠ some 0 := by rw [List.getLast?_cons_of_ne_nil (by simp)] at hl; exact hl
        have := ih hl' (d :: r).length (Nat.le_refl _)
        rw [h1] at this
        simp [lsb] at this
    unfold lsb
    rw [if_neg hpos]
    have e1 : (val l.reverse * 256 + c.toNat) % 256 = c.toNat := by omega
    have e2 : (val l.reverse * 256 + c.toNat) / 256 = val l.reverse := by omega
    rw [e1, e2]
    congr 1
    · simp
    · cases l with
      | nil => cases g <;> simp [val, lsb]
      | cons d r =>
        exact ih (by rw [List.getLast?_cons_of_ne_nil (by simp)] at hl; exact hl) g (by simp at hf ⊢; omega)

theorem val_lt (l : List UInt8) : val l < 256 ^ l.length := by
  rw [← List.reverse_reverse l]
  generalize l.reverse = m
  induction m with
  | nil => simp [val]
  | cons c m ih =>
    rw [val_reverse_cons]
    have := c.toNat_lt
    simp only [List.length_reverse, List.length_cons] at ih ⊢
    rw [Nat.pow_succ]
    omega

theorem digs_val (l : List UInt8) (hl : l.head? ≠ some 0) (h8 : l.length ≤ 8) : digs (val l) = l := by
  unfold digs
  have := lsb_val_reverse l.reverse (by rw [List.getLast?_reverse]; exact hl) 8 (by simpa using h8)
  rw [List.reverse_reverse] at this
  rw [this, List.reverse_reverse]

theorem read_ok {s : List UInt8} {v k : Nat} (h : read s = (v, k, 0)) : k ≤ s.length ∧ v < 18446744073709551616 ∧ up v = s.take k := by
  cases s with
  | nil => simp [read] at h
  | cons c r =>
    simp only [read] at h
    split at h
    · simp at h
    split at h
    · simp at h
    split at h
    · simp at h
    rename_i h1 h2 h3
    simp only [Prod.mk.injEq, and_true] at h
    obtain ⟨rfl, rfl⟩ := h
    have hlen : (r.take c.toNat).length = c.toNat := by rw [List.length_take]; omega
    have hhead : (r.take c.toNat).head? ≠ some 0 := by
      intro h0
      apply h3
      cases hr : r with
      | nil => rw [hr] at h0; simp at h0
      | cons d t =>
        rw [hr] at h0
        cases hn : c.toNat with
        | zero => rw [hn] at h0; simp at h0
        | succ n => rw [hn] at h0; simp at h0; subst h0; simp
    have hd := digs_val (r.take c.toNat) hhead (by rw [hlen]; omega)
    refine ⟨by simp; omega, ?_, ?_⟩
    · have := val_lt (r.take c.toNat)
      rw [hlen] at this
      have hp : 256 ^ c.toNat ≤ 256 ^ 8 := Nat.pow_le_pow_right (by omega) (by omega)
      have : (256 : Nat) ^ 8 = 18446744073709551616 := by decide
      omega
    · unfold up
      rw [hd, hlen]
      simp [List.take_succ_cons]

theorem readDown_ok {s : List UInt8} {v k : Nat} (h : readDown s = (v, k, 0)) : k ≤ s.length ∧ v < 18446744073709551616 ∧ down v = s.take k := by
  unfold readDown at h
  obtain ⟨h1, h2, h3⟩ := read_ok h
  rw [turn_length, List.length_take] at h1
  refine ⟨by omega, h2, ?_⟩
  unfold down
  rw [h3, ← turn_take, turn_turn, List.take_take]
  congr 1
  omega

/-- What read tells is in bounds, whatever it is given. -/
theorem read_bounds (s : List UInt8) : (read s).1 < 18446744073709551616 ∧ (read s).2.1 ≤ s.length ∧ (read s).2.1 ≤ 9 ∧ (read s).2.2 ≤ 10 := by
  by_cases h : (read s).2.2 = 0
  · obtain ⟨h1, h2, h3⟩ := read_ok (s := s) (v := (read s).1) (k := (read s).2.1) (by rw [← h])
    have := congrArg List.length h3
    have h9 := up_length_le (read s).1
    rw [List.length_take] at this
    omega
  · cases s with
    | nil => simp [read]
    | cons c r =>
      simp only [read] at h ⊢
      split
      · simp
      split
      · simp
      split
      · simp
      · rename_i h1 h2 h3; simp [h1, h2, h3] at h
theorem readDown_bounds (s : List UInt8) : (readDown s).1 < 18446744073709551616 ∧ (readDown s).2.1 ≤ s.length ∧ (readDown s).2.1 ≤ 9 ∧ (readDown s).2.2 ≤ 10 := by
  have := read_bounds (turn (s.take 9))
  rw [turn_length, List.length_take] at this
  unfold readDown
  omega

end Go.Proofs.Ytaeiahkomdpcoaa.Num
