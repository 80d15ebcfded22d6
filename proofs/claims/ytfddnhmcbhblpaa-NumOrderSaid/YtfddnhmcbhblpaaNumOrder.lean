/- For any two numbers, any bytes behind, hoardlaw01.NumOrder returns true: numbers' bytes sort as the numbers do, downwards the other way round; none's begin another one's. No condition on the input. -/
import Derived.Test.YtfddnhmcbhblpaaNumAlive
import Derived.Test.YtfddnhmcbhblpaaLaw
namespace Go.Proofs.Ytfddnhmcbhblpaa.NumOrder
open Go.RowKit Go.Proofs.Ytfddnhmcbhblpaa.Num

/-! ### The plain law -/

theorem val_cons (c : UInt8) (l : List UInt8) : val (c :: l) = c.toNat * 256 ^ l.length + val l := by
  have h : ∀ (l : List UInt8) (a : Nat), l.foldl (fun a c => a * 256 + c.toNat) a = a * 256 ^ l.length + val l := by
    intro l
    induction l with
    | nil => intro a; simp [val]
    | cons d r ih =>
      intro a
      show r.foldl _ (a * 256 + d.toNat) = _
      rw [ih]
      show _ = a * 256 ^ (r.length + 1) + r.foldl _ (0 * 256 + d.toNat)
      rw [ih, Nat.pow_succ, Nat.add_mul, Nat.zero_mul, Nat.zero_add, Nat.mul_assoc, Nat.mul_comm 256, Nat.add_assoc]
  show l.foldl _ (0 * 256 + c.toNat) = _
  rw [h]; simp

theorem less_same : ∀ (a b s t : List UInt8), a.length = b.length → a ≠ b → Op.bytesLess (a ++ s) (b ++ t) = decide (val a < val b)
  | [], [], _, _, _, h => absurd rfl h
  | c :: a, d :: b, s, t, hl, h => by
    have hl' : a.length = b.length := by simpa using hl
    have h1 := val_lt a
    have h2 := val_lt b
    rw [← hl'] at h2
    have e : (c :: a) ++ s = c :: (a ++ s) := rfl
    have e' : (d :: b) ++ t = d :: (b ++ t) := rfl
    rw [e, e', Op.bytesLess, val_cons, val_cons, ← hl']
    by_cases hcd : c = d
    · subst hcd
      have hab : a ≠ b := fun hab => h (by rw [hab])
      rw [less_same a b s t hl' hab]
      have : ¬ c < c := by rw [UInt8.lt_iff_toNat_lt]; omega
      simp [this]
    · have hne : c.toNat ≠ d.toNat := fun hh => hcd (UInt8.toNat_inj.1 hh)
      have hb : (c == d) = false := by simpa using hcd
      rw [hb, Bool.false_and, Bool.or_false]
      rw [Bool.eq_iff_iff, decide_eq_true_iff, decide_eq_true_iff, UInt8.lt_iff_toNat_lt]
      rcases Nat.lt_or_gt_of_ne hne with hlt | hgt
      · have h3 : (c.toNat + 1) * 256 ^ a.length ≤ d.toNat * 256 ^ a.length := Nat.mul_le_mul_right _ hlt
        rw [Nat.add_mul] at h3
        omega
      · have h3 : (d.toNat + 1) * 256 ^ a.length ≤ c.toNat * 256 ^ a.length := Nat.mul_le_mul_right _ hgt
        rw [Nat.add_mul] at h3
        omega

theorem val_turn (l : List UInt8) : val (turn l) + val l + 1 = 256 ^ l.length := by
  induction l with
  | nil => rfl
  | cons c l ih =>
    have e : turn (c :: l) = (255 - c) :: turn l := rfl
    rw [e, val_cons, val_cons, turn_length, List.length_cons, Nat.pow_succ]
    have hc := c.toNat_lt
    have h255 : (255 - c).toNat + c.toNat = 255 := by
      have := sub_turn c
      omega
    have : (255 - c).toNat * 256 ^ l.length + c.toNat * 256 ^ l.length = 255 * 256 ^ l.length := by rw [← Nat.add_mul, h255]
    omega

theorem less_turn (a b s t : List UInt8) (hl : a.length = b.length) (h : a ≠ b) : Op.bytesLess (turn a ++ s) (turn b ++ t) = decide (val b < val a) := by
  rw [less_same (turn a) (turn b) s t (by rw [turn_length, turn_length, hl]) (fun e => h (by rw [← turn_turn a, e, turn_turn]))]
  have h1 := val_turn a
  have h2 := val_turn b
  rw [hl] at h1
  rw [Bool.eq_iff_iff, decide_eq_true_iff, decide_eq_true_iff]
  omega

theorem digs_inj {x y : Nat} (hx : x < 18446744073709551616) (hy : y < 18446744073709551616) (h : digs x = digs y) : x = y := by
  rw [← val_digs x hx, h, val_digs y hy]

theorem lsb_mono (f : Nat) : ∀ {x y : Nat}, x ≤ y → (lsb f x).length ≤ (lsb f y).length := by
  induction f with
  | zero => intro x y _; simp [lsb]
  | succ f ih =>
    intro x y h
    unfold lsb
    split
    · simp
    · rw [if_neg (by omega)]
      simp only [List.length_cons]
      have := ih (Nat.div_le_div_right (c := 256) h)
      omega
theorem digs_mono {x y : Nat} (h : x ≤ y) : (digs x).length ≤ (digs y).length := by
  unfold digs; rw [List.length_reverse, List.length_reverse]; exact lsb_mono 8 h

theorem head_val (x : Nat) : val [UInt8.ofNat (digs x).length] = (digs x).length := by
  show 0 * 256 + _ = _
  rw [ofNat_len]; omega

theorem up_less (x y : Nat) (s t : List UInt8) (hx : x < 18446744073709551616) (hy : y < 18446744073709551616) (h : x ≠ y) : Op.bytesLess (up x ++ s) (up y ++ t) = decide (x < y) := by
  unfold up
  by_cases hl : (digs x).length = (digs y).length
  · have hd : digs x ≠ digs y := fun e => h (digs_inj hx hy e)
    rw [hl, less_same (UInt8.ofNat (digs y).length :: digs x) (UInt8.ofNat (digs y).length :: digs y) s t (by simp [hl]) (by simpa using hd), val_cons, val_cons, hl, val_digs x hx, val_digs y hy]
    rw [Bool.eq_iff_iff, decide_eq_true_iff, decide_eq_true_iff]
    omega
  · have e : ∀ z r, (UInt8.ofNat (digs z).length :: digs z) ++ r = [UInt8.ofNat (digs z).length] ++ (digs z ++ r) := fun _ _ => rfl
    have hne : [UInt8.ofNat (digs x).length] ≠ [UInt8.ofNat (digs y).length] := by
      intro e
      have := congrArg val e
      rw [head_val, head_val] at this
      exact hl this
    rw [e, e, less_same [UInt8.ofNat (digs x).length] [UInt8.ofNat (digs y).length] _ _ rfl hne, head_val, head_val]
    rw [Bool.eq_iff_iff, decide_eq_true_iff, decide_eq_true_iff]
    rcases Nat.lt_or_gt_of_ne h with hlt | hgt
    · have := digs_mono (Nat.le_of_lt hlt); omega
    · have := digs_mono (Nat.le_of_lt hgt); omega

theorem down_less (x y : Nat) (s t : List UInt8) (hx : x < 18446744073709551616) (hy : y < 18446744073709551616) (h : x ≠ y) : Op.bytesLess (down x ++ s) (down y ++ t) = decide (y < x) := by
  unfold down up
  by_cases hl : (digs x).length = (digs y).length
  · have hd : digs x ≠ digs y := fun e => h (digs_inj hx hy e)
    rw [hl, less_turn (UInt8.ofNat (digs y).length :: digs x) (UInt8.ofNat (digs y).length :: digs y) s t (by simp [hl]) (by simpa using hd), val_cons, val_cons, hl, val_digs x hx, val_digs y hy]
    rw [Bool.eq_iff_iff, decide_eq_true_iff, decide_eq_true_iff]
    omega
  · have e : ∀ z r, turn (UInt8.ofNat (digs z).length :: digs z) ++ r = turn [UInt8.ofNat (digs z).length] ++ (turn (digs z) ++ r) := fun _ _ => rfl
    have hne : [UInt8.ofNat (digs x).length] ≠ [UInt8.ofNat (digs y).length] := by
      intro e
      have := congrArg val e
      rw [head_val, head_val] at this
      exact hl this
    rw [e, e, less_turn [UInt8.ofNat (digs x).length] [UInt8.ofNat (digs y).length] _ _ rfl hne, head_val, head_val]
    rw [Bool.eq_iff_iff, decide_eq_true_iff, decide_eq_true_iff]
    rcases Nat.lt_or_gt_of_ne h with hlt | hgt
    · have := digs_mono (Nat.le_of_lt hlt); omega
    · have := digs_mono (Nat.le_of_lt hgt); omega

def beg (a b : List UInt8) : Bool := decide (a.take b.length = b)

theorem up_not_begins (x y : Nat) (hx : x < 18446744073709551616) (hy : y < 18446744073709551616) (h : x ≠ y) : beg (up x) (up y) = false := by
  unfold beg
  rw [decide_eq_false_iff_not]
  intro e
  unfold up at e
  simp only [List.length_cons, List.take_succ_cons, List.cons.injEq] at e
  obtain ⟨e1, e2⟩ := e
  have hl := congrArg UInt8.toNat e1
  rw [ofNat_len, ofNat_len] at hl
  rw [List.take_of_length_le (by omega)] at e2
  exact h (digs_inj hx hy e2)

theorem down_not_begins (x y : Nat) (hx : x < 18446744073709551616) (hy : y < 18446744073709551616) (h : x ≠ y) : beg (down x) (down y) = false := by
  have hu := up_not_begins x y hx hy h
  unfold beg at hu ⊢
  rw [decide_eq_false_iff_not] at hu ⊢
  intro e
  apply hu
  unfold down at e
  rw [turn_length, ← turn_take] at e
  rw [← turn_turn ((up x).take (up y).length), e, turn_turn]

/-! ### The walks -/

theorem append_list (l : List UInt8) (s : ByteArray) : (bs l ++ s).toList = l ++ s.data.toList := by
  rw [ByteArray.toList_eq]
  simp [bs]

theorem beg_eq (a b : List UInt8) : (((bs a).extract 0 b.length).toList == (bs b).toList) = beg a b := by
  unfold beg
  rw [Lib.extract_toList, ByteArray.toList_eq, List.drop_zero, Nat.sub_zero, Bool.eq_iff_iff]
  simp [bs]

set_option maxHeartbeats 400000 in
theorem begins_calls (a b : List UInt8) (w : World) :
    Calls Try.prog 27 #[.string (bs a), .string (bs b)] w fun e w' => e = .returned (.bool (beg a b)) ∧ Below w.heap.size w w' := by
  have la := bs_size a
  have lb := bs_size b
  by_cases h : b.length ≤ a.length
  · go_enter Try.func27, Try.ntmps27
    go_wp2
    go_ret
    exact ⟨ret_bool (beg_eq a b), Below.refl _ _⟩
  · go_enter Try.func27, Try.ntmps27
    go_wp2
    go_ret
    refine ⟨ret_bool ?_, Below.refl _ _⟩
    unfold beg
    rw [Eq.comm, decide_eq_false_iff_not]
    intro e
    have := congrArg List.length e
    rw [List.length_take] at this
    omega

set_option maxHeartbeats 800000 in
theorem walk_long (x y : Nat) (s t : ByteArray) (w : World) (hc : (4096 : Int) < (s.size : Int) ∨ ((s.size : Int) ≤ 4096 ∧ (4096 : Int) < (t.size : Int))) :
    Calls Try.prog 8 #[.int .u64 (x : Int), .int .u64 (y : Int), .string s, .string t] w fun e w' => e = .returned (.bool true) ∧ Below w.heap.size w w' := by
  rcases hc with h | ⟨h, h'⟩
  all_goals go_enter Try.func8, Try.ntmps8
  all_goals go_wp2_with (go_at_call 22; refine (alive_calls _).mono ?_; rintro e w1 ⟨rfl, hb⟩)
  all_goals go_ret
  all_goals exact ⟨rfl, hb⟩

set_option maxHeartbeats 1600000 in
theorem walk_same (x : Nat) (s t : ByteArray) (w : World) (hx : Hid (x < 18446744073709551616)) (hs : (s.size : Int) ≤ 4096) (ht : (t.size : Int) ≤ 4096) :
    Calls Try.prog 8 #[.int .u64 (x : Int), .int .u64 (x : Int), .string s, .string t] w fun e w' => e = .returned (.bool true) ∧ Below w.heap.size w w' := by
  go_enter Try.func8, Try.ntmps8
  go_wp2_with (first
    | (go_at_call 17; refine (up_calls _ _ (by assumption)).mono ?_; rintro e w1 ⟨rfl, hb⟩)
    | (go_at_call 19; refine (down_calls _ _ (by assumption)).mono ?_; rintro e w1 ⟨rfl, hb⟩)
    | (go_at_call 22; refine (alive_calls _).mono ?_; rintro e w1 ⟨rfl, hb⟩))
  all_goals go_ret
  all_goals refine ⟨rfl, ?_⟩
  all_goals repeat (first | exact Below.refl _ _ | assumption | refine below_of ?_ (by assumption))

set_option maxHeartbeats 3200000 in
theorem walk_other (x y : Nat) (s t : ByteArray) (w : World) (hx : Hid (x < 18446744073709551616)) (hy : Hid (y < 18446744073709551616)) (hs : (s.size : Int) ≤ 4096) (ht : (t.size : Int) ≤ 4096) (hxy : x ≠ y) :
    Calls Try.prog 8 #[.int .u64 (x : Int), .int .u64 (y : Int), .string s, .string t] w fun e w' => e = .returned (.bool true) ∧ Below w.heap.size w w' := by
  have x9 := up_length_le x
  have y9 := up_length_le y
  have lx := bs_size (up x)
  have ly := bs_size (up y)
  have dx : (bs (down x)).size = (up x).length := (bs_size _).trans (turn_length _)
  have dy : (bs (down y)).size = (up y).length := (bs_size _).trans (turn_length _)
  have L1 : Op.bytesLess (bs (up x) ++ s).toList (bs (up y) ++ t).toList = decide (x < y) := by rw [append_list, append_list, up_less x y _ _ hx.out hy.out hxy]
  have L2 : Op.bytesLess (bs (down x) ++ s).toList (bs (down y) ++ t).toList = decide (y < x) := by rw [append_list, append_list, down_less x y _ _ hx.out hy.out hxy]
  have B1 := up_not_begins x y hx.out hy.out hxy
  have B2 := up_not_begins y x hy.out hx.out (Ne.symm hxy)
  have B3 := down_not_begins x y hx.out hy.out hxy
  have B4 := down_not_begins y x hy.out hx.out (Ne.symm hxy)
  have hn : ((x : Int) == (y : Int)) = false := by rw [beq_eq_false_iff_ne]; omega
  rcases Nat.lt_or_gt_of_ne hxy with hlt | hgt
  · have hle : ¬ y < x := by omega
    rw [decide_eq_true hlt] at L1
    rw [decide_eq_false hle] at L2
    clear hxy hle
    go_enter Try.func8, Try.ntmps8
    go_wp2_with (first
      | (go_at_call 27; refine (begins_calls _ _ _).mono ?_; rintro e w1 ⟨rfl, hb⟩)
      | (first
        | (go_at_call 17; refine (up_calls _ _ (by assumption)).mono ?_; rintro e w1 ⟨rfl, hb⟩)
        | (go_at_call 19; refine (down_calls _ _ (by assumption)).mono ?_; rintro e w1 ⟨rfl, hb⟩)
        | (go_at_call 22; refine (alive_calls _).mono ?_; rintro e w1 ⟨rfl, hb⟩)))
    go_ret
    refine ⟨ret_bool (by simp; omega), ?_⟩
    repeat (first | exact Below.refl _ _ | assumption | refine below_of ?_ (by assumption))
  · have hle : ¬ x < y := by omega
    rw [decide_eq_false hle] at L1
    rw [decide_eq_true (show y < x from hgt)] at L2
    clear hxy hle
    go_enter Try.func8, Try.ntmps8
    go_wp2_with (first
      | (go_at_call 27; refine (begins_calls _ _ _).mono ?_; rintro e w1 ⟨rfl, hb⟩)
      | (first
        | (go_at_call 17; refine (up_calls _ _ (by assumption)).mono ?_; rintro e w1 ⟨rfl, hb⟩)
        | (go_at_call 19; refine (down_calls _ _ (by assumption)).mono ?_; rintro e w1 ⟨rfl, hb⟩)
        | (go_at_call 22; refine (alive_calls _).mono ?_; rintro e w1 ⟨rfl, hb⟩)))
    go_ret
    refine ⟨ret_bool (by simp; omega), ?_⟩
    repeat (first | exact Below.refl _ _ | assumption | refine below_of ?_ (by assumption))

theorem walk (x y : Nat) (s t : ByteArray) (w : World) (hx : Hid (x < 18446744073709551616)) (hy : Hid (y < 18446744073709551616)) :
    Calls Try.prog 8 #[.int .u64 (x : Int), .int .u64 (y : Int), .string s, .string t] w fun e w' => e = .returned (.bool true) ∧ Below w.heap.size w w' := by
  by_cases hs : (4096 : Int) < (s.size : Int)
  · exact walk_long x y s t w (Or.inl hs)
  · by_cases ht : (4096 : Int) < (t.size : Int)
    · exact walk_long x y s t w (Or.inr ⟨by omega, ht⟩)
    · by_cases hxy : x = y
      · subst hxy
        exact walk_same x s t w hx (by omega) (by omega)
      · exact walk_other x y s t w hx hy (by omega) (by omega) hxy

open Go.ChangeShapes Go.WideShapes Go.ChangeAt Go.Joins
open Go.ChangeMaps (open_string)

set_option maxRecDepth 100000 in
theorem lifted (os : Os) (started : os.Started) (H : Type) (enc : TypeId × Value → H) :
    ReturnsInHanded {} Try.checked os 8 .any (Rows.numOrderSpec.pre6 enc Try.prog Try.f8 Rows.numOrderRow.domain false) (Rows.numOrderSpec.post enc Try.prog Try.f8 false true false false) := by
  refine returnsInHanded_of_change (C := Try.checked) own started (by kernel_rfl) Try.func8
    (ChangeSpec.witness6 (enc := enc) (C := Try.checked) false ⟨#[], #[.int .u64 0, .int .u64 0, .string ⟨#[]⟩, .string ⟨#[]⟩], []⟩ 8 (by kernel_rfl) (by kernel_rfl) (by kernel_rfl) (by kernel_rfl)) ?_
  intro W base args ds gs before hval0 hW hcnd _
  have hval : ∀ (j : Nat) t v, Try.f8.params[j]? = some t → args[j]? = some v → Value.okWide Try.prog W .any base t v := hval0
  have hW' := hW
  obtain ⟨p, q, hA0, hV, rfl, _, _⟩ := hW'
  have hA : DataW.TrodAll enc Try.prog W 0 (fun _ => true) true Try.f8.params.toList args.toList ds p := hA0
  rw [Try.params8] at hA hval
  obtain ⟨v0, v1, v2, v3, d0, d1, d2, d3, p0, p1, p2, p3, rfl, rfl, rfl, h0, h1, h2, h3⟩ := trodAll_four hA
  obtain ⟨rfl, rfl⟩ := trodVars_none hV
  obtain ⟨a0, rfl, rfl, rfl, wf0⟩ := open_int Try.underlying22 (hval 0 22 v0 rfl rfl) h0
  obtain ⟨x0, rfl⟩ := Int.eq_ofNat_of_zero_le (bounds_u64 wf0).1
  obtain ⟨a1, rfl, rfl, rfl, wf1⟩ := open_int Try.underlying22 (hval 1 22 v1 rfl rfl) h1
  obtain ⟨x1, rfl⟩ := Int.eq_ofNat_of_zero_le (bounds_u64 wf1).1
  obtain ⟨s2, rfl, rfl, rfl, ws2⟩ := open_string Try.underlying9 (hval 2 9 v2 rfl rfl) h2
  obtain ⟨s3, rfl, rfl, rfl, ws3⟩ := open_string Try.underlying9 (hval 3 9 v3 rfl rfl) h3
  refine (walk x0 x1 s2 s3 W (Lib.hid (by have := (bounds_u64 wf0).2; omega)) (Lib.hid (by have := (bounds_u64 wf1).2; omega))).mono fun e W' ⟨he, hb⟩ => ⟨_, he, ?_⟩
  exact law_post (tb := 4) hW hb laidOut (by kernel_rfl) (by kernel_rfl) Try.underlying4 rfl rfl

theorem proved : Rows.NumOrderSaid :=
  OpenClaim.holds_of_wide 8 Try.f8 rfl rfl rfl rfl rfl rfl rfl ⟨rfl, rfl, rfl, rfl, rfl⟩ rfl rfl rfl rfl rfl (by kernel_rfl) Try.func8 (by kernel_rfl)
    (of_decide_eq_true (by kernel_rfl)) (by unfold Func.isWrapper; first | (rw [if_pos (by decide +kernel)]; kernel_rfl) | (rw [if_neg (by decide +kernel)]; exact ⟨rfl, rfl⟩))
    (fun os started H enc _ => lifted os started H enc)

#print axioms proved
end Go.Proofs.Ytfddnhmcbhblpaa.NumOrder
