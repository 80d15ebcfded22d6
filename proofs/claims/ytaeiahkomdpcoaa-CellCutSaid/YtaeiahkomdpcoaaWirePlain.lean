/- Bricks' bytes, and what a reader answers: plain Lean, no program in sight. -/
import Derived.Test.YtaeiahkomdpcoaaNumPlain
namespace Go.Proofs.Ytaeiahkomdpcoaa.Wire
open Go.Proofs.Ytaeiahkomdpcoaa.Num

abbrev Bs := List UInt8
def textW (s : Bs) : Bs := up s.length ++ s
def numsW : List Nat → Bs
  | [] => []
  | x :: u => up x ++ numsW u
def textsW : List Bs → Bs
  | [] => []
  | s :: t => textW s ++ textsW t
def boolW (b : Bool) : Bs := [if b then 1 else 0]

theorem numsW_append (a b : List Nat) : numsW (a ++ b) = numsW a ++ numsW b := by
  induction a with
  | nil => rfl
  | cons x a ih => simp [numsW, ih]
theorem textsW_append (a b : List Bs) : textsW (a ++ b) = textsW a ++ textsW b := by
  induction a with
  | nil => rfl
  | cons x a ih => simp [textsW, ih]
theorem numsW_take (u : List Nat) (k : Nat) (h : k < u.length) : numsW (u.take (k + 1)) = numsW (u.take k) ++ up u[k] := by
  rw [List.take_succ_eq_append_getElem h, numsW_append]; simp [numsW]
theorem textsW_take (t : List Bs) (k : Nat) (h : k < t.length) : textsW (t.take (k + 1)) = textsW (t.take k) ++ textW t[k] := by
  rw [List.take_succ_eq_append_getElem h, textsW_append]; simp [textsW]
theorem numsW_drop (u : List Nat) (k : Nat) (h : k < u.length) : numsW (u.drop k) = up u[k] ++ numsW (u.drop (k + 1)) := by
  rw [List.drop_eq_getElem_cons h]; rfl
theorem textsW_drop (t : List Bs) (k : Nat) (h : k < t.length) : textsW (t.drop k) = textW t[k] ++ textsW (t.drop (k + 1)) := by
  rw [List.drop_eq_getElem_cons h]; rfl
theorem numsW_len (u : List Nat) : (numsW u).length ≤ 9 * u.length := by
  induction u with
  | nil => simp [numsW]
  | cons x u ih => simp only [numsW, List.length_append, List.length_cons]; have := up_length_le x; omega
theorem textW_len (s : Bs) : (textW s).length ≤ 9 + s.length := by
  simp only [textW, List.length_append]; have := up_length_le s.length; omega
theorem textsW_len (t : List Bs) (m : Nat) (h : ∀ s ∈ t, s.length ≤ m) : (textsW t).length ≤ (9 + m) * t.length := by
  induction t with
  | nil => simp [textsW]
  | cons s t ih =>
    simp only [textsW, List.length_append, List.length_cons]
    have h1 := textW_len s
    have h2 := h s (by simp)
    have h3 := ih (fun x hx => h x (List.mem_cons_of_mem _ hx))
    rw [Nat.mul_succ]; omega

/-- A reader: what is left, and the fault. -/
abbrev St := Bs × Nat
def numR (most : Nat) (st : St) : Nat × St :=
  if st.2 ≠ 0 then (0, st) else if (read st.1).2.2 ≠ 0 then (0, (st.1, (read st.1).2.2)) else if most < (read st.1).1 then (0, (st.1, 9)) else ((read st.1).1, (st.1.drop (read st.1).2.1, 0))
/-- A number of bytes that are there: count, n, e. -/
def countF (s : Bs) (most : Int) : Nat × Nat × Nat :=
  if (read s).2.2 ≠ 0 then (0, 0, (read s).2.2) else if most < 0 ∨ most < ((read s).1 : Int) then (0, 0, 4) else if s.length - (read s).2.1 < (read s).1 then (0, 0, 10) else ((read s).1, (read s).2.1, 0)
def textR (most : Int) (st : St) : Bs × St :=
  if st.2 ≠ 0 then ([], st) else if (countF st.1 most).2.2 ≠ 0 then ([], (st.1, (countF st.1 most).2.2)) else ((st.1.drop (countF st.1 most).2.1).take (countF st.1 most).1, (st.1.drop ((countF st.1 most).2.1 + (countF st.1 most).1), 0))
def boolR (st : St) : Bool × St :=
  if st.2 ≠ 0 then (false, st) else match st.1 with
    | [] => (false, ([], 10))
    | c :: r => if 1 < c.toNat then (false, (c :: r, 8)) else (decide (c.toNat = 1), (r, 0))

theorem numR_whole (x : Nat) (hx : x < 18446744073709551616) (s : Bs) : numR 18446744073709551615 (up x ++ s, 0) = (x, (s, 0)) := by
  have h := read_up x s hx
  simp only [numR, h]
  rw [if_neg (by simp), if_neg (by simp), if_neg (by omega)]
  simp
theorem textR_whole (t s : Bs) (ht : t.length < 18446744073709551616) : textR (t.length : Int) (textW t ++ s, 0) = (t, (s, 0)) := by
  have h := read_up t.length (t ++ s) ht
  have hc : countF (textW t ++ s) (t.length : Int) = (t.length, (up t.length).length, 0) := by
    unfold countF textW
    rw [List.append_assoc, h]
    rw [if_neg (by simp), if_neg (by omega), if_neg (by simp only [List.length_append]; omega)]
  unfold textR
  simp only [hc]
  rw [if_neg (by simp), if_neg (by simp)]
  simp only [textW, List.append_assoc, List.drop_append, List.drop_length, List.nil_append, Nat.sub_self, List.drop_zero, List.take_left']
  simp
theorem boolR_whole (b : Bool) (s : Bs) : boolR (boolW b ++ s, 0) = (b, (s, 0)) := by
  cases b <;> simp [boolR, boolW]

/-- What stands in a reader of bytes that were cut off. -/
def Cut (rem : Bs) (st : St) : Prop := (∃ c, c < rem.length ∧ st = (rem.take c, 0)) ∨ st.2 = 10

theorem numR_stuck (m : Nat) (st : St) (h : st.2 = 10) : (numR m st).2 = st := by unfold numR; rw [if_pos (by omega)]
theorem textR_stuck (m : Int) (st : St) (h : st.2 = 10) : (textR m st).2 = st := by unfold textR; rw [if_pos (by omega)]
theorem boolR_stuck (st : St) (h : st.2 = 10) : (boolR st).2 = st := by unfold boolR; rw [if_pos (by omega)]

theorem take_more (a b : Bs) (c : Nat) (h : a.length ≤ c) : (a ++ b).take c = a ++ b.take (c - a.length) := by
  rw [List.take_append, List.take_of_length_le h]
theorem take_less (a b : Bs) (c : Nat) (h : c ≤ a.length) : (a ++ b).take c = a.take c := by
  rw [List.take_append, Nat.sub_eq_zero_of_le h, List.take_zero, List.append_nil]

theorem cut_num {x : Nat} (hx : x < 18446744073709551616) {rem : Bs} {st : St} (h : Cut (up x ++ rem) st) : Cut rem (numR 18446744073709551615 st).2 := by
  rcases h with ⟨c, hc, rfl⟩ | h
  · by_cases hl : c < (up x).length
    · right
      rw [take_less _ _ _ (by omega)]
      unfold numR
      rw [read_cut x c hl]
      simp
    · left
      rw [take_more _ _ _ (by omega), numR_whole x hx]
      refine ⟨c - (up x).length, ?_, rfl⟩
      rw [List.length_append] at hc; omega
  · rw [numR_stuck _ _ h]; exact .inr h
theorem cut_text {t rem : Bs} (ht : t.length < 18446744073709551616) {st : St} (h : Cut (textW t ++ rem) st) : Cut rem (textR (t.length : Int) st).2 := by
  rcases h with ⟨c, hc, rfl⟩ | h
  · by_cases hl : c < (up t.length).length
    · right
      unfold textW
      rw [List.append_assoc, take_less _ _ _ (by omega)]
      unfold textR countF
      rw [read_cut t.length c hl]
      simp
    · by_cases hl2 : c < (textW t).length
      · right
        have hl3 : c - (up t.length).length < t.length := by unfold textW at hl2; rw [List.length_append] at hl2; omega
        unfold textW
        rw [List.append_assoc, take_more _ _ _ (by omega), take_less _ _ _ (by omega)]
        have hc2 : countF (up t.length ++ t.take (c - (up t.length).length)) (t.length : Int) = (0, 0, 10) := by
          unfold countF
          rw [read_up _ _ ht]
          rw [if_neg (by simp), if_neg (by omega), if_pos]
          dsimp only
          rw [List.length_append, List.length_take]; omega
        unfold textR
        simp only [hc2]
        simp
      · left
        rw [take_more _ _ _ (by omega), textR_whole t _ ht]
        refine ⟨c - (textW t).length, ?_, rfl⟩
        rw [List.length_append] at hc; omega
  · rw [textR_stuck _ _ h]; exact .inr h
theorem cut_bool {b : Bool} {st : St} (h : Cut (boolW b) st) : (boolR st).2.2 = 10 := by
  rcases h with ⟨c, hc, rfl⟩ | h
  · obtain rfl : c = 0 := by simp [boolW] at hc; omega
    simp [boolR]
  · rw [boolR_stuck _ h]; exact h

theorem up_ne (x : Nat) (s : Bs) : up x ++ s ≠ [] := by simp [up]
theorem up_apart {x y : Nat} (hx : x < 18446744073709551616) (hy : y < 18446744073709551616) {a b : Bs} (h : up x ++ a = up y ++ b) : x = y ∧ a = b := by
  have h1 := read_up x a hx
  rw [h, read_up y b hy] at h1
  have : y = x := congrArg (·.1) h1
  subst this
  exact ⟨rfl, List.append_cancel_left h⟩
theorem numsW_inj : ∀ (u v : List Nat), (∀ x ∈ u, x < 18446744073709551616) → (∀ x ∈ v, x < 18446744073709551616) → numsW u = numsW v → u = v := by
  intro u
  induction u with
  | nil => intro v _ _ h; cases v with
    | nil => rfl
    | cons y v => exact absurd h.symm (up_ne _ _)
  | cons x u ih => intro v hu hv h; cases v with
    | nil => exact absurd h (up_ne _ _)
    | cons y v =>
      obtain ⟨rfl, h2⟩ := up_apart (hu x (by simp)) (hv y (by simp)) h
      rw [ih v (fun z hz => hu z (List.mem_cons_of_mem _ hz)) (fun z hz => hv z (List.mem_cons_of_mem _ hz)) h2]
theorem textsW_inj : ∀ (u v : List Bs), (∀ x ∈ u, x.length < 18446744073709551616) → (∀ x ∈ v, x.length < 18446744073709551616) → textsW u = textsW v → u = v := by
  intro u
  induction u with
  | nil => intro v _ _ h; cases v with
    | nil => rfl
    | cons y v => exact absurd h.symm (by simp [textsW, textW, up])
  | cons x u ih => intro v hu hv h; cases v with
    | nil => exact absurd h (by simp [textsW, textW, up])
    | cons y v =>
      simp only [textsW, textW, List.append_assoc] at h
      obtain ⟨h1, h2⟩ := up_apart (hu x (by simp)) (hv y (by simp)) h
      obtain ⟨rfl, h3⟩ := List.append_inj h2 h1
      rw [ih v (fun z hz => hu z (List.mem_cons_of_mem _ hz)) (fun z hz => hv z (List.mem_cons_of_mem _ hz)) h3]

end Go.Proofs.Ytaeiahkomdpcoaa.Wire
