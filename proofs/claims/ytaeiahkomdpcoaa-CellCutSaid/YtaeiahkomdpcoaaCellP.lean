/- Cells' bytes, and what a reader reads of them: plain Lean, no program in sight. -/
import Derived.Test.YtaeiahkomdpcoaaWireRd3
namespace Go.Proofs.Ytaeiahkomdpcoaa.Cell
open Go.Proofs.Ytaeiahkomdpcoaa.Num Go.Proofs.Ytaeiahkomdpcoaa.Wire

structure Piece where
  row : Int
  stamp : Nat
  len : Int
structure Body where
  len : Int
  inl : ByteArray
  pcs : List Piece
structure Cel where
  kind : Nat
  n : Nat
  gone : Bool
  name : ByteArray
  body : Body
def Body.zero : Body := ⟨0, ⟨#[]⟩, []⟩
def Cel.zero : Cel := ⟨0, 0, false, ⟨#[]⟩, Body.zero⟩

def big : Nat := 281474976710656
def pcOk (left : Int) (p : Piece) : Bool := decide (0 ≤ p.row ∧ p.row < 4096) && decide (p.stamp ≤ big) && decide (1 ≤ p.len ∧ p.len ≤ left)
def sumOk : Int → List Piece → Bool
  | left, [] => decide (left = 0)
  | left, p :: ps => pcOk left p && sumOk (left - p.len) ps
def mayBody (b : Body) : Bool := decide (0 ≤ b.len ∧ b.len ≤ 32768) && (if b.pcs.length = 0 then decide ((b.inl.size : Int) = b.len) && decide (b.len ≤ 64) else decide (b.inl = ⟨#[]⟩) && decide (b.pcs.length ≤ 512) && sumOk b.len b.pcs)
/-- What a kind has, of a cell. -/
def hasC (c : Cel) : Cel :=
  if c.kind = 1 ∨ c.kind = 2 ∨ c.kind = 6 then { Cel.zero with kind := c.kind, n := c.n }
  else if c.kind = 4 then { Cel.zero with kind := c.kind, name := c.name }
  else if c.kind = 5 then { Cel.zero with kind := c.kind, body := c.body }
  else if c.gone then { Cel.zero with kind := c.kind, gone := c.gone } else { Cel.zero with kind := c.kind, gone := c.gone, body := c.body }
def mayC (c : Cel) : Prop := (1 ≤ c.kind ∧ c.kind ≤ 6) ∧ c = hasC c ∧ c.n ≤ big ∧ c.name.size ≤ 200 ∧ mayBody c.body = true

def pcW (p : Piece) : Bs := numsW [p.row.toNat, p.stamp, p.len.toNat]
def pcsW : List Piece → Bs
  | [] => []
  | p :: ps => pcW p ++ pcsW ps
def bodyW (b : Body) : Bs := numsW [b.len.toNat] ++ boolW (decide (0 < b.pcs.length)) ++ (if b.pcs.length = 0 then textsW [b.inl.data.toList] else numsW [b.pcs.length] ++ pcsW b.pcs)
def cellW (c : Cel) : Bs := numsW [c.kind] ++ (if c.kind = 4 then textsW [c.name.data.toList] else if c.kind = 5 then bodyW c.body else if c.kind = 3 then boolW c.gone ++ (if c.gone then [] else bodyW c.body) else numsW [c.n])

def pcsR : Nat → St → List Piece × St
  | 0, st => ([], st)
  | k + 1, st => if st.2 ≠ 0 then ([], st) else
      (⟨(numR 4096 st).1, (numR big (numR 4096 st).2).1, (numR 32768 (numR big (numR 4096 st).2).2).1⟩ :: (pcsR k (numR 32768 (numR big (numR 4096 st).2).2).2).1, (pcsR k (numR 32768 (numR big (numR 4096 st).2).2).2).2)
def unbR (st : St) : Body × St :=
  if (boolR (numR 32768 st).2).1 = false then (⟨(numR 32768 st).1, bs (textR 64 (boolR (numR 32768 st).2).2).1, []⟩, (textR 64 (boolR (numR 32768 st).2).2).2)
  else (⟨(numR 32768 st).1, ⟨#[]⟩, (pcsR (numR 512 (boolR (numR 32768 st).2).2).1 (numR 512 (boolR (numR 32768 st).2).2).2).1⟩, (pcsR (numR 512 (boolR (numR 32768 st).2).2).1 (numR 512 (boolR (numR 32768 st).2).2).2).2)
def cellR2 (k : Nat) (st : St) : Cel × St :=
  if k = 4 then ({ Cel.zero with kind := k, name := bs (textR 200 st).1 }, (textR 200 st).2)
  else if k = 5 then ({ Cel.zero with kind := k, body := (unbR st).1 }, (unbR st).2)
  else if k = 3 then (if (boolR st).1 then ({ Cel.zero with kind := k, gone := true }, (boolR st).2) else ({ Cel.zero with kind := k, body := (unbR (boolR st).2).1 }, (unbR (boolR st).2).2))
  else ({ Cel.zero with kind := k, n := (numR big st).1 }, (numR big st).2)
def cellR (s : Bs) : Cel × St := cellR2 (numR 6 (s, 0)).1 (numR 6 (s, 0)).2

theorem numR_le (m x : Nat) (hx : x < 18446744073709551616) (hm : x ≤ m) (s : Bs) : numR m (up x ++ s, 0) = (x, (s, 0)) := by
  have h := read_up x s hx
  simp only [numR, h]
  rw [if_neg (by simp), if_neg (by simp), if_neg (by omega)]
  simp
theorem numsW_one (x : Nat) : numsW [x] = up x := by simp [numsW]
theorem textsW_one (t : Bs) : textsW [t] = textW t := by simp [textsW]
theorem textR_le (m : Int) (t s : Bs) (ht : t.length < 18446744073709551616) (hm : (t.length : Int) ≤ m) : textR m (textW t ++ s, 0) = (t, (s, 0)) := by
  have h := read_up t.length (t ++ s) ht
  have hc : countF (textW t ++ s) m = (t.length, (up t.length).length, 0) := by
    unfold countF textW
    rw [List.append_assoc, h]
    rw [if_neg (by simp), if_neg (by simp only; omega), if_neg (by simp only [List.length_append]; omega)]
  unfold textR
  simp only [hc]
  rw [if_neg (by simp), if_neg (by simp)]
  simp only [textW, List.append_assoc, List.drop_append, List.drop_length, List.nil_append, Nat.sub_self, List.drop_zero, List.take_left']
  simp

theorem pcsR_back : ∀ (ps : List Piece) (left : Int) (t : Bs), left ≤ 32768 → sumOk left ps = true → pcsR ps.length (pcsW ps ++ t, 0) = (ps, (t, 0))
  | [], _, t, _, _ => rfl
  | p :: ps, left, t, hl, h => by
    unfold sumOk pcOk at h
    simp only [Bool.and_eq_true, decide_eq_true_eq] at h
    obtain ⟨⟨⟨h1, h2⟩, h3⟩, h4⟩ := h
    have ih := pcsR_back ps (left - p.len) t (by omega) h4
    have hb : big = 281474976710656 := rfl
    have e1 : pcsW (p :: ps) ++ t = up p.row.toNat ++ (up p.stamp ++ (up p.len.toNat ++ (pcsW ps ++ t))) := by
      simp [pcsW, pcW, numsW]
    have r1 := numR_le 4096 p.row.toNat (by omega) (by omega) (up p.stamp ++ (up p.len.toNat ++ (pcsW ps ++ t)))
    have r2 := numR_le big p.stamp (by omega) h2 (up p.len.toNat ++ (pcsW ps ++ t))
    have r3 := numR_le 32768 p.len.toNat (by omega) (by omega) (pcsW ps ++ t)
    rw [List.length_cons, pcsR, if_neg (by simp), e1, r1, r2, r3]
    simp only [ih]
    rw [Int.toNat_of_nonneg h1.1, Int.toNat_of_nonneg (by omega)]
theorem unbR_back (b : Body) (t : Bs) (h : mayBody b = true) : unbR (bodyW b ++ t, 0) = (b, (t, 0)) := by
  obtain ⟨len, inl, pcs⟩ := b
  unfold mayBody at h
  simp only [Bool.and_eq_true, decide_eq_true_eq] at h
  obtain ⟨h1, h2⟩ := h
  unfold bodyW
  simp only
  rw [numsW_one, List.append_assoc, List.append_assoc]
  unfold unbR
  rw [numR_le 32768 len.toNat (by omega) (by omega)]
  simp only [boolR_whole]
  by_cases hp : pcs.length = 0
  · rw [if_pos hp] at h2
    simp only [Bool.and_eq_true, decide_eq_true_eq] at h2
    have hp' : pcs = [] := List.eq_nil_of_length_eq_zero hp
    subst hp'
    have hsz : inl.data.toList.length = inl.size := by simp
    rw [if_pos hp, textsW_one, if_pos (by simp), textR_le 64 _ _ (by omega) (by omega)]
    rw [Int.toNat_of_nonneg h1.1]
    rfl
  · rw [if_neg hp] at h2
    simp only [Bool.and_eq_true, decide_eq_true_eq] at h2
    have hd : decide (0 < pcs.length) = true := decide_eq_true (by omega)
    rw [if_neg hp, hd, if_neg (show ¬ (true = false) by decide), numsW_one, List.append_assoc, numR_le 512 _ (by omega) h2.1.2]
    simp only [pcsR_back pcs len t (by omega) h2.2]
    rw [Int.toNat_of_nonneg h1.1, h2.1.1]

/-- A cell's bytes are read as the cell, whatever stands behind. -/
theorem cellR_back (c : Cel) (t : Bs) (h : mayC c) : cellR (cellW c ++ t) = (c, (t, 0)) := by
  obtain ⟨⟨h1, h6⟩, hh, hn, hnm, hb⟩ := h
  have hbg : big = 281474976710656 := rfl
  unfold cellR cellW
  rw [numsW_one, List.append_assoc, numR_le 6 c.kind (by omega) h6]
  simp only
  unfold cellR2
  unfold hasC at hh
  have hsz : c.name.data.toList.length = c.name.size := by simp
  by_cases k4 : c.kind = 4
  · rw [if_pos k4, if_pos k4, textsW_one, textR_le 200 _ _ (by omega) (by omega)]
    rw [if_neg (by omega), if_pos k4] at hh
    show (_, (t, 0)) = (c, (t, 0))
    rw [show bs c.name.data.toList = c.name from rfl]
    rw [← hh]
  rw [if_neg k4, if_neg k4]
  rw [if_neg k4] at hh
  by_cases k5 : c.kind = 5
  · rw [if_pos k5, if_pos k5, unbR_back _ _ hb]
    rw [if_neg (by omega), if_pos k5] at hh
    show (_, (t, 0)) = (c, (t, 0))
    rw [← hh]
  rw [if_neg k5, if_neg k5]
  rw [if_neg k5] at hh
  by_cases k3 : c.kind = 3
  · rw [if_neg (by omega)] at hh
    rw [if_pos k3, if_pos k3]
    cases hg : c.gone
    · rw [hg, if_neg (show ¬ (false = true) by decide)] at hh
      rw [if_neg (show ¬ (false = true) by decide), List.append_assoc, boolR_whole]
      simp only
      rw [if_neg (show ¬ (false = true) by decide), unbR_back _ _ hb]
      show (_, (t, 0)) = (c, (t, 0))
      exact congrArg (fun x => (x, (t, 0))) hh.symm
    · rw [hg, if_pos rfl] at hh
      rw [if_pos rfl, List.append_nil, boolR_whole]
      simp only
      rw [if_pos trivial]
      show (_, (t, 0)) = (c, (t, 0))
      exact congrArg (fun x => (x, (t, 0))) hh.symm
  rw [if_neg k3, if_neg k3, numsW_one, numR_le big _ (by omega) hn]
  rw [if_pos (by omega)] at hh
  show (_, (t, 0)) = (c, (t, 0))
  rw [← hh]

/-- Of two cells' bytes neither begins the other's. -/
theorem cell_apart {c d : Cel} (hc : mayC c) (hd : mayC d) (t : Bs) (h : cellW d = cellW c ++ t) : t = [] := by
  have h1 := cellR_back c t hc
  have h2 := cellR_back d [] hd
  rw [List.append_nil, h, h1] at h2
  have := congrArg (fun x => x.2.1) h2
  exact this

end Go.Proofs.Ytaeiahkomdpcoaa.Cell
