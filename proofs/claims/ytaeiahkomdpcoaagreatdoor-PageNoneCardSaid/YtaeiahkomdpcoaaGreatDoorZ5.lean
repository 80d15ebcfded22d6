/- Texts merged into one: part 5 of 11. -/
import Derived.OwnWalk
import Derived.Lib.SlBytesRow
import Derived.Lib.ConvBytes
import Derived.Lib.SmallJoins
import Derived.Deep.RegionHeld3
import Derived.Laws.BitsAllLaws
import Derived.Deep.AppendLies
import Derived.Test.YtaeiahkomdpcoaaGreatDoorZ1
import Derived.Test.YtaeiahkomdpcoaaGreatDoorZ4

section
/- Keys' bytes: plain Lean, no program in sight. -/
namespace Go.Proofs.YtaeiahkomdpcoaaGreatDoor.Name

abbrev Bs := List UInt8
structure Key where
  kind : Nat
  bucket : ByteArray
  name : ByteArray
  n : Nat
  part : Int

def wordB (c : Nat) : Bool := decide (97 ≤ c ∧ c ≤ 122) || decide (48 ≤ c ∧ c ≤ 57)
/-- The bytes that a bucket's name may have. -/
def okCs : Bs := [97, 98, 99, 100, 101, 102, 103, 104, 105, 106, 107, 108, 109, 110, 111, 112, 113, 114, 115, 116, 117, 118, 119, 120, 121, 122, 48, 49, 50, 51, 52, 53, 54, 55, 56, 57, 45, 46]
def bucketL (l : Bs) : Bool := decide (1 ≤ l.length ∧ l.length ≤ 63) && wordB (l.getD 0 0).toNat && wordB (l.getD (l.length - 1) 0).toNat && l.all (okCs.contains ·)
def objectL (l : Bs) : Bool := decide (1 ≤ l.length ∧ l.length ≤ 200)
def hasB (k : Nat) : Bool := decide (2 ≤ k ∧ k ≤ 5)
def hasN (k : Nat) : Bool := decide (3 ≤ k ∧ k ≤ 6)
def mayB (k : Key) : Bool :=
  decide (1 ≤ k.kind ∧ k.kind ≤ 6) && (if hasB k.kind then bucketL k.bucket.data.toList else decide (k.bucket = ⟨#[]⟩)) && (if k.kind = 3 then objectL k.name.data.toList else decide (k.name = ⟨#[]⟩)) &&
    (hasN k.kind || decide (k.n = 0)) && (if k.kind = 5 then decide (1 ≤ k.part ∧ k.part ≤ 1000) else decide (k.part = 0))

def esc : Bs → Bs
  | [] => []
  | c :: l => if c = 0 then 0 :: 255 :: esc l else c :: esc l
/-- A number in so many bytes, the highest first. -/
def be : Nat → Nat → Bs
  | 0, _ => []
  | k + 1, n => be k (n / 256) ++ [UInt8.ofNat (n % 256)]
def top : Nat := 18446744073709551615
def encL (k : Key) : Bs :=
  UInt8.ofNat k.kind :: ((if hasB k.kind then k.bucket.data.toList ++ [0] else []) ++ ((if k.kind = 3 then esc k.name.data.toList ++ [0, 1] ++ be 8 (top - k.n) else if hasN k.kind then be 8 k.n else []) ++ (if k.kind = 5 then be 2 k.part.toNat else [])))

theorem be_length (k n : Nat) : (be k n).length = k := by
  induction k generalizing n with
  | zero => rfl
  | succ k ih => simp [be, ih]
theorem be_inj (k : Nat) : ∀ a b, a < 256 ^ k → b < 256 ^ k → be k a = be k b → a = b := by
  induction k with
  | zero => intro a b ha hb _; simp at ha hb; omega
  | succ k ih =>
    intro a b ha hb h
    simp only [be] at h
    obtain ⟨h1, h2⟩ := List.append_inj h (by rw [be_length, be_length])
    rw [Nat.pow_succ] at ha hb
    have h3 := ih (a / 256) (b / 256) (by omega) (by omega) h1
    have h4 : a % 256 = b % 256 := by
      have h5 : UInt8.ofNat (a % 256) = UInt8.ofNat (b % 256) := by simpa using h2
      have h6 := congrArg UInt8.toNat h5
      simp [UInt8.toNat_ofNat'] at h6
      omega
    omega
theorem pre_same {a b r s : Bs} (hl : a.length = b.length) (h : a ++ r <+: b ++ s) : a = b ∧ r <+: s := by
  obtain ⟨t, ht⟩ := h
  rw [List.append_assoc] at ht
  obtain ⟨h1, h2⟩ := List.append_inj ht hl
  exact ⟨h1, ⟨t, h2⟩⟩
theorem pre_cons {c d : UInt8} {r s : Bs} (h : c :: r <+: d :: s) : c = d ∧ r <+: s := by
  obtain ⟨t, ht⟩ := h
  simp at ht
  exact ⟨ht.1, ⟨t, ht.2⟩⟩
theorem pre_bucket : ∀ {x y r s : Bs}, (∀ c ∈ x, c ≠ 0) → (∀ c ∈ y, c ≠ 0) → x ++ 0 :: r <+: y ++ 0 :: s → x = y ∧ r <+: s
  | [], [], _, _, _, _, h => ⟨rfl, (pre_cons h).2⟩
  | [], d :: y, _, _, _, hy, h => absurd (pre_cons h).1.symm (hy d (by simp))
  | c :: x, [], _, _, hx, _, h => absurd (pre_cons h).1 (hx c (by simp))
  | c :: x, d :: y, _, _, hx, hy, h => by
    obtain ⟨rfl, h2⟩ := pre_cons h
    obtain ⟨rfl, h3⟩ := pre_bucket (fun e he => hx e (List.mem_cons_of_mem _ he)) (fun e he => hy e (List.mem_cons_of_mem _ he)) h2
    exact ⟨rfl, h3⟩
theorem pre_esc : ∀ {x y r s : Bs}, esc x ++ 0 :: 1 :: r <+: esc y ++ 0 :: 1 :: s → x = y ∧ r <+: s
  | [], [], _, _, h => ⟨rfl, (pre_cons (pre_cons h).2).2⟩
  | [], d :: y, _, _, h => by
    unfold esc at h
    split at h
    · exact absurd (pre_cons (pre_cons h).2).1 (by decide)
    · rename_i hd; exact absurd (pre_cons h).1.symm hd
  | c :: x, [], _, _, h => by
    unfold esc at h
    split at h
    · exact absurd (pre_cons (pre_cons h).2).1 (by decide)
    · rename_i hc; exact absurd (pre_cons h).1 hc
  | c :: x, d :: y, _, _, h => by
    unfold esc at h
    split at h
    · rename_i hc
      split at h
      · rename_i hd
        obtain ⟨rfl, h3⟩ := pre_esc (pre_cons (pre_cons h).2).2
        exact ⟨by rw [hc, hd], h3⟩
      · rename_i hd; exact absurd (pre_cons h).1.symm hd
    · rename_i hc
      split at h
      · exact absurd (pre_cons h).1 hc
      · obtain ⟨rfl, h2⟩ := pre_cons h
        obtain ⟨rfl, h3⟩ := pre_esc h2
        exact ⟨rfl, h3⟩

theorem okCs_nz : ∀ c ∈ okCs, c ≠ 0 := by decide
theorem bucket_nz {l : Bs} (h : bucketL l = true) : ∀ c ∈ l, c ≠ 0 := fun c hc => by
  unfold bucketL at h
  simp only [Bool.and_eq_true] at h
  have := List.all_eq_true.1 h.2 c hc
  exact okCs_nz c (by simpa using this)

/-- What holds of a key that may be. -/
theorem may_facts {k : Key} (h : mayB k = true) : (1 ≤ k.kind ∧ k.kind ≤ 6) ∧ (hasB k.kind = true → bucketL k.bucket.data.toList = true) ∧ (hasB k.kind = false → k.bucket = ⟨#[]⟩) ∧ (k.kind = 3 → objectL k.name.data.toList = true) ∧ (k.kind ≠ 3 → k.name = ⟨#[]⟩) ∧
    (hasN k.kind = false → k.n = 0) ∧ (k.kind = 5 → 1 ≤ k.part ∧ k.part ≤ 1000) ∧ (k.kind ≠ 5 → k.part = 0) := by
  unfold mayB at h
  simp only [Bool.and_eq_true, decide_eq_true_eq, Bool.or_eq_true] at h
  obtain ⟨⟨⟨⟨h1, h2⟩, h3⟩, h4⟩, h5⟩ := h
  refine ⟨h1, fun e => ?_, fun e => ?_, fun e => ?_, fun e => ?_, fun e => ?_, fun e => ?_, fun e => ?_⟩
  · rw [if_pos e] at h2; exact h2
  · rw [if_neg (by simp [e])] at h2; simpa using h2
  · rw [if_pos e] at h3; exact h3
  · rw [if_neg e] at h3; simpa using h3
  · rcases h4 with h4 | h4
    · rw [e] at h4; cases h4
    · exact h4
  · rw [if_pos e] at h5; simpa using h5
  · rw [if_neg e] at h5; simpa using h5

theorem ba_ext {a b : ByteArray} (h : a.data.toList = b.data.toList) : a = b := ByteArray.ext (Array.toList_inj.1 h)

/-- No key's bytes are the beginning of another one's. -/
theorem enc_apart {a b : Key} (ha : mayB a = true) (hb : mayB b = true) (na : a.n ≤ top) (nb : b.n ≤ top) (h : encL a <+: encL b) : a = b := by
  obtain ⟨ka, a1, a2, _, a4, a5, a6, a7⟩ := may_facts ha
  obtain ⟨kb, b1, b2, _, b4, b5, b6, b7⟩ := may_facts hb
  obtain ⟨ak, ab, an, ann, ap⟩ := a
  obtain ⟨bk, bb, bn, bnn, bp⟩ := b
  simp only at *
  unfold encL at h
  obtain ⟨h0, h⟩ := pre_cons h
  have hk : ak = bk := by
    have := congrArg UInt8.toNat h0
    simp only [UInt8.toNat_ofNat'] at this
    omega
  subst hk
  simp only at h
  have e8 : (256 : Nat) ^ 8 = 18446744073709551616 := by decide
  have e2 : (256 : Nat) ^ 2 = 65536 := by decide
  have hB : ab = bb ∧ ((if ak = 3 then esc an.data.toList ++ [0, 1] ++ be 8 (top - ann) else if hasN ak then be 8 ann else []) ++ (if ak = 5 then be 2 ap.toNat else [])) <+: ((if ak = 3 then esc bn.data.toList ++ [0, 1] ++ be 8 (top - bnn) else if hasN ak then be 8 bnn else []) ++ (if ak = 5 then be 2 bp.toNat else [])) := by
    cases hh : hasB ak
    · rw [hh] at h a2 b2
      rw [a2 rfl, b2 rfl]
      exact ⟨rfl, by simpa using h⟩
    · rw [hh] at h a1 b1
      simp only [if_true, List.append_assoc, List.singleton_append] at h
      obtain ⟨h1, h2⟩ := pre_bucket (bucket_nz (a1 rfl)) (bucket_nz (b1 rfl)) h
      exact ⟨ba_ext h1, by simpa using h2⟩
  obtain ⟨eB, g⟩ := hB
  clear h h0 ha hb
  subst eB
  by_cases h3 : ak = 3
  · subst h3
    simp only [if_true, List.append_assoc, List.cons_append, List.nil_append] at g
    obtain ⟨h1, h2⟩ := pre_esc g
    obtain ⟨h3, _⟩ := pre_same (by rw [be_length, be_length]) h2
    have h4 := be_inj 8 _ _ (by unfold top; omega) (by unfold top; omega) h3
    have : ann = bnn := by unfold top at h4 na nb; omega
    rw [ba_ext h1, this, a7 (by decide), b7 (by decide)]
  · rw [if_neg h3, if_neg h3] at g
    rw [a4 h3, b4 h3]
    have hN : ann = bnn ∧ (if ak = 5 then be 2 ap.toNat else []) <+: (if ak = 5 then be 2 bp.toNat else []) := by
      cases hh : hasN ak
      · rw [hh] at g a5 b5
        rw [a5 rfl, b5 rfl]
        exact ⟨rfl, by simpa using g⟩
      · rw [hh] at g
        simp only [if_true] at g
        obtain ⟨h1, h2⟩ := pre_same (by rw [be_length, be_length]) g
        exact ⟨be_inj 8 _ _ (by unfold top at na; omega) (by unfold top at nb; omega) h1, h2⟩
    obtain ⟨eN, g2⟩ := hN
    clear g
    subst eN
    by_cases h5 : ak = 5
    · rw [if_pos h5, if_pos h5] at g2
      have h6 : be 2 ap.toNat ++ [] <+: be 2 bp.toNat ++ [] := by simpa using g2
      obtain ⟨h1, _⟩ := pre_same (by rw [be_length, be_length]) h6
      have h7 := a6 h5
      have h8 := b6 h5
      have h9 := be_inj 2 _ _ (by omega) (by omega) h1
      have : ap = bp := by omega
      rw [this]
    · rw [a7 h5, b7 h5]

end Go.Proofs.YtaeiahkomdpcoaaGreatDoor.Name
end

section
/- The walks of package name: word, Object, Bucket, May. -/
namespace Go.Proofs.YtaeiahkomdpcoaaGreatDoor.Name
open Go.RowKit Go.Shelf

def bs (l : List UInt8) : ByteArray := ⟨l.toArray⟩
theorem bs_size (l : List UInt8) : (bs l).size = l.length := by simp [bs, ByteArray.size]
theorem size_list (s : ByteArray) : s.data.toList.length = s.size := by simp
theorem bs_append (a b : List UInt8) : bs a ++ bs b = bs (a ++ b) := by
  apply ByteArray.ext
  apply Array.toList_inj.1
  simp [bs]
theorem bs_list (s : ByteArray) : bs s.data.toList = s := rfl
theorem byte_at (s : ByteArray) (i : Nat) (h : i < s.size) : s.data.toList[i]? = some s[i] := by
  rw [List.getElem?_eq_getElem (by simpa using h)]; rfl
theorem getD_at (s : ByteArray) (i : Nat) (h : i < s.size) : s.data.toList.getD i 0 = s[i] := by
  rw [List.getD, byte_at s i h]; rfl
theorem empty_iff (s : ByteArray) : s.toList.isEmpty = decide (s = ⟨#[]⟩) := by
  rw [ByteArray.toList_eq]
  by_cases h : s = ⟨#[]⟩
  · subst h; rfl
  · rw [decide_eq_false h]
    cases hl : s.data.toList with
    | nil => exact absurd (ByteArray.ext (Array.toList_inj.1 (by simpa using hl))) h
    | cons a l => rfl

def Key.val (k : Key) : Value := .agg #[.int .u8 (k.kind : Int), .string k.bucket, .string k.name, .int .u64 (k.n : Int), .int .i64 k.part]

set_option maxRecDepth 100000 in
theorem word_calls (c : Nat) (w : World) : Calls Tryz.prog 27 #[.int .u8 (c : Int)] w fun e w' => e = .returned (.bool (wordB c)) ∧ w' = w := by
  have h : (97 ≤ c ∧ c ≤ 122 ∧ wordB c = true) ∨ (97 ≤ c ∧ 122 < c ∧ wordB c = false) ∨ (c < 97 ∧ 57 < c ∧ wordB c = false) ∨ (48 ≤ c ∧ c ≤ 57 ∧ wordB c = true) ∨ (c < 48 ∧ wordB c = false) := by
    unfold wordB
    simp only [Bool.or_eq_true, decide_eq_true_eq, Bool.or_eq_false_iff, decide_eq_false_iff_not]
    omega
  rcases h with ⟨h1, h2, h3⟩ | ⟨h1, h2, h3⟩ | ⟨h1, h2, h3⟩ | ⟨h1, h2, h3⟩ | ⟨h1, h3⟩
  all_goals
    rw [h3]
    clear h3
    go_enter Tryz.func27, Tryz.ntmps27
    go_wp2
    go_ret
    exact ⟨by simp <;> omega, rfl⟩

set_option maxRecDepth 100000 in
theorem object_calls (s : ByteArray) (w : World) (hs : s.size ≤ 9223372036854775807) : Calls Tryz.prog 22 #[.string s] w fun e w' => e = .returned (.bool (objectL s.data.toList)) ∧ w' = w := by
  have h : (s.size < 1 ∧ objectL s.data.toList = false) ∨ (1 ≤ s.size ∧ s.size ≤ 200 ∧ objectL s.data.toList = true) ∨ (1 ≤ s.size ∧ 200 < s.size ∧ objectL s.data.toList = false) := by
    unfold objectL
    rw [size_list]
    simp only [decide_eq_true_eq, decide_eq_false_iff_not]
    omega
  rcases h with ⟨h1, h3⟩ | ⟨h1, h2, h3⟩ | ⟨h1, h2, h3⟩
  all_goals
    rw [h3]
    clear h3
    go_enter Tryz.func22, Tryz.ntmps22
    go_wp2
    go_ret
    exact ⟨by simp <;> omega, rfl⟩

end Go.Proofs.YtaeiahkomdpcoaaGreatDoor.Name
end

section
/- The walk of package name's Bucket. -/
namespace Go.Proofs.YtaeiahkomdpcoaaGreatDoor.Name
open Go.RowKit Go.Shelf

theorem dw_nil (p : UInt8 → Bool) : ∀ l : Bs, l.dropWhile p = [] ↔ ∀ x ∈ l, p x = true
  | [] => by simp
  | c :: l => by
    rw [List.dropWhile_cons]
    split
    · rename_i h
      rw [dw_nil p l]
      constructor
      · intro h2 x hx
        rcases List.mem_cons.1 hx with rfl | hx
        · exact h
        · exact h2 x hx
      · intro h2 x hx; exact h2 x (List.mem_cons_of_mem _ hx)
    · rename_i h
      constructor
      · intro h2; cases h2
      · intro h2; exact absurd (h2 c (by simp)) h
theorem dw_all (p : UInt8 → Bool) : ∀ l : Bs, (∀ x ∈ l.dropWhile p, p x = true) → ∀ x ∈ l, p x = true
  | [], _ => by simp
  | c :: l, h => by
    rw [List.dropWhile_cons] at h
    split at h
    · rename_i hc
      intro x hx
      rcases List.mem_cons.1 hx with rfl | hx
      · exact hc
      · exact dw_all p l h x hx
    · exact h
theorem trim_nil (l cs : Bs) : (Lib.trimS l cs = []) ↔ l.all (cs.contains ·) = true := by
  unfold Lib.trimS Lib.trimRightS Lib.trimLeftS
  rw [dw_nil, List.all_eq_true]
  constructor
  · intro h x hx
    exact dw_all _ l.reverse (fun y hy => h y (List.mem_reverse.2 hy)) x (List.mem_reverse.2 hx)
  · intro h x hx
    have h1 := List.mem_reverse.1 hx
    exact h x (List.mem_reverse.1 ((List.dropWhile_suffix _).subset h1))

theorem trim_calls (s : ByteArray) (w : World) (hs : s.size ≤ 9223372036854775807) :
    Calls Tryz.prog 28 #[.string s, .string ⟨#[97, 98, 99, 100, 101, 102, 103, 104, 105, 106, 107, 108, 109, 110, 111, 112, 113, 114, 115, 116, 117, 118, 119, 120, 121, 122, 48, 49, 50, 51, 52, 53, 54, 55, 56, 57, 45, 46]⟩] w fun e w' => e = .returned (.string (bs (Lib.trimS s.data.toList okCs))) ∧ Below w.heap.size w w' :=
  Any.strings_Trim_laid Tryz.lays160 (by kernel_rfl) s _ w hs (by decide) (ascii_of_all (by decide))

theorem bs_empty (l : Bs) (b : Bool) (h : (l = []) ↔ b = true) : (bs l).toList.isEmpty = b := by
  rw [empty_iff]
  cases b
  · rw [decide_eq_false_iff_not]
    intro e
    have : l = [] := congrArg (fun x : ByteArray => x.data.toList) e
    exact absurd (h.1 this) (by simp)
  · rw [decide_eq_true_iff, h.2 rfl]; rfl

set_option maxHeartbeats 1600000 in
set_option maxRecDepth 100000 in
theorem bucket_calls (s : ByteArray) (w : World) (hs : s.size ≤ 9223372036854775807) : Calls Tryz.prog 13 #[.string s] w fun e w' => e = .returned (.bool (bucketL s.data.toList)) ∧ Below w.heap.size w w' := by
  by_cases h1 : s.size < 1
  · have h3 : bucketL s.data.toList = false := by unfold bucketL; rw [size_list, decide_eq_false (by omega)]; rfl
    rw [h3]
    clear h3
    go_enter Tryz.func13, Tryz.ntmps13
    go_wp2
    go_ret
    exact ⟨rfl, Below.refl _ _⟩
  by_cases h2 : 63 < s.size
  · have h3 : bucketL s.data.toList = false := by unfold bucketL; rw [size_list, decide_eq_false (by omega)]; rfl
    rw [h3]
    clear h3
    go_enter Tryz.func13, Tryz.ntmps13
    go_wp2
    go_ret
    exact ⟨rfl, Below.refl _ _⟩
  have h0 : 0 < s.size := by omega
  have hl : s.size - 1 < s.size := by omega
  have hlw : IntKind.i64.wrap ((s.size : Int) - 1) = (s.size : Int) - 1 := IntWalk.i64_in _ (by omega)
  have hl2 : ((s.size : Int) - 1).toNat = s.size - 1 := by omega
  have hl0 : (0 : Int) ≤ (s.size : Int) - 1 := by omega
  have hl1 : (s.size : Int) - 1 < (s.size : Int) := by omega
  obtain ⟨c0, hc0⟩ : ∃ c, c = s[0].toNat := ⟨_, rfl⟩
  obtain ⟨c1, hc1⟩ : ∃ c, c = s[s.size - 1].toNat := ⟨_, rfl⟩
  have hb : Hid (bucketL s.data.toList = (wordB c0 && wordB c1 && s.data.toList.all (okCs.contains ·))) := by
    show _ = _
    unfold bucketL
    rw [size_list, decide_eq_true (by omega), getD_at s 0 h0, getD_at s (s.size - 1) hl, ← hc0, ← hc1, Bool.true_and]
  have HW0 := Lib.hid (word_calls c0)
  have HW1 := Lib.hid (word_calls c1)
  have HT := Lib.hid (fun W => trim_calls s W hs)
  have hE := Lib.hid (bs_empty _ _ (trim_nil s.data.toList okCs))
  obtain ⟨ab, hab⟩ : ∃ b, b = s.data.toList.all (okCs.contains ·) := ⟨_, rfl⟩
  obtain ⟨y, hy⟩ : ∃ y, y = bs (Lib.trimS s.data.toList okCs) := ⟨_, rfl⟩
  simp only [← hy] at HT
  rw [← hy, ← hab] at hE
  rw [← hab] at hb
  rw [hb.out]
  clear hb hab hy
  cases hw0 : wordB c0
  · rw [hw0] at HW0
    clear hw0
    go_enter Tryz.func13, Tryz.ntmps13
    go_wp2_with fail
    rw [← hc0]
    refine (HW0.out _).mono ?_
    rintro e w1 ⟨rfl, rfl⟩
    go_wp2
    go_ret
    exact ⟨rfl, Below.refl _ _⟩
  · rw [hw0] at HW0
    clear hw0
    cases hw1 : wordB c1
    · rw [hw1] at HW1
      clear hw1
      go_enter Tryz.func13, Tryz.ntmps13
      go_wp2_with fail
      rw [← hc0]
      refine (HW0.out _).mono ?_
      rintro e w1 ⟨rfl, rfl⟩
      go_wp2_with fail
      rw [← hc1]
      refine (HW1.out _).mono ?_
      rintro e w1 ⟨rfl, rfl⟩
      go_wp2
      go_ret
      exact ⟨rfl, Below.refl _ _⟩
    · rw [hw1] at HW1
      clear hw1
      go_enter Tryz.func13, Tryz.ntmps13
      go_wp2_with fail
      rw [← hc0]
      refine (HW0.out _).mono ?_
      rintro e w1 ⟨rfl, rfl⟩
      go_wp2_with fail
      rw [← hc1]
      refine (HW1.out _).mono ?_
      rintro e w1 ⟨rfl, rfl⟩
      go_wp2_with fail
      refine (HT.out _).mono ?_
      rintro e w1 ⟨rfl, hbw⟩
      have hE' := hE.out
      go_wp2
      go_ret
      exact ⟨rfl, hbw⟩

end Go.Proofs.YtaeiahkomdpcoaaGreatDoor.Name
end

section
/- The walks of package name's has and May. -/
namespace Go.Proofs.YtaeiahkomdpcoaaGreatDoor.Name
open Go.RowKit Go.Shelf

theorem results_tmp4 {fn : Func} {t u v x : Tmp} (h : fn.results = #[.tmp t, .tmp u, .tmp v, .tmp x]) (tmps : Array Value) (P : Program) (w : World) :
    (results fn tmps).run P w = .ok (.tuple #[tmps.getD t undef, tmps.getD u undef, tmps.getD v undef, tmps.getD x undef]) w := by
  simp [results, h]

/-- A key's texts are no longer than a machine's. -/
def Key.fits (k : Key) : Prop := k.bucket.size ≤ 4096 ∧ k.name.size ≤ 4096 ∧ k.kind < 256 ∧ k.n ≤ top

def hasV (k : Nat) : Value := .tuple #[.bool (hasB k), .bool (decide (k = 3)), .bool (hasN k), .bool (decide (k = 5))]

set_option maxHeartbeats 3200000 in
set_option maxRecDepth 100000 in
theorem has_calls (k : Nat) (w : World) : Calls Tryz.prog 36 #[.int .u8 (k : Int)] w fun e w' => e = .returned (hasV k) ∧ w' = w := by
  by_cases h : 2 ≤ k ∧ k ≤ 6
  · obtain rfl | rfl | rfl | rfl | rfl : k = 2 ∨ k = 3 ∨ k = 4 ∨ k = 5 ∨ k = 6 := by omega
    all_goals
      clear h
      go_enter Tryz.func36, Tryz.ntmps36
      go_wp2
      (try simp only [Exit.inBlock, Exit.then])
      refine bodyPost_ret (results_tmp4 rfl _ _ _) rfl ?_
      exact ⟨rfl, rfl⟩
  · have e1 : hasV k = .tuple #[.bool false, .bool false, .bool false, .bool false] := by
      unfold hasV hasB hasN
      rw [decide_eq_false (by omega), decide_eq_false (by omega), decide_eq_false (by omega), decide_eq_false (by omega)]
    rw [e1]
    have n2 : ((k : Int) == 2) = false := by rw [beq_eq_false_iff_ne]; omega
    have n3 : ((k : Int) == 3) = false := by rw [beq_eq_false_iff_ne]; omega
    have n4 : ((k : Int) == 4) = false := by rw [beq_eq_false_iff_ne]; omega
    have n5 : ((k : Int) == 5) = false := by rw [beq_eq_false_iff_ne]; omega
    have n6 : ((k : Int) == 6) = false := by rw [beq_eq_false_iff_ne]; omega
    clear h e1
    go_enter Tryz.func36, Tryz.ntmps36
    go_wp2
    (try simp only [Exit.inBlock, Exit.then])
    refine bodyPost_ret (results_tmp4 rfl _ _ _) rfl ?_
    exact ⟨rfl, rfl⟩

theorem mayB_out {k : Key} (hk : k.kind = 0 ∨ 6 < k.kind) : mayB k = false := by
  unfold mayB; rw [decide_eq_false (by omega)]; rfl

set_option maxHeartbeats 3200000 in
set_option maxRecDepth 100000 in
theorem may_out (k : Key) (w : World) (hk : k.kind = 0 ∨ 6 < k.kind) : Calls Tryz.prog 35 #[k.val] w fun e w' => e = .returned (.bool false) ∧ Below w.heap.size w w' := by
  obtain ⟨kd, kb, kn, nn, pp⟩ := k
  unfold Key.val
  simp only at hk ⊢
  have HH := Lib.hid (has_calls kd)
  unfold hasV at HH
  rcases hk with rfl | hk
  · go_enter Tryz.func35, Tryz.ntmps35
    go_wp2_with fail
    refine (HH.out _).mono ?_
    rintro e w1 ⟨rfl, rfl⟩
    go_wp2
    go_ret
    exact ⟨rfl, below_one _ _⟩
  · go_enter Tryz.func35, Tryz.ntmps35
    go_wp2_with fail
    refine (HH.out _).mono ?_
    rintro e w1 ⟨rfl, rfl⟩
    go_wp2
    go_ret
    exact ⟨rfl, below_one _ _⟩

/-- The tests' outcomes behind each kind. -/
theorem may_in (k : Key) (h1 : 1 ≤ k.kind) (h6 : k.kind ≤ 6) : mayB k = ((if hasB k.kind then bucketL k.bucket.data.toList else decide (k.bucket = ⟨#[]⟩)) && (if k.kind = 3 then objectL k.name.data.toList else decide (k.name = ⟨#[]⟩)) &&
    (hasN k.kind || decide (k.n = 0)) && (if k.kind = 5 then decide (1 ≤ k.part) && decide (k.part ≤ 1000) else decide (k.part = 0))) := by
  unfold mayB
  rw [decide_eq_true ⟨h1, h6⟩, Bool.true_and]
  congr 1
  split
  · simp
  · rfl

set_option maxHeartbeats 6400000 in
set_option maxRecDepth 100000 in
theorem may_calls (k : Key) (w : World) (hf : k.fits) : Calls Tryz.prog 35 #[k.val] w fun e w' => e = .returned (.bool (mayB k)) ∧ Below w.heap.size w w' := by
  by_cases ho : k.kind = 0 ∨ 6 < k.kind
  · rw [mayB_out ho]; exact may_out k w ho
  rw [may_in k (by omega) (by omega)]
  obtain ⟨kd, kb, kn, nn, pp⟩ := k
  obtain ⟨hb4, hn4, _, _⟩ := hf
  unfold Key.val
  simp only at ho hb4 hn4 ⊢
  have HH := Lib.hid (has_calls kd)
  have HB := Lib.hid (fun W => bucket_calls kb W (by omega))
  have HO := Lib.hid (fun W => object_calls kn W (by omega))
  have hbe := empty_iff kb
  have hne := empty_iff kn
  have hnn : ((nn : Int) == 0) = decide (nn = 0) := by
    by_cases h : nn = 0
    · subst h; rfl
    · rw [decide_eq_false h, beq_eq_false_iff_ne]; omega
  have hpp : (pp == 0) = decide (pp = 0) := by
    by_cases h : pp = 0
    · subst h; rfl
    · rw [decide_eq_false h, beq_eq_false_iff_ne]; omega
  obtain ⟨xb, hxb⟩ : ∃ x, x = bucketL kb.data.toList := ⟨_, rfl⟩
  obtain ⟨xo, hxo⟩ : ∃ x, x = objectL kn.data.toList := ⟨_, rfl⟩
  obtain ⟨eb, heb⟩ : ∃ x, x = decide (kb = ⟨#[]⟩) := ⟨_, rfl⟩
  obtain ⟨en, hen⟩ : ∃ x, x = decide (kn = ⟨#[]⟩) := ⟨_, rfl⟩
  obtain ⟨zn, hzn⟩ : ∃ x, x = decide (nn = 0) := ⟨_, rfl⟩
  obtain ⟨zp, hzp⟩ : ∃ x, x = decide (pp = 0) := ⟨_, rfl⟩
  simp only [← hxb] at HB
  simp only [← hxo] at HO
  rw [← heb] at hbe
  rw [← hen] at hne
  rw [← hzn] at hnn
  rw [← hzp] at hpp
  rw [← hxb, ← hxo, ← heb, ← hen, ← hzn, ← hzp]
  clear hxb hxo heb hen hzn hzp
  unfold hasV at HH
  obtain rfl | rfl | rfl | rfl | rfl | rfl : kd = 1 ∨ kd = 2 ∨ kd = 3 ∨ kd = 4 ∨ kd = 5 ∨ kd = 6 := by omega
  · cases eb <;> cases en <;> cases zn
    all_goals
      go_enter Tryz.func35, Tryz.ntmps35
      go_wp2_with fail
      refine (HH.out _).mono ?_
      rintro e w1 ⟨rfl, rfl⟩
      go_wp2
      go_ret
      exact ⟨rfl, below_one _ _⟩
  · cases xb <;> cases en <;> cases zn
    all_goals
      go_enter Tryz.func35, Tryz.ntmps35
      go_wp2_with fail
      refine (HH.out _).mono ?_
      rintro e w1 ⟨rfl, rfl⟩
      go_wp2_with fail
      refine (HB.out _).mono ?_
      rintro e w2 ⟨rfl, hb2⟩
      have q2 : w2.cell? ⟨w.heap.size, 2, none⟩ = some (.string kn) := (hb2.cell (p := ⟨w.heap.size, 2, none⟩) (by simp)).trans (by simp)
      have q3 : w2.cell? ⟨w.heap.size, 3, none⟩ = some (.int .u64 (nn : Int)) := (hb2.cell (p := ⟨w.heap.size, 3, none⟩) (by simp)).trans (by simp)
      have q4 : w2.cell? ⟨w.heap.size, 4, none⟩ = some (.int .i64 pp) := (hb2.cell (p := ⟨w.heap.size, 4, none⟩) (by simp)).trans (by simp)
      go_wp2
      go_ret
      exact ⟨rfl, below_of (below_one _ _) hb2⟩
  · cases xb <;> cases xo
    all_goals
      go_enter Tryz.func35, Tryz.ntmps35
      go_wp2_with fail
      refine (HH.out _).mono ?_
      rintro e w1 ⟨rfl, rfl⟩
      go_wp2_with fail
      refine (HB.out _).mono ?_
      rintro e w2 ⟨rfl, hb2⟩
      have q2 : w2.cell? ⟨w.heap.size, 2, none⟩ = some (.string kn) := (hb2.cell (p := ⟨w.heap.size, 2, none⟩) (by simp)).trans (by simp)
      have q3 : w2.cell? ⟨w.heap.size, 3, none⟩ = some (.int .u64 (nn : Int)) := (hb2.cell (p := ⟨w.heap.size, 3, none⟩) (by simp)).trans (by simp)
      have q4 : w2.cell? ⟨w.heap.size, 4, none⟩ = some (.int .i64 pp) := (hb2.cell (p := ⟨w.heap.size, 4, none⟩) (by simp)).trans (by simp)
      go_wp2_with (go_at_call 22; refine (HO.out _).mono ?_; rintro e w3 ⟨rfl, rfl⟩)
      go_ret
      exact ⟨rfl, below_of (below_one _ _) hb2⟩
  · cases xb <;> cases en
    all_goals
      go_enter Tryz.func35, Tryz.ntmps35
      go_wp2_with fail
      refine (HH.out _).mono ?_
      rintro e w1 ⟨rfl, rfl⟩
      go_wp2_with fail
      refine (HB.out _).mono ?_
      rintro e w2 ⟨rfl, hb2⟩
      have q2 : w2.cell? ⟨w.heap.size, 2, none⟩ = some (.string kn) := (hb2.cell (p := ⟨w.heap.size, 2, none⟩) (by simp)).trans (by simp)
      have q3 : w2.cell? ⟨w.heap.size, 3, none⟩ = some (.int .u64 (nn : Int)) := (hb2.cell (p := ⟨w.heap.size, 3, none⟩) (by simp)).trans (by simp)
      have q4 : w2.cell? ⟨w.heap.size, 4, none⟩ = some (.int .i64 pp) := (hb2.cell (p := ⟨w.heap.size, 4, none⟩) (by simp)).trans (by simp)
      go_wp2
      go_ret
      exact ⟨rfl, below_of (below_one _ _) hb2⟩
  · by_cases p1 : 1 ≤ pp
    · rw [decide_eq_true p1]
      cases xb <;> cases en
      all_goals
        go_enter Tryz.func35, Tryz.ntmps35
        go_wp2_with fail
        refine (HH.out _).mono ?_
        rintro e w1 ⟨rfl, rfl⟩
        go_wp2_with fail
        refine (HB.out _).mono ?_
        rintro e w2 ⟨rfl, hb2⟩
        have q2 : w2.cell? ⟨w.heap.size, 2, none⟩ = some (.string kn) := (hb2.cell (p := ⟨w.heap.size, 2, none⟩) (by simp)).trans (by simp)
        have q3 : w2.cell? ⟨w.heap.size, 3, none⟩ = some (.int .u64 (nn : Int)) := (hb2.cell (p := ⟨w.heap.size, 3, none⟩) (by simp)).trans (by simp)
        have q4 : w2.cell? ⟨w.heap.size, 4, none⟩ = some (.int .i64 pp) := (hb2.cell (p := ⟨w.heap.size, 4, none⟩) (by simp)).trans (by simp)
        go_wp2
        go_ret
        exact ⟨rfl, below_of (below_one _ _) hb2⟩
    · rw [decide_eq_false p1]
      cases xb <;> cases en
      all_goals
        go_enter Tryz.func35, Tryz.ntmps35
        go_wp2_with fail
        refine (HH.out _).mono ?_
        rintro e w1 ⟨rfl, rfl⟩
        go_wp2_with fail
        refine (HB.out _).mono ?_
        rintro e w2 ⟨rfl, hb2⟩
        have q2 : w2.cell? ⟨w.heap.size, 2, none⟩ = some (.string kn) := (hb2.cell (p := ⟨w.heap.size, 2, none⟩) (by simp)).trans (by simp)
        have q3 : w2.cell? ⟨w.heap.size, 3, none⟩ = some (.int .u64 (nn : Int)) := (hb2.cell (p := ⟨w.heap.size, 3, none⟩) (by simp)).trans (by simp)
        have q4 : w2.cell? ⟨w.heap.size, 4, none⟩ = some (.int .i64 pp) := (hb2.cell (p := ⟨w.heap.size, 4, none⟩) (by simp)).trans (by simp)
        go_wp2
        go_ret
        exact ⟨rfl, below_of (below_one _ _) hb2⟩
  · cases eb <;> cases en
    all_goals
      go_enter Tryz.func35, Tryz.ntmps35
      go_wp2_with fail
      refine (HH.out _).mono ?_
      rintro e w1 ⟨rfl, rfl⟩
      go_wp2
      go_ret
      exact ⟨rfl, below_one _ _⟩

end Go.Proofs.YtaeiahkomdpcoaaGreatDoor.Name
end

section
/- The walk of package name's bytes. -/
namespace Go.Proofs.YtaeiahkomdpcoaaGreatDoor.Name
open Go.RowKit Go.Shelf

theorem run_make_rowN {P : Program} (t e : TypeId) (i : TypeInfo) (z : Value) (ht : P.underlying t = some (.slice e)) (hi : P.info? e = some i) (hz : i.zero = some z)
    (kl kc : IntKind) (n c : Nat) (hnc : n ≤ c) (hbytes : i.bytes * c ≤ 281474976710656) (h63 : c ≤ 9223372036854775807) (w : World) :
    (Instr.makeSlice t (.int kl (n : Int)) (.int kc (c : Int))).run P w = .ok (.slice (some ⟨w.heap.size, 0, none⟩) n c) (w.alloc (.cells (madeCells z.cells (c * i.size)) e)) := by
  have hb : (i.bytes : Int) * (c : Int) ≤ 281474976710656 := by
    have h : ((i.bytes * c : Nat) : Int) ≤ 281474976710656 := by omega
    rwa [Int.natCast_mul] at h
  have hr := run_make (P := P) w t e i z ht hi hz kl kc n c (by omega) (by omega) hb (by omega)
  simp only [Int.toNat_natCast] at hr
  exact hr
theorem infoByte : (Tryz.prog.info? 5).map (fun i => (i.zero, i.size, i.bytes)) = some (some (.int .u8 0), 1, 1) := by kernel_rfl

/-- A row of bytes at the head of block B, none frozen. -/
def RowAt (w : World) (B : Nat) (l : List UInt8) : Prop := ∀ i c, l[i]? = some c → w.cell? ⟨B, i, none⟩ = some (.int .u8 (c.toNat : Int)) ∧ w.frozen? ⟨B, i, none⟩ = false
theorem RowAt.set {w : World} {B : Nat} {l : List UInt8} (h : RowAt w B l) (i : Nat) (hi : i < l.length) (c : UInt8) : RowAt (w.setCell ⟨B, i, none⟩ (.int .u8 (c.toNat : Int))) B (l.set i c) := by
  intro j d hd
  by_cases hij : i = j
  · subst hij
    have hd' : d = c := by rw [List.getElem?_set_self hi] at hd; exact (Option.some.inj hd).symm
    subst hd'
    obtain ⟨h1, h2⟩ := h i _ (List.getElem?_eq_getElem hi)
    exact ⟨World.cell?_setCell_same _ _ _ h1, by rw [World.frozen?_setCell]; exact h2⟩
  · rw [List.getElem?_set_ne hij] at hd
    obtain ⟨h1, h2⟩ := h j d hd
    refine ⟨?_, by rw [World.frozen?_setCell]; exact h2⟩
    rw [World.cell?_setCell_other]
    · exact h1
    · intro e; injection e with _ e2 _; exact hij e2
theorem RowAt.bytes {w : World} {B : Nat} {l : List UInt8} (h : RowAt w B l) : Lib.Bytes w B 0 (bs l) := by
  intro i hi
  have hl : i < l.length := by rw [bs_size] at hi; exact hi
  have := (h i _ (List.getElem?_eq_getElem hl)).1
  rw [Nat.zero_add]
  exact this
theorem rowAt_made (w : World) (N : Nat) (t : TypeId) : RowAt (w.alloc (.cells (madeCells #[.int .u8 0] N) t)) w.heap.size (List.replicate N 0) := by
  intro i c hc
  rw [List.getElem?_replicate] at hc
  split at hc
  · rename_i hi
    cases hc
    have hblk : (w.alloc (.cells (madeCells #[.int .u8 0] N) t)).heap[w.heap.size]? = some (.cells (madeCells #[.int .u8 0] N) t (0, 0)) := (MapKept.heap_alloc w _).1
    exact ⟨by rw [Joins.cell_of_block hblk, ← Array.getElem?_toList, toList_madeCells_one, List.getElem?_replicate, if_pos (by omega)]; rfl, by rw [World.frozen?, hblk]; rfl⟩
  · cases hc
theorem conv_row (w : World) (B : Nat) (l : List UInt8) (n cap : Nat) (hn : n = l.length) (h : RowAt w B l) :
    (convert 82 9 (.slice (some ⟨B, 0, none⟩) n cap)).run Tryz.prog w = .ok (.string (bs l)) w := by
  have h2 := Lib.run_convert_whole (P := Tryz.prog) w 82 5 9 Tryz.underlying82 Tryz.underlying5 Tryz.underlying9 B 0 (bs l) h.bytes cap
  rw [bs_size, ← hn] at h2
  exact h2

theorem be_cons (k n : Nat) : be (k + 1) n = UInt8.ofNat (n / 256 ^ k % 256) :: be k n := by
  induction k generalizing n with
  | zero => simp [be]
  | succ k ih =>
    rw [be, ih (n / 256), be, List.cons_append]
    congr 3
    rw [Nat.div_div_eq_div_mul, Nat.pow_succ, Nat.mul_comm]
def part8 (N n i : Nat) : Bs := List.replicate (N - i) 0 ++ be i n
theorem part8_length (N n i : Nat) (h : i ≤ N) : (part8 N n i).length = N := by simp [part8, be_length]; omega
theorem part8_next (N n i : Nat) (h : i < N) : (part8 N n i).set (N - 1 - i) (UInt8.ofNat (n / 256 ^ i % 256)) = part8 N n (i + 1) := by
  unfold part8
  obtain ⟨m, hm⟩ : ∃ m, N - i = m + 1 := ⟨N - i - 1, by omega⟩
  have h1 : N - 1 - i = m := by omega
  have h2 : N - (i + 1) = m := by omega
  rw [h1, h2, hm, be_cons, List.replicate_succ', List.append_assoc, List.set_append_right _ _ (by simp)]
  simp

set_option maxHeartbeats 1600000 in
set_option maxRecDepth 100000 in
theorem bytes_calls (n N : Nat) (w : World) (hN : N ≤ 8) : Calls Tryz.prog 38 #[.int .u64 (n : Int), .int .i64 (N : Int)] w fun e w' => e = .returned (.string (bs (be N n))) ∧ Below w.heap.size w w' := by
  obtain ⟨i0, hi, hz0, hz1, hz2⟩ := info_parts infoByte
  have hmk : ∀ W : World, (Instr.makeSlice 82 (.int .i64 (N : Int)) (.int .i64 (N : Int))).run Tryz.prog W = .ok (.slice (some ⟨W.heap.size, 0, none⟩) N N) (W.alloc (.cells (madeCells #[.int .u8 0] N) 5)) := fun W => by
    have := run_make_rowN (P := Tryz.prog) 82 5 i0 (.int .u8 0) Tryz.underlying82 hi hz0 .i64 .i64 N N (Nat.le_refl _) (by rw [hz2]; omega) (by omega) W
    rw [hz1, Nat.mul_one] at this
    exact this
  clear hi hz0 hz1 hz2
  have hR0 := rowAt_made w N 5
  have hb0 := below_one w (.cells (madeCells #[.int .u8 0] N) 5)
  go_enter Tryz.func38, Tryz.ntmps38
  go_wp2
  go_loopw [11] (fun iv wr => ∃ k : Nat, k ≤ N ∧ iv = .int .i64 k ∧ RowAt wr w.heap.size (part8 N n k) ∧ Below w.heap.size w wr) (fun iv _ => N - (intOf iv).toNat)
  case atStart => exact ⟨0, by omega, rfl, by simpa [part8, be] using hR0, hb0⟩
  case round =>
    obtain ⟨k, hk, rfl, hR, hb⟩ := hrel
    by_cases hlt : k < N
    · have hlen := part8_length N n k hk
      obtain ⟨c, hc⟩ : ∃ c, c = (part8 N n k)[N - 1 - k]'(by omega) := ⟨_, rfl⟩
      obtain ⟨hcell, hfz⟩ := hR (N - 1 - k) c (by rw [hc]; exact List.getElem?_eq_getElem (by omega))
      have q1 : IntKind.i64.wrap ((N : Int) - 1) = (N : Int) - 1 := IntWalk.i64_in _ (by omega)
      have q2 : IntKind.i64.wrap ((N : Int) - 1 - (k : Int)) = (N : Int) - 1 - (k : Int) := IntWalk.i64_in _ (by omega)
      have q3 : IntKind.i64.wrap (8 * (k : Int)) = 8 * (k : Int) := IntWalk.i64_in _ (by omega)
      have q4 : ((N : Int) - 1 - (k : Int)).toNat = N - 1 - k := by omega
      have q5 : (0 : Int) ≤ (N : Int) - 1 - (k : Int) := by omega
      have q6 : (N : Int) - 1 - (k : Int) < (N : Int) := by omega
      clear hc hlen
      go_wp2
      go_roundw
      case rel =>
        have e1 : (2 : Int) ^ (8 * k) = ((256 ^ k : Nat) : Int) := by
          have e2 : ((2 ^ (8 * k) : Nat) : Int) = (2 : Int) ^ (8 * k) := by simp
          rw [← e2, Nat.pow_mul]
        have e3 : (n : Int) / 2 ^ (8 * k) % 256 = ((UInt8.ofNat (n / 256 ^ k % 256)).toNat : Int) := by
          rw [e1]; simp [UInt8.toNat_ofNat']
        refine ⟨k + 1, by omega, by go_num, ?_, below_set hb (by simp) _⟩
        rw [e3, ← part8_next N n k hlt]
        exact hR.set _ (by rw [part8_length N n k hk]; omega) _
      case measure => simp [intOf]; omega
    · obtain rfl : k = N := by omega
      have hcv := fun cap => conv_row wr w.heap.size (part8 k n k) k cap (part8_length k n k (Nat.le_refl _)).symm hR
      have e1 : part8 k n k = be k n := by simp [part8]
      rw [e1] at hcv
      go_wp2
      go_ret
      exact ⟨rfl, hb⟩

end Go.Proofs.YtaeiahkomdpcoaaGreatDoor.Name
end

section
/- The walk of package name's Encode. -/
namespace Go.Proofs.YtaeiahkomdpcoaaGreatDoor.Name
open Go.RowKit Go.Shelf

theorem replaceK_esc : ∀ l : Bs, Lib.replaceK [0] [0, 255] (Lib.count l [0]) l = esc l
  | [] => by rw [Lib.count_miss (by simp [Lib.index])]; rfl
  | b :: l => by
    have ih := replaceK_esc l
    by_cases hb : b = 0
    · subst hb
      rw [Lib.count_cons_eq, Nat.add_comm, Lib.replaceK_hit [0] [0, 255] _ _ 0 (by rw [Lib.index]; simp [List.isPrefixOf])]
      simp only [List.take_zero, List.nil_append, List.length_singleton, Nat.zero_add, List.drop_succ_cons, List.drop_zero, ih, esc, if_true]
      rfl
    · rw [Lib.count_cons_ne b 0 l hb]
      have hp : ([0] : List UInt8).isPrefixOf (b :: l) = false := by simp [List.isPrefixOf, Ne.symm hb]
      obtain ⟨k, hk⟩ : ∃ k, Lib.count l [0] = k := ⟨_, rfl⟩
      rw [hk] at ih ⊢
      cases k with
      | zero =>
        rw [Lib.replaceK] at ih ⊢
        rw [esc, if_neg hb, ← ih]
      | succ k =>
        obtain ⟨i, hi⟩ := Lib.index_of_count (s := l) (old := [0]) (by omega)
        have hix : Lib.index (b :: l) [0] = ((i + 1 : Nat) : Int) := by
          rw [Lib.index, hp]
          simp [hi]
        rw [Lib.replaceK_hit _ _ _ _ _ hi] at ih
        rw [Lib.replaceK_hit _ _ _ _ _ hix, esc, if_neg hb, ← ih]
        simp
theorem replaceAll_esc (l : Bs) : Lib.replaceAll l [0] [0, 255] = esc l := by
  unfold Lib.replaceAll Lib.replace Lib.replaceNum
  rw [if_neg (by decide), if_pos (.inl (by decide))]
  exact replaceK_esc l
theorem esc_length (l : Bs) : (esc l).length ≤ 2 * l.length := by
  induction l with
  | nil => exact Nat.le_refl _
  | cons c l ih => unfold esc; split <;> simp only [List.length_cons] <;> omega

/-- A library's variable holds some number. -/
def Var0 (w : World) : Prop := ∃ m, w.cell? ⟨2, 0, none⟩ = some (.int .i64 m) ∧ 2 < w.heap.size
theorem Var0.below {w w' : World} (h : Var0 w) (hb : Below w.heap.size w w') : Var0 w' := by
  obtain ⟨m, h1, h2⟩ := h
  exact ⟨m, (hb.cell (p := ⟨2, 0, none⟩) h2).trans h1, Nat.lt_of_lt_of_le h2 hb.size⟩

theorem escape_calls (s : ByteArray) (w : World) (hv : Var0 w) (hs : s.size ≤ 4096) : Calls Tryz.prog 37 #[.string s, .string ⟨#[0]⟩, .string ⟨#[0, 255]⟩] w fun e w' => e = .returned (.string (bs (esc s.data.toList))) ∧ Below w.heap.size w w' := by
  obtain ⟨m, hm, _⟩ := hv
  have hc : Lib.countB s ⟨#[0]⟩ ≤ s.size + 1 := by
    have := Lib.count_le s.data.toList [0]
    rw [size_list] at this
    exact this
  have := Tryz.strings_ReplaceAll s ⟨#[0]⟩ ⟨#[0, 255]⟩ m w (by omega) hm (by decide) (by
    have h2 : (⟨#[0, 255]⟩ : ByteArray).size = 2 := rfl
    rw [h2]; omega)
  rw [show (⟨#[0]⟩ : ByteArray).data.toList = [0] from rfl, show (⟨#[0, 255]⟩ : ByteArray).data.toList = [0, 255] from rfl, replaceAll_esc] at this
  exact this

end Go.Proofs.YtaeiahkomdpcoaaGreatDoor.Name
end

section
/- The walk of package name's Encode. -/
namespace Go.Proofs.YtaeiahkomdpcoaaGreatDoor.Name
open Go.RowKit Go.Shelf

def encR (k : Key) : Value := if mayB k then .tuple #[.string (bs (encL k)), .int .i64 0] else .tuple #[.string ⟨#[]⟩, .int .i64 2]

theorem conv_one (w : World) (n : Int) (c : UInt8) (hn : n = (c.toNat : Int)) (t : TypeId) :
    (convert 82 9 (.slice (some ⟨w.heap.size, 0, none⟩) 1 1)).run Tryz.prog (w.alloc (.cells #[.int .u8 n] t)) = .ok (.string (bs [c])) (w.alloc (.cells #[.int .u8 n] t)) := by
  subst hn
  have h : RowAt (w.alloc (.cells #[.int .u8 (c.toNat : Int)] t)) w.heap.size [c] := by
    intro i d hd
    cases i with
    | zero =>
      simp at hd; subst hd
      exact ⟨by simp, by simp⟩
    | succ i => simp at hd
  exact conv_row _ _ [c] 1 1 rfl h

theorem xor_top (n : Nat) (h : n ≤ top) : top ^^^ n = top - n := by
  unfold top at h ⊢
  have h1 : (BitVec.allOnes 64 ^^^ BitVec.ofNat 64 n).toNat = 18446744073709551615 ^^^ n := by
    rw [BitVec.toNat_xor, BitVec.toNat_allOnes, BitVec.toNat_ofNat, Nat.mod_eq_of_lt (by omega)]
  have h2 : (BitVec.allOnes 64 ^^^ BitVec.ofNat 64 n) = ~~~ BitVec.ofNat 64 n := BitVec.allOnes_xor
  rw [← h1, h2, BitVec.toNat_not, BitVec.toNat_ofNat, Nat.mod_eq_of_lt (by omega)]
theorem comp_u64 (n : Nat) (h : n ≤ top) : bits BinOp.xor IntKind.u64 (if IntKind.u64.signed = true then -1 else IntKind.u64.max) (n : Int) = ((top - n : Nat) : Int) := by
  rw [← xor_top n h]
  exact u64_xor_nat top n (by unfold top; omega) (by unfold top at h; omega)

/-- A key in a block, while the order is drawn. -/
def KeyIn (w0 : World) (b : Nat) (kn : ByteArray) (nn : Nat) (w' : World) : Prop := w'.cell? ⟨b, 2, none⟩ = some (.string kn) ∧ w'.cell? ⟨b, 3, none⟩ = some (.int .u64 (nn : Int)) ∧ Var0 w' ∧ b < w'.heap.size ∧ Below w0.heap.size w0 w'
theorem KeyIn.below {w0 w1 w2 : World} {b : Nat} {kn : ByteArray} {nn : Nat} (h : KeyIn w0 b kn nn w1) (hb : Below w1.heap.size w1 w2) : KeyIn w0 b kn nn w2 := by
  obtain ⟨h1, h2, h3, h4, h5⟩ := h
  exact ⟨(hb.cell (p := ⟨b, 2, none⟩) h4).trans h1, (hb.cell (p := ⟨b, 3, none⟩) h4).trans h2, h3.below hb, Nat.lt_of_lt_of_le h4 hb.size, below_of h5 hb⟩

set_option maxHeartbeats 3200000 in
set_option maxRecDepth 100000 in
theorem encode_bad (k : Key) (w : World) (hf : k.fits) (hm : mayB k = false) : Calls Tryz.prog 24 #[k.val] w fun e w' => e = .returned (.tuple #[.string ⟨#[]⟩, .int .i64 2]) ∧ Below w.heap.size w w' := by
  have HM := Lib.hid (fun W => may_calls k W hf)
  rw [hm] at HM
  clear hm
  obtain ⟨kd, kb, kn, nn, pp⟩ := k
  unfold Key.val at HM ⊢
  simp only at HM ⊢
  go_enter Tryz.func24, Tryz.ntmps24
  go_wp2_with fail
  refine (HM.out _).mono ?_
  rintro e w1 ⟨rfl, hb1⟩
  go_wp2
  go_ret2
  exact ⟨rfl, below_of (below_one _ _) hb1⟩

set_option maxHeartbeats 6400000 in
set_option maxRecDepth 100000 in
theorem encode_3 (kb kn : ByteArray) (nn : Nat) (pp : Int) (w : World) (hv : Var0 w) (hf : (Key.mk 3 kb kn nn pp).fits) (hm : mayB ⟨3, kb, kn, nn, pp⟩ = true) : Calls Tryz.prog 24 #[(Key.mk 3 kb kn nn pp).val] w fun e w' => e = .returned (.tuple #[.string (bs (encL ⟨3, kb, kn, nn, pp⟩)), .int .i64 0]) ∧ Below w.heap.size w w' := by
  have HM := Lib.hid (fun W => may_calls ⟨3, kb, kn, nn, pp⟩ W hf)
  rw [hm] at HM
  have HH : Hid (∀ W, Calls Tryz.prog 36 #[.int .u8 3] W fun e w' => e = .returned (.tuple #[.bool true, .bool true, .bool true, .bool false]) ∧ w' = W) := has_calls 3
  obtain ⟨hb4, hn4, _, hnt⟩ := hf
  simp only at hb4 hn4 hnt
  clear hm
  unfold Key.val at HM ⊢
  simp only at HM ⊢
  have hcv := fun W => conv_one W 3 3 rfl 5
  have HE := Lib.hid (fun W (h : Var0 W) => escape_calls kn W h hn4)
  have HY := Lib.hid (fun W => bytes_calls (top - nn) 8 W (by omega))
  have hel : (esc kn.data.toList).length ≤ 8192 := by have := esc_length kn.data.toList; rw [size_list] at this; omega
  have e1 : bs (encL ⟨3, kb, kn, nn, pp⟩) = bs [3] ++ (kb ++ ⟨#[0]⟩) ++ (bs (esc kn.data.toList) ++ ⟨#[0, 1]⟩ ++ bs (be 8 (top - nn))) := by
    apply ba_ext
    simp [bs, encL, hasB]
  rw [e1]
  have z0 : (bs [3]).size = 1 := rfl
  have z1 : (bs (esc kn.data.toList)).size ≤ 8192 := by rw [bs_size]; exact hel
  have z2 : (bs (be 8 (top - nn))).size = 8 := by rw [bs_size, be_length]
  obtain ⟨y0, hy0⟩ : ∃ y, y = bs [3] := ⟨_, rfl⟩
  obtain ⟨y1, hy1⟩ : ∃ y, y = bs (esc kn.data.toList) := ⟨_, rfl⟩
  obtain ⟨y2, hy2⟩ : ∃ y, y = bs (be 8 (top - nn)) := ⟨_, rfl⟩
  rw [← hy0] at z0
  rw [← hy1] at z1
  rw [← hy2] at z2
  rw [← hy0, ← hy1, ← hy2]
  simp only [← hy0] at hcv
  simp only [← hy1] at HE
  simp only [← hy2] at HY
  clear hy0 hy1 hy2 e1 hel
  have hv1 := hv.below (below_one w (.cells #[.int .u8 3, .string kb, .string kn, .int .u64 (nn : Int), .int .i64 pp] 60))
  go_enter Tryz.func24, Tryz.ntmps24
  go_wp2_with fail
  refine (HM.out _).mono ?_
  rintro e w1 ⟨rfl, hb1⟩
  have hv2 := hv1.below hb1
  have q0 : w1.cell? ⟨w.heap.size, 0, none⟩ = some (.int .u8 3) := (hb1.cell (p := ⟨w.heap.size, 0, none⟩) (by simp)).trans (by simp)
  have q1 : w1.cell? ⟨w.heap.size, 1, none⟩ = some (.string kb) := (hb1.cell (p := ⟨w.heap.size, 1, none⟩) (by simp)).trans (by simp)
  have q2 : w1.cell? ⟨w.heap.size, 2, none⟩ = some (.string kn) := (hb1.cell (p := ⟨w.heap.size, 2, none⟩) (by simp)).trans (by simp)
  have q3 : w1.cell? ⟨w.heap.size, 3, none⟩ = some (.int .u64 (nn : Int)) := (hb1.cell (p := ⟨w.heap.size, 3, none⟩) (by simp)).trans (by simp)
  have q4 : w1.cell? ⟨w.heap.size, 4, none⟩ = some (.int .i64 pp) := (hb1.cell (p := ⟨w.heap.size, 4, none⟩) (by simp)).trans (by simp)
  have hlt : w.heap.size < w1.heap.size := by have := hb1.size; simp at this; omega
  have b1 := below_of (below_one _ _) hb1
  clear hb1 HM
  go_wp2_with fail
  refine (HH.out _).mono ?_
  rintro e w2 ⟨rfl, rfl⟩
  have hx := comp_u64 nn hnt
  have H0 : KeyIn w w.heap.size kn nn ((w2.alloc (.cells #[.int .u8 3] 5)).drew) := KeyIn.below (KeyIn.below ⟨q2, q3, hv2, hlt, b1⟩ (below_one _ _)) (below_drew (Below.refl _ _))
  go_wp2
  have s1 : ¬ 9223372036854775807 < y1.size + 2 := by omega
  have s2 : ¬ 9223372036854775807 < y1.size + 2 + 8 := by omega
  have s3 : ¬ 9223372036854775807 < 1 + (kb.size + 1) + (y1.size + 2 + 8) := by omega
  go_region_held3 (fun w' => w'.cell? ⟨w.heap.size, 2, none⟩ = some (.string kn) ∧ w'.cell? ⟨w.heap.size, 3, none⟩ = some (.int .u64 (nn : Int)) ∧ KeyIn w w.heap.size kn nn w') (first | exact ⟨HKE.1, HKE.2.1, HKE⟩ | exact ⟨HKY.1, HKY.2.1, HKY⟩ | exact ⟨H0.1, H0.2.1, H0⟩)
    (first | (go_at_call 37; refine Calls.mono (HE.out _ ?hvE) ?_; (case hvE => exact (KeyIn.below (w0 := w) (b := w.heap.size) (kn := kn) (nn := nn) (by assumption) (Below.refl _ _)).2.2.1); rintro e wE ⟨rfl, hbE⟩; have HKE := KeyIn.below (w0 := w) (b := w.heap.size) (kn := kn) (nn := nn) (by assumption) hbE) | (go_at_call 38; refine Calls.mono (HY.out _) ?_; rintro e wY ⟨rfl, hbY⟩; have HKY := KeyIn.below (w0 := w) (b := w.heap.size) (kn := kn) (nn := nn) (by assumption) hbY))
  all_goals
    go_wp2
    go_ret2
    first | exact ⟨rfl, HKY.2.2.2.2⟩ | exact ⟨rfl, HKE.2.2.2.2⟩

set_option maxHeartbeats 6400000 in
set_option maxRecDepth 100000 in
theorem encode_2 (kb kn : ByteArray) (nn : Nat) (pp : Int) (w : World) (hv : Var0 w) (hf : (Key.mk 2 kb kn nn pp).fits) (hm : mayB ⟨2, kb, kn, nn, pp⟩ = true) : Calls Tryz.prog 24 #[(Key.mk 2 kb kn nn pp).val] w fun e w' => e = .returned (.tuple #[.string (bs (encL ⟨2, kb, kn, nn, pp⟩)), .int .i64 0]) ∧ Below w.heap.size w w' := by
  have HM := Lib.hid (fun W => may_calls ⟨2, kb, kn, nn, pp⟩ W hf)
  rw [hm] at HM
  have HH : Hid (∀ W, Calls Tryz.prog 36 #[.int .u8 2] W fun e w' => e = .returned (.tuple #[.bool true, .bool false, .bool false, .bool false]) ∧ w' = W) := has_calls 2
  obtain ⟨hb4, hn4, _, hnt⟩ := hf
  simp only at hb4 hn4 hnt
  clear hm
  unfold Key.val at HM ⊢
  simp only at HM ⊢
  have hcv := fun W => conv_one W 2 2 rfl 5
  have e1 : bs (encL ⟨2, kb, kn, nn, pp⟩) = bs [2] ++ (kb ++ ⟨#[0]⟩) := by
    apply ba_ext
    simp [bs, encL, hasB, hasN]
  rw [e1]
  have z0 : (bs [2]).size = 1 := rfl
  obtain ⟨y0, hy0⟩ : ∃ y, y = bs [2] := ⟨_, rfl⟩
  rw [← hy0] at z0
  rw [← hy0]
  simp only [← hy0] at hcv
  clear hy0 e1 hnt hn4
  have s1 : ¬ 9223372036854775807 < kb.size + 1 := by omega
  have s2 : ¬ 9223372036854775807 < 1 + (kb.size + 1) := by omega
  have hv1 := hv.below (below_one w (.cells #[.int .u8 2, .string kb, .string kn, .int .u64 (nn : Int), .int .i64 pp] 60))
  go_enter Tryz.func24, Tryz.ntmps24
  go_wp2_with fail
  refine (HM.out _).mono ?_
  rintro e w1 ⟨rfl, hb1⟩
  have hv2 := hv1.below hb1
  have q0 : w1.cell? ⟨w.heap.size, 0, none⟩ = some (.int .u8 2) := (hb1.cell (p := ⟨w.heap.size, 0, none⟩) (by simp)).trans (by simp)
  have q1 : w1.cell? ⟨w.heap.size, 1, none⟩ = some (.string kb) := (hb1.cell (p := ⟨w.heap.size, 1, none⟩) (by simp)).trans (by simp)
  have q2 : w1.cell? ⟨w.heap.size, 2, none⟩ = some (.string kn) := (hb1.cell (p := ⟨w.heap.size, 2, none⟩) (by simp)).trans (by simp)
  have q3 : w1.cell? ⟨w.heap.size, 3, none⟩ = some (.int .u64 (nn : Int)) := (hb1.cell (p := ⟨w.heap.size, 3, none⟩) (by simp)).trans (by simp)
  have q4 : w1.cell? ⟨w.heap.size, 4, none⟩ = some (.int .i64 pp) := (hb1.cell (p := ⟨w.heap.size, 4, none⟩) (by simp)).trans (by simp)
  have hlt : w.heap.size < w1.heap.size := by have := hb1.size; simp at this; omega
  have b1 := below_of (below_one _ _) hb1
  clear hb1 HM
  go_wp2_with fail
  refine (HH.out _).mono ?_
  rintro e w2 ⟨rfl, rfl⟩
  go_wp2
  go_ret2
  exact ⟨rfl, below_of b1 (below_one _ _)⟩

set_option maxHeartbeats 6400000 in
set_option maxRecDepth 100000 in
theorem encode_4 (kb kn : ByteArray) (nn : Nat) (pp : Int) (w : World) (hv : Var0 w) (hf : (Key.mk 4 kb kn nn pp).fits) (hm : mayB ⟨4, kb, kn, nn, pp⟩ = true) : Calls Tryz.prog 24 #[(Key.mk 4 kb kn nn pp).val] w fun e w' => e = .returned (.tuple #[.string (bs (encL ⟨4, kb, kn, nn, pp⟩)), .int .i64 0]) ∧ Below w.heap.size w w' := by
  have HM := Lib.hid (fun W => may_calls ⟨4, kb, kn, nn, pp⟩ W hf)
  rw [hm] at HM
  have HH : Hid (∀ W, Calls Tryz.prog 36 #[.int .u8 4] W fun e w' => e = .returned (.tuple #[.bool true, .bool false, .bool true, .bool false]) ∧ w' = W) := has_calls 4
  obtain ⟨hb4, hn4, _, hnt⟩ := hf
  simp only at hb4 hn4 hnt
  clear hm
  unfold Key.val at HM ⊢
  simp only at HM ⊢
  have hcv := fun W => conv_one W 4 4 rfl 5
  have HY := Lib.hid (fun W => bytes_calls nn 8 W (by omega))
  have e1 : bs (encL ⟨4, kb, kn, nn, pp⟩) = bs [4] ++ (kb ++ ⟨#[0]⟩) ++ bs (be 8 nn) := by
    apply ba_ext
    simp [bs, encL, hasB, hasN]
  rw [e1]
  have z0 : (bs [4]).size = 1 := rfl
  have z2 : (bs (be 8 nn)).size = 8 := by rw [bs_size, be_length]
  obtain ⟨y0, hy0⟩ : ∃ y, y = bs [4] := ⟨_, rfl⟩
  obtain ⟨y2, hy2⟩ : ∃ y, y = bs (be 8 nn) := ⟨_, rfl⟩
  rw [← hy0] at z0
  rw [← hy2] at z2
  rw [← hy0, ← hy2]
  simp only [← hy0] at hcv
  simp only [← hy2] at HY
  clear hy0 hy2 e1 hnt hn4
  have s1 : ¬ 9223372036854775807 < kb.size + 1 := by omega
  have s2 : ¬ 9223372036854775807 < 1 + (kb.size + 1) := by omega
  have s3 : ¬ 9223372036854775807 < 1 + (kb.size + 1) + 8 := by omega
  have hv1 := hv.below (below_one w (.cells #[.int .u8 4, .string kb, .string kn, .int .u64 (nn : Int), .int .i64 pp] 60))
  go_enter Tryz.func24, Tryz.ntmps24
  go_wp2_with fail
  refine (HM.out _).mono ?_
  rintro e w1 ⟨rfl, hb1⟩
  have hv2 := hv1.below hb1
  have q0 : w1.cell? ⟨w.heap.size, 0, none⟩ = some (.int .u8 4) := (hb1.cell (p := ⟨w.heap.size, 0, none⟩) (by simp)).trans (by simp)
  have q1 : w1.cell? ⟨w.heap.size, 1, none⟩ = some (.string kb) := (hb1.cell (p := ⟨w.heap.size, 1, none⟩) (by simp)).trans (by simp)
  have q2 : w1.cell? ⟨w.heap.size, 2, none⟩ = some (.string kn) := (hb1.cell (p := ⟨w.heap.size, 2, none⟩) (by simp)).trans (by simp)
  have q3 : w1.cell? ⟨w.heap.size, 3, none⟩ = some (.int .u64 (nn : Int)) := (hb1.cell (p := ⟨w.heap.size, 3, none⟩) (by simp)).trans (by simp)
  have q4 : w1.cell? ⟨w.heap.size, 4, none⟩ = some (.int .i64 pp) := (hb1.cell (p := ⟨w.heap.size, 4, none⟩) (by simp)).trans (by simp)
  have hlt : w.heap.size < w1.heap.size := by have := hb1.size; simp at this; omega
  have b1 := below_of (below_one _ _) hb1
  clear hb1 HM
  go_wp2_with fail
  refine (HH.out _).mono ?_
  rintro e w2 ⟨rfl, rfl⟩
  go_wp2_with fail
  refine (HY.out _).mono ?_
  rintro e w3 ⟨rfl, b3⟩
  go_wp2
  go_ret2
  exact ⟨rfl, below_of (below_of b1 (below_one _ _)) b3⟩

set_option maxHeartbeats 6400000 in
set_option maxRecDepth 100000 in
theorem encode_5 (kb kn : ByteArray) (nn : Nat) (pp : Int) (w : World) (hv : Var0 w) (hf : (Key.mk 5 kb kn nn pp).fits) (hm : mayB ⟨5, kb, kn, nn, pp⟩ = true) : Calls Tryz.prog 24 #[(Key.mk 5 kb kn nn pp).val] w fun e w' => e = .returned (.tuple #[.string (bs (encL ⟨5, kb, kn, nn, pp⟩)), .int .i64 0]) ∧ Below w.heap.size w w' := by
  have HM := Lib.hid (fun W => may_calls ⟨5, kb, kn, nn, pp⟩ W hf)
  rw [hm] at HM
  have HH : Hid (∀ W, Calls Tryz.prog 36 #[.int .u8 5] W fun e w' => e = .returned (.tuple #[.bool true, .bool false, .bool true, .bool true]) ∧ w' = W) := has_calls 5
  obtain ⟨hb4, hn4, _, hnt⟩ := hf
  simp only at hb4 hn4 hnt
  have hpp := (may_facts hm).2.2.2.2.2.2.1 rfl
  simp only at hpp
  clear hm
  unfold Key.val at HM ⊢
  simp only at HM ⊢
  have hcv := fun W => conv_one W 5 5 rfl 5
  obtain ⟨pq, rfl⟩ := Int.eq_ofNat_of_zero_le (show 0 ≤ pp by omega)
  have HY := Lib.hid (fun W => bytes_calls nn 8 W (by omega))
  have HY2 := Lib.hid (fun W => bytes_calls pq 2 W (by omega))
  have e1 : bs (encL ⟨5, kb, kn, nn, pq⟩) = bs [5] ++ (kb ++ ⟨#[0]⟩) ++ bs (be 8 nn) ++ bs (be 2 pq) := by
    apply ba_ext
    simp [bs, encL, hasB, hasN]
  rw [e1]
  have hpw : IntKind.u64.wrap (pq : Int) = (pq : Int) := IntWalk.u64_in _ (by omega)
  have z0 : (bs [5]).size = 1 := rfl
  have z2 : (bs (be 8 nn)).size = 8 := by rw [bs_size, be_length]
  have z3 : (bs (be 2 pq)).size = 2 := by rw [bs_size, be_length]
  obtain ⟨y0, hy0⟩ : ∃ y, y = bs [5] := ⟨_, rfl⟩
  obtain ⟨y2, hy2⟩ : ∃ y, y = bs (be 8 nn) := ⟨_, rfl⟩
  obtain ⟨y3, hy3⟩ : ∃ y, y = bs (be 2 pq) := ⟨_, rfl⟩
  rw [← hy0] at z0
  rw [← hy2] at z2
  rw [← hy3] at z3
  rw [← hy0, ← hy2, ← hy3]
  simp only [← hy0] at hcv
  simp only [← hy2] at HY
  simp only [← hy3] at HY2
  clear hy0 hy2 hy3 e1 hnt hn4
  have s1 : ¬ 9223372036854775807 < kb.size + 1 := by omega
  have s2 : ¬ 9223372036854775807 < 1 + (kb.size + 1) := by omega
  have s3 : ¬ 9223372036854775807 < 1 + (kb.size + 1) + 8 := by omega
  have s4 : ¬ 9223372036854775807 < 1 + (kb.size + 1) + 8 + 2 := by omega
  have hv1 := hv.below (below_one w (.cells #[.int .u8 5, .string kb, .string kn, .int .u64 (nn : Int), .int .i64 (pq : Int)] 60))
  go_enter Tryz.func24, Tryz.ntmps24
  go_wp2_with fail
  refine (HM.out _).mono ?_
  rintro e w1 ⟨rfl, hb1⟩
  have hv2 := hv1.below hb1
  have q0 : w1.cell? ⟨w.heap.size, 0, none⟩ = some (.int .u8 5) := (hb1.cell (p := ⟨w.heap.size, 0, none⟩) (by simp)).trans (by simp)
  have q1 : w1.cell? ⟨w.heap.size, 1, none⟩ = some (.string kb) := (hb1.cell (p := ⟨w.heap.size, 1, none⟩) (by simp)).trans (by simp)
  have q2 : w1.cell? ⟨w.heap.size, 2, none⟩ = some (.string kn) := (hb1.cell (p := ⟨w.heap.size, 2, none⟩) (by simp)).trans (by simp)
  have q3 : w1.cell? ⟨w.heap.size, 3, none⟩ = some (.int .u64 (nn : Int)) := (hb1.cell (p := ⟨w.heap.size, 3, none⟩) (by simp)).trans (by simp)
  have q4 : w1.cell? ⟨w.heap.size, 4, none⟩ = some (.int .i64 (pq : Int)) := (hb1.cell (p := ⟨w.heap.size, 4, none⟩) (by simp)).trans (by simp)
  have hlt : w.heap.size < w1.heap.size := by have := hb1.size; simp at this; omega
  have b1 := below_of (below_one _ _) hb1
  clear hb1 HM
  go_wp2_with fail
  refine (HH.out _).mono ?_
  rintro e w2 ⟨rfl, rfl⟩
  have hbs := b1.size
  have hs1 : w.heap.size < (w2.alloc (.cells #[.int .u8 5] 5)).heap.size := by simp; omega
  have q4' := (below_one w2 (.cells #[.int .u8 5] 5)).cell (p := ⟨w.heap.size, 4, none⟩) hlt
  go_wp2_with fail
  refine (HY.out _).mono ?_
  rintro e w3 ⟨rfl, b3⟩
  have q5 : w3.cell? ⟨w.heap.size, 4, none⟩ = some (.int .i64 (pq : Int)) := (b3.cell (p := ⟨w.heap.size, 4, none⟩) hs1).trans (q4'.trans q4)
  clear q4'
  go_wp2_with fail
  refine (HY2.out _).mono ?_
  rintro e w4 ⟨rfl, b4⟩
  go_wp2
  go_ret2
  exact ⟨rfl, below_of (below_of (below_of b1 (below_one _ _)) b3) b4⟩

set_option maxHeartbeats 6400000 in
set_option maxRecDepth 100000 in
theorem encode_1 (kb kn : ByteArray) (nn : Nat) (pp : Int) (w : World) (hv : Var0 w) (hf : (Key.mk 1 kb kn nn pp).fits) (hm : mayB ⟨1, kb, kn, nn, pp⟩ = true) : Calls Tryz.prog 24 #[(Key.mk 1 kb kn nn pp).val] w fun e w' => e = .returned (.tuple #[.string (bs (encL ⟨1, kb, kn, nn, pp⟩)), .int .i64 0]) ∧ Below w.heap.size w w' := by
  have HM := Lib.hid (fun W => may_calls ⟨1, kb, kn, nn, pp⟩ W hf)
  rw [hm] at HM
  have HH : Hid (∀ W, Calls Tryz.prog 36 #[.int .u8 1] W fun e w' => e = .returned (.tuple #[.bool false, .bool false, .bool false, .bool false]) ∧ w' = W) := has_calls 1
  obtain ⟨hb4, hn4, _, hnt⟩ := hf
  simp only at hb4 hn4 hnt
  clear hm
  unfold Key.val at HM ⊢
  simp only at HM ⊢
  have hcv := fun W => conv_one W 1 1 rfl 5
  have e1 : bs (encL ⟨1, kb, kn, nn, pp⟩) = bs [1] := by
    apply ba_ext
    simp [bs, encL, hasB, hasN]
  rw [e1]
  have z0 : (bs [1]).size = 1 := rfl
  obtain ⟨y0, hy0⟩ : ∃ y, y = bs [1] := ⟨_, rfl⟩
  rw [← hy0] at z0
  rw [← hy0]
  simp only [← hy0] at hcv
  clear hy0 e1 hnt hn4 hb4
  have hv1 := hv.below (below_one w (.cells #[.int .u8 1, .string kb, .string kn, .int .u64 (nn : Int), .int .i64 pp] 60))
  go_enter Tryz.func24, Tryz.ntmps24
  go_wp2_with fail
  refine (HM.out _).mono ?_
  rintro e w1 ⟨rfl, hb1⟩
  have hv2 := hv1.below hb1
  have q0 : w1.cell? ⟨w.heap.size, 0, none⟩ = some (.int .u8 1) := (hb1.cell (p := ⟨w.heap.size, 0, none⟩) (by simp)).trans (by simp)
  have q1 : w1.cell? ⟨w.heap.size, 1, none⟩ = some (.string kb) := (hb1.cell (p := ⟨w.heap.size, 1, none⟩) (by simp)).trans (by simp)
  have q2 : w1.cell? ⟨w.heap.size, 2, none⟩ = some (.string kn) := (hb1.cell (p := ⟨w.heap.size, 2, none⟩) (by simp)).trans (by simp)
  have q3 : w1.cell? ⟨w.heap.size, 3, none⟩ = some (.int .u64 (nn : Int)) := (hb1.cell (p := ⟨w.heap.size, 3, none⟩) (by simp)).trans (by simp)
  have q4 : w1.cell? ⟨w.heap.size, 4, none⟩ = some (.int .i64 pp) := (hb1.cell (p := ⟨w.heap.size, 4, none⟩) (by simp)).trans (by simp)
  have hlt : w.heap.size < w1.heap.size := by have := hb1.size; simp at this; omega
  have b1 := below_of (below_one _ _) hb1
  clear hb1 HM
  go_wp2_with fail
  refine (HH.out _).mono ?_
  rintro e w2 ⟨rfl, rfl⟩
  go_wp2
  go_ret2
  exact ⟨rfl, below_of b1 (below_one _ _)⟩

set_option maxHeartbeats 6400000 in
set_option maxRecDepth 100000 in
theorem encode_6 (kb kn : ByteArray) (nn : Nat) (pp : Int) (w : World) (hv : Var0 w) (hf : (Key.mk 6 kb kn nn pp).fits) (hm : mayB ⟨6, kb, kn, nn, pp⟩ = true) : Calls Tryz.prog 24 #[(Key.mk 6 kb kn nn pp).val] w fun e w' => e = .returned (.tuple #[.string (bs (encL ⟨6, kb, kn, nn, pp⟩)), .int .i64 0]) ∧ Below w.heap.size w w' := by
  have HM := Lib.hid (fun W => may_calls ⟨6, kb, kn, nn, pp⟩ W hf)
  rw [hm] at HM
  have HH : Hid (∀ W, Calls Tryz.prog 36 #[.int .u8 6] W fun e w' => e = .returned (.tuple #[.bool false, .bool false, .bool true, .bool false]) ∧ w' = W) := has_calls 6
  obtain ⟨hb4, hn4, _, hnt⟩ := hf
  simp only at hb4 hn4 hnt
  clear hm
  unfold Key.val at HM ⊢
  simp only at HM ⊢
  have hcv := fun W => conv_one W 6 6 rfl 5
  have HY := Lib.hid (fun W => bytes_calls nn 8 W (by omega))
  have e1 : bs (encL ⟨6, kb, kn, nn, pp⟩) = bs [6] ++ bs (be 8 nn) := by
    apply ba_ext
    simp [bs, encL, hasB, hasN]
  rw [e1]
  have z0 : (bs [6]).size = 1 := rfl
  have z2 : (bs (be 8 nn)).size = 8 := by rw [bs_size, be_length]
  obtain ⟨y0, hy0⟩ : ∃ y, y = bs [6] := ⟨_, rfl⟩
  obtain ⟨y2, hy2⟩ : ∃ y, y = bs (be 8 nn) := ⟨_, rfl⟩
  rw [← hy0] at z0
  rw [← hy2] at z2
  rw [← hy0, ← hy2]
  simp only [← hy0] at hcv
  simp only [← hy2] at HY
  clear hy0 hy2 e1 hnt hn4 hb4
  have hv1 := hv.below (below_one w (.cells #[.int .u8 6, .string kb, .string kn, .int .u64 (nn : Int), .int .i64 pp] 60))
  go_enter Tryz.func24, Tryz.ntmps24
  go_wp2_with fail
  refine (HM.out _).mono ?_
  rintro e w1 ⟨rfl, hb1⟩
  have hv2 := hv1.below hb1
  have q0 : w1.cell? ⟨w.heap.size, 0, none⟩ = some (.int .u8 6) := (hb1.cell (p := ⟨w.heap.size, 0, none⟩) (by simp)).trans (by simp)
  have q1 : w1.cell? ⟨w.heap.size, 1, none⟩ = some (.string kb) := (hb1.cell (p := ⟨w.heap.size, 1, none⟩) (by simp)).trans (by simp)
  have q2 : w1.cell? ⟨w.heap.size, 2, none⟩ = some (.string kn) := (hb1.cell (p := ⟨w.heap.size, 2, none⟩) (by simp)).trans (by simp)
  have q3 : w1.cell? ⟨w.heap.size, 3, none⟩ = some (.int .u64 (nn : Int)) := (hb1.cell (p := ⟨w.heap.size, 3, none⟩) (by simp)).trans (by simp)
  have q4 : w1.cell? ⟨w.heap.size, 4, none⟩ = some (.int .i64 pp) := (hb1.cell (p := ⟨w.heap.size, 4, none⟩) (by simp)).trans (by simp)
  have hlt : w.heap.size < w1.heap.size := by have := hb1.size; simp at this; omega
  have b1 := below_of (below_one _ _) hb1
  clear hb1 HM
  go_wp2_with fail
  refine (HH.out _).mono ?_
  rintro e w2 ⟨rfl, rfl⟩
  go_wp2_with fail
  refine (HY.out _).mono ?_
  rintro e w3 ⟨rfl, b3⟩
  go_wp2
  go_ret2
  exact ⟨rfl, below_of (below_of b1 (below_one _ _)) b3⟩

theorem encode_calls (k : Key) (w : World) (hv : Var0 w) (hf : k.fits) : Calls Tryz.prog 24 #[k.val] w fun e w' => e = .returned (encR k) ∧ Below w.heap.size w w' := by
  unfold encR
  cases hm : mayB k
  · exact encode_bad k w hf hm
  · have hk := (may_facts hm).1
    obtain ⟨kd, kb, kn, nn, pp⟩ := k
    simp only at hk
    obtain rfl | rfl | rfl | rfl | rfl | rfl : kd = 1 ∨ kd = 2 ∨ kd = 3 ∨ kd = 4 ∨ kd = 5 ∨ kd = 6 := by omega
    · exact encode_1 kb kn nn pp w hv hf hm
    · exact encode_2 kb kn nn pp w hv hf hm
    · exact encode_3 kb kn nn pp w hv hf hm
    · exact encode_4 kb kn nn pp w hv hf hm
    · exact encode_5 kb kn nn pp w hv hf hm
    · exact encode_6 kb kn nn pp w hv hf hm

end Go.Proofs.YtaeiahkomdpcoaaGreatDoor.Name
end

section
/- The walks of package name's number and unname. -/
namespace Go.Proofs.YtaeiahkomdpcoaaGreatDoor.Name
open Go.RowKit Go.Shelf

def val (l : Bs) : Nat := l.foldl (fun a c => a * 256 + c.toNat) 0
theorem val_snoc (l : List UInt8) (c : UInt8) : val (l ++ [c]) = val l * 256 + c.toNat := by simp [val]
theorem val_lt (l : List UInt8) : val l < 256 ^ l.length := by
  rw [← List.reverse_reverse l]
  generalize l.reverse = m
  induction m with
  | nil => simp [val]
  | cons c m ih =>
    rw [List.reverse_cons, val_snoc, List.length_append, List.length_singleton, Nat.pow_succ]
    have := c.toNat_lt
    omega
theorem val_be (k : Nat) : ∀ n, n < 256 ^ k → val (be k n) = n := by
  induction k with
  | zero => intro n h; simp at h; subst h; rfl
  | succ k ih =>
    intro n h
    rw [be, val_snoc, ih (n / 256) (by rw [Nat.pow_succ] at h; omega)]
    simp [UInt8.toNat_ofNat']
    omega
theorem be_val : ∀ (l : Bs), be l.length (val l) = l := by
  intro l
  rw [← List.reverse_reverse l]
  generalize l.reverse = m
  induction m with
  | nil => rfl
  | cons c m ih =>
    rw [List.reverse_cons, val_snoc, List.length_append, List.length_singleton, be]
    have := c.toNat_lt
    rw [show (val m.reverse * 256 + c.toNat) / 256 = val m.reverse by omega, ih, show (val m.reverse * 256 + c.toNat) % 256 = c.toNat by omega]
    simp

theorem or_byte (v : Nat) (e : UInt8) (hv : v < 72057594037927936) : bits BinOp.or IntKind.u64 ((v : Int) * 256) (e.toNat : Int) = ((v * 256 + e.toNat : Nat) : Int) := by
  have he := e.toNat_lt
  have h := u64_or_nat (v * 256) e.toNat (by omega) (by omega)
  rw [show ((v : Int) * 256) = ((v * 256 : Nat) : Int) from by omega, h]
  congr 1
  have := Nat.two_pow_add_eq_or_of_lt (i := 8) (b := e.toNat) he v
  rw [show (2 : Nat) ^ 8 * v = v * 256 from by rw [Nat.mul_comm]] at this
  exact this.symm

set_option maxHeartbeats 800000 in
set_option maxRecDepth 100000 in
theorem number_calls (t : ByteArray) (w : World) (ht : t.size ≤ 8) : Calls Tryz.prog 53 #[.string t] w fun e w' => e = .returned (.int .u64 (val t.data.toList : Int)) ∧ w' = w := by
  go_enter Tryz.func53, Tryz.ntmps53
  go_wp2
  go_loop [2, 6] (fun xv iv => ∃ k : Nat, k ≤ t.size ∧ xv = .int .u64 (val (t.data.toList.take k) : Int) ∧ iv = .int .i64 k) (fun _ iv => t.size - (intOf iv).toNat)
  case atStart => exact ⟨0, by omega, rfl, rfl⟩
  case round =>
    obtain ⟨k, hk, rfl, rfl⟩ := hrel
    by_cases hlt : k < t.size
    · have hkl : k < t.data.toList.length := by rw [size_list]; exact hlt
      obtain ⟨e, he⟩ : ∃ e, e = t[k] := ⟨_, rfl⟩
      obtain ⟨v, hv⟩ : ∃ v, v = val (t.data.toList.take k) := ⟨_, rfl⟩
      rw [← hv]
      have hvb : v < 72057594037927936 := by
        have h := val_lt (t.data.toList.take k)
        rw [← hv, List.length_take, Nat.min_eq_left (by omega)] at h
        have hp : 256 ^ k ≤ 256 ^ 7 := Nat.pow_le_pow_right (by omega) (by omega)
        have : (256 : Nat) ^ 7 = 72057594037927936 := by decide
        omega
      have he8 := e.toNat_lt
      have hel : Hid (t.data.toList[k] = e) := by
        show _ = _
        rw [he]; rfl
      have hwr := Lib.hid (show IntKind.u64.wrap (t[k].toNat : Int) = (t[k].toNat : Int) from IntWalk.u64_in _ (by have := t[k].toNat_lt; omega))
      have HV := Lib.hid hv
      clear hv
      go_wp2
      go_round
      case rel => exact ⟨k + 1, by omega, by rw [List.take_succ_eq_append_getElem hkl, val_snoc, ← HV.out, hel.out, ← or_byte v e hvb, hwr.out, he], by go_num⟩
      case measure => simp [intOf]; omega
    · obtain rfl : k = t.size := by omega
      go_wp2
      go_ret
      rw [List.take_of_length_le (by rw [size_list]; exact Nat.le_refl _)]
      exact ⟨rfl, rfl⟩

/-- A name at the front of bytes, and what stands behind its end. -/
def un : Bs → Option (Bs × Bs)
  | c :: d :: r => if c ≠ 0 then (un (d :: r)).map fun p => (c :: p.1, p.2) else if d = 255 then (un r).map fun p => (0 :: p.1, p.2) else if d = 1 then some ([], r) else none
  | _ => none
theorem un_esc : ∀ (x r : Bs), un (esc x ++ 0 :: 1 :: r) = some (x, r)
  | [], r => by simp [esc, un]
  | c :: x, r => by
    have ih := un_esc x r
    unfold esc
    split
    · rename_i hc; subst hc; simp [un, ih]
    · rename_i hc
      cases hx : esc x ++ 0 :: 1 :: r with
      | nil => simp at hx
      | cons d m => rw [List.cons_append, hx, un, if_pos hc, ← hx, ih]; rfl

end Go.Proofs.YtaeiahkomdpcoaaGreatDoor.Name
end
