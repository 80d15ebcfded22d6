/- The walks of package name: word, Object, Bucket, May. -/
import Derived.Test.YtaeiahkomdpcoaaDoorKit
import Derived.Test.YtaeiahkomdpcoaaDoorNameShelf
import Derived.Test.YtaeiahkomdpcoaaDoorNamePlain
import Derived.OwnWalk
namespace Go.Proofs.YtaeiahkomdpcoaaDoor.Name
open Go.RowKit Go.Shelf

def bs (l : List UInt8) : ByteArray := ⟨l.toArray⟩
theorem bs_size (l : List UInt8) : (bs l).size = l.length := by simp [bs, ByteArray.size]
theorem size_list (s : ByteArray) : s.data.toList.length = s.size := by simp
theorem bs_append (a b : List UInt8) : bs a ++ bs b = bs (a ++ b) := by
  apply ByteArray.ext
  apply Array.toList_inj.1
  simp [bs]
theorem bs_list (s : ByteArray) : bs s.data.toList = s := rfl
theorem byte_at (s : ByteArray) (i : Nat) (h : i < s.size) : s.data.toList[i]? = some s[i] := by
  rw [List.getElem?_eq_getElem (by simpa using h)]; rfl
theorem getD_at (s : ByteArray) (i : Nat) (h : i < s.size) : s.data.toList.getD i 0 = s[i] := by
  rw [List.getD, byte_at s i h]; rfl
theorem empty_iff (s : ByteArray) : s.toList.isEmpty = decide (s = ⟨#[]⟩) := by
  rw [ByteArray.toList_eq]
  by_cases h : s = ⟨#[]⟩
  · subst h; rfl
  · rw [decide_eq_false h]
    cases hl : s.data.toList with
    | nil => exact absurd (ByteArray.ext (Array.toList_inj.1 (by simpa using hl))) h
    | cons a l => rfl

def Key.val (k : Key) : Value := .agg #[.int .u8 (k.kind : Int), .string k.bucket, .string k.name, .int .u64 (k.n : Int), .int .i64 k.part]

set_option maxRecDepth 100000 in
theorem word_calls (c : Nat) (w : World) : Calls Tryd.prog 51 #[.int .u8 (c : Int)] w fun e w' => e = .returned (.bool (wordB c)) ∧ w' = w := by
  have h : (97 ≤ c ∧ c ≤ 122 ∧ wordB c = true) ∨ (97 ≤ c ∧ 122 < c ∧ wordB c = false) ∨ (c < 97 ∧ 57 < c ∧ wordB c = false) ∨ (48 ≤ c ∧ c ≤ 57 ∧ wordB c = true) ∨ (c < 48 ∧ wordB c = false) := by
    unfold wordB
    simp only [Bool.or_eq_true, decide_eq_true_eq, Bool.or_eq_false_iff, decide_eq_false_iff_not]
    omega
  rcases h with ⟨h1, h2, h3⟩ | ⟨h1, h2, h3⟩ | ⟨h1, h2, h3⟩ | ⟨h1, h2, h3⟩ | ⟨h1, h3⟩
  all_goals
    rw [h3]
    clear h3
    go_enter Tryd.func51, Tryd.ntmps51
    go_wp2
    go_ret
    exact ⟨by simp <;> omega, rfl⟩

set_option maxRecDepth 100000 in
theorem object_calls (s : ByteArray) (w : World) (hs : s.size ≤ 9223372036854775807) : Calls Tryd.prog 20 #[.string s] w fun e w' => e = .returned (.bool (objectL s.data.toList)) ∧ w' = w := by
  have h : (s.size < 1 ∧ objectL s.data.toList = false) ∨ (1 ≤ s.size ∧ s.size ≤ 200 ∧ objectL s.data.toList = true) ∨ (1 ≤ s.size ∧ 200 < s.size ∧ objectL s.data.toList = false) := by
    unfold objectL
    rw [size_list]
    simp only [decide_eq_true_eq, decide_eq_false_iff_not]
    omega
  rcases h with ⟨h1, h3⟩ | ⟨h1, h2, h3⟩ | ⟨h1, h2, h3⟩
  all_goals
    rw [h3]
    clear h3
    go_enter Tryd.func20, Tryd.ntmps20
    go_wp2
    go_ret
    exact ⟨by simp <;> omega, rfl⟩

end Go.Proofs.YtaeiahkomdpcoaaDoor.Name
