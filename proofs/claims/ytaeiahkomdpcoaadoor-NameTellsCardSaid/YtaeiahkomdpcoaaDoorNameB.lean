/- The walk of package name's Bucket. -/
import Derived.Test.YtaeiahkomdpcoaaDoorNameA
namespace Go.Proofs.YtaeiahkomdpcoaaDoor.Name
open Go.RowKit Go.Shelf

theorem dw_nil (p : UInt8 → Bool) : ∀ l : Bs, l.dropWhile p = [] ↔ ∀ x ∈ l, p x = true
  | [] => by simp
  | c :: l => by
    rw [List.dropWhile_cons]
    split
    · rename_i h
      rw [dw_nil p l]
      constructor
      · intro h2 x hx
        rcases List.mem_cons.1 hx with rfl | hx
        · exact h
        · exact h2 x hx
      · intro h2 x hx; exact h2 x (List.mem_cons_of_mem _ hx)
    · rename_i h
      constructor
      · intro h2; cases h2
      · intro h2; exact absurd (h2 c (by simp)) h
theorem dw_all (p : UInt8 → Bool) : ∀ l : Bs, (∀ x ∈ l.dropWhile p, p x = true) → ∀ x ∈ l, p x = true
  | [], _ => by simp
  | c :: l, h => by
    rw [List.dropWhile_cons] at h
    split at h
    · rename_i hc
      intro x hx
      rcases List.mem_cons.1 hx with rfl | hx
      · exact hc
      · exact dw_all p l h x hx
    · exact h
theorem trim_nil (l cs : Bs) : (Lib.trimS l cs = []) ↔ l.all (cs.contains ·) = true := by
  unfold Lib.trimS Lib.trimRightS Lib.trimLeftS
  rw [dw_nil, List.all_eq_true]
  constructor
  · intro h x hx
    exact dw_all _ l.reverse (fun y hy => h y (List.mem_reverse.2 hy)) x (List.mem_reverse.2 hx)
  · intro h x hx
    have h1 := List.mem_reverse.1 hx
    exact h x (List.mem_reverse.1 ((List.dropWhile_suffix _).subset h1))

theorem trim_calls (s : ByteArray) (w : World) (hs : s.size ≤ 9223372036854775807) :
    Calls Tryd.prog 52 #[.string s, .string ⟨#[97, 98, 99, 100, 101, 102, 103, 104, 105, 106, 107, 108, 109, 110, 111, 112, 113, 114, 115, 116, 117, 118, 119, 120, 121, 122, 48, 49, 50, 51, 52, 53, 54, 55, 56, 57, 45, 46]⟩] w fun e w' => e = .returned (.string (bs (Lib.trimS s.data.toList okCs))) ∧ Below w.heap.size w w' :=
  Any.strings_Trim_laid Tryd.lays160 (by kernel_rfl) s _ w hs (by decide) (ascii_of_all (by decide))

theorem bs_empty (l : Bs) (b : Bool) (h : (l = []) ↔ b = true) : (bs l).toList.isEmpty = b := by
  rw [empty_iff]
  cases b
  · rw [decide_eq_false_iff_not]
    intro e
    have : l = [] := congrArg (fun x : ByteArray => x.data.toList) e
    exact absurd (h.1 this) (by simp)
  · rw [decide_eq_true_iff, h.2 rfl]; rfl

set_option maxHeartbeats 1600000 in
set_option maxRecDepth 100000 in
theorem bucket_calls (s : ByteArray) (w : World) (hs : s.size ≤ 9223372036854775807) : Calls Tryd.prog 18 #[.string s] w fun e w' => e = .returned (.bool (bucketL s.data.toList)) ∧ Below w.heap.size w w' := by
  by_cases h1 : s.size < 1
  · have h3 : bucketL s.data.toList = false := by unfold bucketL; rw [size_list, decide_eq_false (by omega)]; rfl
    rw [h3]
    clear h3
    go_enter Tryd.func18, Tryd.ntmps18
    go_wp2
    go_ret
    exact ⟨rfl, Below.refl _ _⟩
  by_cases h2 : 63 < s.size
  · have h3 : bucketL s.data.toList = false := by unfold bucketL; rw [size_list, decide_eq_false (by omega)]; rfl
    rw [h3]
    clear h3
    go_enter Tryd.func18, Tryd.ntmps18
    go_wp2
    go_ret
    exact ⟨rfl, Below.refl _ _⟩
  have h0 : 0 < s.size := by omega
  have hl : s.size - 1 < s.size := by omega
  have hlw : IntKind.i64.wrap ((s.size : Int) - 1) = (s.size : Int) - 1 := IntWalk.i64_in _ (by omega)
  have hl2 : ((s.size : Int) - 1).toNat = s.size - 1 := by omega
  have hl0 : (0 : Int) ≤ (s.size : Int) - 1 := by omega
  have hl1 : (s.size : Int) - 1 < (s.size : Int) := by omega
  obtain ⟨c0, hc0⟩ : ∃ c, c = s[0].toNat := ⟨_, rfl⟩
  obtain ⟨c1, hc1⟩ : ∃ c, c = s[s.size - 1].toNat := ⟨_, rfl⟩
  have hb : Hid (bucketL s.data.toList = (wordB c0 && wordB c1 && s.data.toList.all (okCs.contains ·))) := by
    show _ = _
    unfold bucketL
    rw [size_list, decide_eq_true (by omega), getD_at s 0 h0, getD_at s (s.size - 1) hl, ← hc0, ← hc1, Bool.true_and]
  have HW0 := Lib.hid (word_calls c0)
  have HW1 := Lib.hid (word_calls c1)
  have HT := Lib.hid (fun W => trim_calls s W hs)
  have hE := Lib.hid (bs_empty _ _ (trim_nil s.data.toList okCs))
  obtain ⟨ab, hab⟩ : ∃ b, b = s.data.toList.all (okCs.contains ·) := ⟨_, rfl⟩
  obtain ⟨y, hy⟩ : ∃ y, y = bs (Lib.trimS s.data.toList okCs) := ⟨_, rfl⟩
  simp only [← hy] at HT
  rw [← hy, ← hab] at hE
  rw [← hab] at hb
  rw [hb.out]
  clear hb hab hy
  cases hw0 : wordB c0
  · rw [hw0] at HW0
    clear hw0
    go_enter Tryd.func18, Tryd.ntmps18
    go_wp2_with fail
    rw [← hc0]
    refine (HW0.out _).mono ?_
    rintro e w1 ⟨rfl, rfl⟩
    go_wp2
    go_ret
    exact ⟨rfl, Below.refl _ _⟩
  · rw [hw0] at HW0
    clear hw0
    cases hw1 : wordB c1
    · rw [hw1] at HW1
      clear hw1
      go_enter Tryd.func18, Tryd.ntmps18
      go_wp2_with fail
      rw [← hc0]
      refine (HW0.out _).mono ?_
      rintro e w1 ⟨rfl, rfl⟩
      go_wp2_with fail
      rw [← hc1]
      refine (HW1.out _).mono ?_
      rintro e w1 ⟨rfl, rfl⟩
      go_wp2
      go_ret
      exact ⟨rfl, Below.refl _ _⟩
    · rw [hw1] at HW1
      clear hw1
      go_enter Tryd.func18, Tryd.ntmps18
      go_wp2_with fail
      rw [← hc0]
      refine (HW0.out _).mono ?_
      rintro e w1 ⟨rfl, rfl⟩
      go_wp2_with fail
      rw [← hc1]
      refine (HW1.out _).mono ?_
      rintro e w1 ⟨rfl, rfl⟩
      go_wp2_with fail
      refine (HT.out _).mono ?_
      rintro e w1 ⟨rfl, hbw⟩
      have hE' := hE.out
      go_wp2
      go_ret
      exact ⟨rfl, hbw⟩

end Go.Proofs.YtaeiahkomdpcoaaDoor.Name
