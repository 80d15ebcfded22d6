/- Rows of three kinds, in plain Lean; the walk of hoardlaw10.AllocBack. -/
import Derived.Test.YtnmnecjelpglhaaAllocPlay
namespace Go.Proofs.Ytnmnecjelpglhaa.Alloc
open Go.RowKit

/-- Each row is one of the three. -/
def OkL (L : List Int) : Prop := ∀ x ∈ L, x = 1 ∨ x = 2 ∨ x = 3
theorem OkL.set {L : List Int} (h : OkL L) (i : Nat) {x : Int} (hx : x = 1 ∨ x = 2 ∨ x = 3) : OkL (L.set i x) := fun y hy => by
  rcases List.mem_or_eq_of_mem_set hy with h1 | h1
  · exact h y h1
  · rw [h1]; exact hx
theorem OkL.setAll {L : List Int} (h : OkL L) (l : List Int) {x : Int} (hx : x = 1 ∨ x = 2 ∨ x = 3) : OkL (setAll L l x) := by
  unfold Alloc.setAll
  induction l generalizing L with
  | nil => exact h
  | cons i l ih => rw [List.foldl_cons]; exact ih (h.set _ hx)
theorem OkL.turnGo {L : List Int} (h : OkL L) (f : Int) {t : Int} (l : List Int) (ht : t = 1 ∨ t = 2 ∨ t = 3) : OkL (turnGo f t L l).2 := by
  induction l generalizing L with
  | nil => exact h
  | cons x l ih =>
    unfold Alloc.turnGo
    split
    · exact ih (h.set _ ht)
    · exact h
theorem OkL.turnL {L : List Int} (h : OkL L) (l : List Int) (f : Int) {t : Int} (b : Bool) (ht : t = 1 ∨ t = 2 ∨ t = 3) : OkL (turnL L l f t b).2 := by
  unfold Alloc.turnL
  split
  · exact h
  · split
    · exact h.turnGo f l ht
    · exact h
theorem OkL.stepL {L : List Int} (h : OkL L) (s : Step) : OkL (stepL L s).2 := by
  unfold Alloc.stepL
  split
  · unfold takeL
    split
    · exact h
    · split
      · exact h
      · exact h.setAll _ (by decide)
  · split
    · exact h.turnL _ _ _ (by decide)
    · split
      · exact h.turnL _ _ _ (by decide)
      · exact h
theorem OkL.playK {L : List Int} (h : OkL L) (ss : List Step) (k : Nat) (hk : k ≤ ss.length) : OkL (playK L ss k).2 := by
  induction k with
  | zero => exact h
  | succ k ih => rw [playK_succ L ss k (by omega)]; exact (ih (by omega)).stepL _
theorem okL_ones (n : Nat) : OkL (List.replicate n 1) := fun x hx => by rw [List.eq_of_mem_replicate hx]; decide

theorem mem_rowsK (L : List Int) (what : Int) (k j : Nat) (hk : k ≤ L.length) : j ∈ (rowsK L what k).map Int.toNat ↔ j < k ∧ L[j]? = some what := by
  induction k with
  | zero => simp [rowsK]
  | succ k ih =>
    rw [rowsK, List.map_append, List.mem_append, ih (by omega), List.getD, List.getElem?_eq_getElem (show k < L.length by omega)]
    constructor
    · rintro (⟨h1, h2⟩ | h)
      · exact ⟨by omega, h2⟩
      · split at h
        · rename_i he
          simp at h he
          subst h
          exact ⟨by omega, by rw [List.getElem?_eq_getElem (show j < L.length by omega), he]⟩
        · simp at h
    · rintro ⟨h1, h2⟩
      by_cases hjk : j = k
      · subst hjk
        right
        rw [List.getElem?_eq_getElem (show j < L.length by omega)] at h2
        rw [if_pos (by simpa using h2)]
        simp
      · exact .inl ⟨by omega, h2⟩
theorem rows_are (L : List Int) (what : Int) : areB L.length (rowsL L what) = true := by
  unfold areB
  rw [List.all_eq_true]
  intro x hx
  have := rowsK_mem L what L.length (Nat.le_refl _) x hx
  simp [okRow]; omega
/-- Loaded of its used rows, and its junk, it is itself. -/
theorem load_back (L : List Int) (h : OkL L) (hn : L.length ≤ 4096) : loadR (L.length : Int) (rowsL L 2) (rowsL L 3) = some L := by
  rw [loadR_in _ _ _ hn, rows_are, rows_are, if_pos (by rfl)]
  congr 1
  apply List.ext_getElem?
  intro j
  by_cases hj : j < L.length
  · rw [setAll_get _ _ _ _ (by rw [setAll_length, List.length_replicate]; exact hj), setAll_get _ _ _ _ (by rw [List.length_replicate]; exact hj), List.getElem?_replicate, if_pos hj]
    rw [List.getElem?_eq_getElem hj]
    have e2 := mem_rowsK L 2 L.length j (Nat.le_refl _)
    have e3 := mem_rowsK L 3 L.length j (Nat.le_refl _)
    rw [List.getElem?_eq_getElem hj] at e2 e3
    unfold rowsL
    rcases h _ (List.getElem_mem hj) with h1 | h1 | h1
    · rw [if_neg (fun h => by have := (e2.1 h).2; rw [h1] at this; cases this), if_neg (fun h => by have := (e3.1 h).2; rw [h1] at this; cases this), h1]
    · rw [if_pos (e2.2 ⟨hj, by rw [h1]⟩), h1]
    · rw [if_neg (fun h => by have := (e2.1 h).2; rw [h1] at this; cases this), if_pos (e3.2 ⟨hj, by rw [h1]⟩), h1]
  · rw [List.getElem?_eq_none (by rw [setAll_length, setAll_length, List.length_replicate]; omega), List.getElem?_eq_none (by omega)]
theorem load_new (n : Nat) (hn : n ≤ 4096) : loadR (n : Int) [] [] = some (List.replicate n 1) := by
  rw [loadR_in _ _ _ hn]; rfl

set_option maxHeartbeats 6400000 in
set_option maxRecDepth 100000 in
theorem back_calls (x : Nat) (A B : Option Addr) (c d : Nat) (one two : List Step) (w : World) (h1 : StepsAt w A one) (h2 : StepsAt w B two) (hx : Hid (x < 65536)) :
    Calls Try.prog 6 #[.int .u16 (x : Int), .slice A one.length c, .slice B two.length d] w fun e w' => e = .returned (.bool true) ∧ Below w.heap.size w w' := by
  have H1 := Lib.hid (heavy_calls A none none c 0 0 one 0 0 w h1)
  have H2 := Lib.hid (heavy_calls B none none d 0 0 two 0 0 w h2)
  have HW := Lib.hid (works_calls w)
  go_enter Try.func6, Try.ntmps6
  go_wp2_with fail
  refine H1.out.mono ?_
  rintro e w1 ⟨⟨b1, rfl, hb1⟩, rfl⟩
  cases b1
  · obtain ⟨ha1, ha2, _, _⟩ := hb1 rfl
    go_wp2_with fail
    refine H2.out.mono ?_
    rintro e w1 ⟨⟨b2, rfl, hb2⟩, rfl⟩
    cases b2
    · obtain ⟨hc1, hc2, _, _⟩ := hb2 rfl
      clear hb1 hb2 H1 H2
      obtain ⟨n, hn⟩ : ∃ n, n = x % 300 := ⟨_, rfl⟩
      have hwr : wrap64 (x : Int) = (x : Int) := by have := hx.out; unfold wrap64; omega
      have hmod : (x : Int).tmod 300 = (n : Int) := by rw [Int.tmod_eq_emod_of_nonneg (by omega)]; omega
      have hn3 : n < 300 := by omega
      obtain ⟨L0, hL0⟩ : ∃ L0, L0 = List.replicate n (1 : Int) := ⟨_, rfl⟩
      have hok0 : OkL L0 := by rw [hL0]; exact okL_ones n
      have hlen0 : L0.length = n := by rw [hL0, List.length_replicate]
      have HNW := Lib.hid (new_calls (n : Int) w)
      rw [load_new n (by omega), ← hL0] at HNW
      have HOK0 := Lib.hid hok0
      clear hL0 hok0 hn
      go_wp2_with fail
      refine HNW.out.mono ?_
      rintro e w2 ⟨m, r, rfl, hm, hr, hM, hb2⟩
      have hro : ∀ r', some r = some r' → w.heap.size ≤ r' := fun r' e => by cases e; exact hr
      go_wp2_with fail
      refine (play_calls m r L0 A c one w w2 hM (by omega) h1 hb2 hr ha1 ha2).mono ?_
      have hpl := (playK_len L0 one one.length (Nat.le_refl _)).2
      have hok1 := HOK0.out.playK one one.length (Nat.le_refl _)
      obtain ⟨L1, hL1⟩ : ∃ L1, L1 = (playK L0 one one.length).2 := ⟨_, rfl⟩
      rintro e w3 ⟨A3, c3, rfl, _, _, hM3, hg3⟩
      rw [← hL1] at hpl hok1 hM3
      have hlen1 : L1.length = n := by omega
      have hlb : loadR (n : Int) (rowsL L1 2) (rowsL L1 3) = some L1 := by rw [← hlen1]; exact load_back L1 hok1 (by omega)
      have hb3 := below_of_grown hb2 hg3 hro
      have HLB := Lib.hid hlb
      have HRO := Lib.hid hro
      clear hL1 hok1 hpl hlb hro
      go_wp2_with fail
      refine (rows_calls m r L1 2 w3 hM3 (by omega)).mono ?_
      rintro e w4 ⟨A4, c4, rfl, hc4, hI4, _, hb4⟩
      have hM4 := hM3.below hb4
      go_wp2_with fail
      refine (rows_calls m r L1 3 w4 hM4 (by omega)).mono ?_
      rintro e w5 ⟨A5, c5, rfl, hc5, hI5, _, hb5⟩
      have hM5 := hM4.below hb5
      have hl2 := rowsK_length_le L1 2 L1.length
      have hl3 := rowsK_length_le L1 3 L1.length
      have HLD := Lib.hid (load_calls (n : Int) A4 c4 _ A5 c5 _ w5 (hI4.below hb5) hI5 (by unfold rowsL; omega) (by unfold rowsL; omega))
      rw [HLB.out] at HLD
      go_wp2_with fail
      refine HLD.out.mono ?_
      rintro e w6 ⟨m2, r2, rfl, hm2, hr2, hM6b, hb6⟩
      have hM6 := hM5.below hb6
      have hb6' := below_of (below_of (below_of hb3 hb4) hb5) hb6
      have hm5 := hM5.hm
      have hr5 := hM5.hr
      have hs35 : w.heap.size ≤ w5.heap.size := (below_of (below_of hb3 hb4) hb5).size
      clear HLD hI4 hI5 hM hM3 hM4 hM5 hl2 hl3 HLB hg3 hc4 hc5
      have hne1 : m2 ≠ r := by omega
      have hne2 : r2 ≠ r := by omega
      have hne3 : m ≠ r2 := by omega
      go_wp2_with fail
      refine (play_calls m r L1 B d two w w6 hM6 (by omega) h2 hb6' hr hc1 hc2).mono ?_
      rintro e w7 ⟨A7, c7, rfl, hI7, hA7, hM7, hg7⟩
      have hM7b := hM6b.grown hg7 (fun e => hne1 (Option.some.inj e)) (fun e => hne2 (Option.some.inj e))
      have hb7 := below_of_grown hb6' hg7 HRO.out
      go_wp2_with fail
      refine (play_calls m2 r2 L1 B d two w w7 hM7b (by omega) h2 hb7 (by omega) hc1 hc2).mono ?_
      rintro e w8 ⟨A8, c8, rfl, hI8, hA8, hM8b, hg8⟩
      have hM8 := hM7.grown hg8 (fun e => hne3 (Option.some.inj e)) (fun e => hne2 (Option.some.inj e).symm)
      have hr26 := hM6b.hr
      have hI7' := hI7.grown hg8 (fun ad h e => by have := hA7 ad h; have := Option.some.inj e; omega)
      have hb8 := below_of_grown hb7 hg8 (fun r' e => by cases e; omega)
      have hpl := (playK_len L1 two two.length (Nat.le_refl _))
      obtain ⟨P, hP⟩ : ∃ P, P = (playK L1 two two.length).1 := ⟨_, rfl⟩
      obtain ⟨L2, hL2⟩ : ∃ L2, L2 = (playK L1 two two.length).2 := ⟨_, rfl⟩
      rw [← hP] at hI7' hI8 hpl
      rw [← hL2] at hM8 hM8b hpl
      obtain ⟨hpl1, hpl2⟩ := hpl
      rw [← hP]
      have hPb : P.length ≤ 200 := by omega
      clear hpl1 hpl2 hlen1 hlen0 hP hL2 hI7 hg8 hg7 hM7 hM7b hM6 hM6b hA7 hA8 hne1 hne2 hne3 hb7 hb6' hb6 hb5 hb4 hb3 hm5 hr5 hr26 hs35
      go_wp2
      go_loopw [13] (fun iv wr => ∃ k q : Nat, k ≤ P.length ∧ iv = .int .i64 k ∧ wr = w8.drewN q) (fun iv _ => P.length - (intOf iv).toNat)
      case atStart => exact ⟨0, 0, by omega, rfl, rfl⟩
      case round =>
        obtain ⟨k, q, hk, rfl, rfl⟩ := hrel
        by_cases hlt : k < P.length
        · obtain ⟨ad7, rfl, _, hc7⟩ := hI7'.at_ hlt
          obtain ⟨ad8, rfl, _, hc8⟩ := hI8.at_ hlt
          obtain ⟨z, hz⟩ : ∃ z, z = P[k] := ⟨_, rfl⟩
          rw [← hz] at hc7 hc8
          have hk0 : (0 : Int) ≤ (k : Int) := by omega
          have hk1 : (k : Int) < (P.length : Int) := by omega
          clear hz
          go_wp2
          go_quiet (fail)
          go_wp2
          go_roundw
          case rel => exact ⟨k + 1, q + nq, by omega, by go_num, rfl⟩
          case measure => simp [intOf]; omega
        · obtain rfl : k = P.length := by omega
          have hMa : MapAt (w8.drewN q) m r L2 := hM8.below (below_drewN (Below.refl _ _) _)
          have hMb : MapAt (w8.drewN q) m2 r2 L2 := hM8b.below (below_drewN (Below.refl _ _) _)
          have hbq : Below w.heap.size w (w8.drewN q) := below_drewN hb8 _
          clear hM8 hM8b hb8 hI7' hI8
          go_wp2
          go_loopw [14] (fun iv wr => ∃ k : Nat, k ≤ n ∧ iv = .int .i64 k ∧ MapAt wr m r L2 ∧ MapAt wr m2 r2 L2 ∧ Below w.heap.size w wr) (fun iv _ => n - (intOf iv).toNat)
          case atStart => exact ⟨0, by omega, rfl, hMa, hMb, hbq⟩
          case round =>
            obtain ⟨k, hk, rfl, hMa, hMb, hbq⟩ := hrel
            by_cases hlt : k < n
            · go_wp2_with fail
              refine (of_calls m r L2 (k : Int) _ hMa).mono ?_
              rintro e wx ⟨rfl, hbx⟩
              go_wp2_with fail
              refine (of_calls m2 r2 L2 (k : Int) _ (hMb.below hbx)).mono ?_
              rintro e wy ⟨rfl, hby⟩
              go_wp2
              go_roundw
              case rel => exact ⟨k + 1, by omega, by go_num, (hMa.below hbx).below hby, (hMb.below hbx).below hby, below_of (below_of hbq hbx) hby⟩
              case measure => simp [intOf]; omega
            · obtain rfl : k = n := by omega
              have HWz := Lib.hid (works_calls wr)
              go_wp2_with fail
              refine HWz.out.mono ?_
              rintro e wz ⟨rfl, hbz⟩
              go_wp2
              go_ret
              exact ⟨rfl, below_of hbq hbz⟩
    · go_wp2_with fail
      refine HW.out.mono ?_
      rintro e w1 ⟨rfl, hbw⟩
      go_wp2
      go_ret
      exact ⟨rfl, hbw⟩
  · go_wp2_with fail
    refine HW.out.mono ?_
    rintro e w1 ⟨rfl, hbw⟩
    go_wp2
    go_ret
    exact ⟨rfl, hbw⟩

end Go.Proofs.Ytnmnecjelpglhaa.Alloc
