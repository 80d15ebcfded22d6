/- The walk of hoardref10's Turn. -/
import Derived.Test.YtnmnecjelpglhaaAllocRef
import Derived.Test.YtnmnecjelpglhaaAllocPlain
namespace Go.Proofs.Ytnmnecjelpglhaa.Alloc
open Go.RowKit

def RefTurned (w : World) (d : Nat) (o : Option Nat) (cap : Nat) (R : Int × List Int) (e : Ending) (w' : World) : Prop := e = .returned (.int .i64 R.1) ∧ RefAt w' d o cap R.2 ∧ w.grownBy w' o

theorem areB_off {N : Nat} {l : List Int} {q : Nat} (hq : q < l.length) (h : okRow N l[q] = false) : areB N l = false := by
  unfold areB
  rw [List.all_eq_false]
  exact ⟨l[q], List.getElem_mem hq, by rw [h]; simp⟩
theorem areB_on {N : Nat} {l : List Int} (h : ∀ j (hj : j < l.length), okRow N l[j] = true) : areB N l = true := by
  unfold areB
  rw [List.all_eq_true]
  intro x hx
  obtain ⟨j, hj, rfl⟩ := List.getElem_of_mem hx
  exact h j hj

/-- One more round of the document's test: it fails where the row is of another kind, or stood before. -/
theorem turn_bad {L l : List Int} {f t : Int} (hft : f ≠ t) {k : Nat} (hk : k < l.length) (hk0 : 0 ≤ l[k] ∧ l[k] < (L.length : Int)) (hgo : turnGo f t (setAll L (l.take k) t) (l.drop k) = turnGo f t L l)
    (h : L[(l[k]).toNat]? ≠ some f ∨ l[k] ∈ l.take k) : (turnGo f t L l).1 = false := by
  have hi : (l[k]).toNat < L.length := by omega
  rw [← hgo, List.drop_eq_getElem_cons hk, turnGo]
  have hne : (setAll L (l.take k) t)[(l[k]).toNat]? ≠ some f := by
    rw [setAll_get _ _ _ _ hi]
    split
    · intro e; exact hft (Option.some.inj e).symm
    · rename_i hn
      rcases h with h | h
      · exact h
      · exact absurd (List.mem_map_of_mem h) hn
  rw [List.getD]
  have hsz : (l[k]).toNat < (setAll L (l.take k) t).length := by rw [setAll_length]; exact hi
  rw [List.getElem?_eq_getElem hsz] at hne ⊢
  rw [if_neg (by simpa using hne)]
theorem turn_step {L l : List Int} {f t : Int} {k : Nat} (hk : k < l.length) (hb : ∀ j (hj : j < l.length), 0 ≤ l[j] ∧ l[j] < (L.length : Int)) (hgo : turnGo f t (setAll L (l.take k) t) (l.drop k) = turnGo f t L l)
    (h : L[(l[k]).toNat]? = some f) (hn : l[k] ∉ l.take k) : turnGo f t (setAll L (l.take (k + 1)) t) (l.drop (k + 1)) = turnGo f t L l := by
  have hi : (l[k]).toNat < L.length := by have := hb k hk; omega
  rw [← hgo, List.drop_eq_getElem_cons hk, turnGo, List.take_succ_eq_append_getElem hk, setAll_snoc]
  have he : (setAll L (l.take k) t)[(l[k]).toNat]? = some f := by
    rw [setAll_get _ _ _ _ hi, if_neg, h]
    intro hm
    obtain ⟨x, hx, hxe⟩ := List.mem_map.1 hm
    apply hn
    have hx' : x ∈ l := List.mem_of_mem_take hx
    obtain ⟨j, hj, rfl⟩ := List.getElem_of_mem hx'
    have h1 := hb j hj
    have h2 := hb k hk
    have : l[j] = l[k] := by omega
    rw [← this]; exact hx
  rw [List.getD, he]
  simp

theorem IntsAt.grown' {w w' : World} {A : Option Addr} {l : List Int} {o : Option Nat} (h : IntsAt w A l) (hg : w.grownBy w' o) (hne : 0 < l.length → ∀ ad, A = some ad → some ad.block ≠ o) : IntsAt w' A l := fun hl => h.grown hg (hne hl) hl

set_option maxHeartbeats 3200000 in
set_option maxRecDepth 100000 in
theorem refTurn_calls (d cap : Nat) (o : Option Nat) (L : List Int) (A : Option Addr) (c : Nat) (l : List Int) (f t : Int) (w : World) (h : RefAt w d o cap L) (hl : IntsAt w A l) (hn : l.length ≤ 4096)
    (hA : 0 < l.length → ∀ ad, A = some ad → some ad.block ≠ o) (hft : f ≠ t) :
    Calls Try.prog 16 #[.pointer (some ⟨d, 0, none⟩), .slice A l.length c, .int .u8 f, .int .u8 t] w (RefTurned w d o cap (turnL L l f t (areB L.length l))) := by
  go_enter Try.func16, Try.ntmps16
  go_wp2
  go_loopw [9] (fun iv wr => ∃ k : Nat, k ≤ l.length ∧ iv = .int .i64 k ∧ Hid (∀ j (hj : j < l.length), j < k → okRow L.length l[j] = true) ∧ wr = w) (fun iv _ => l.length - (intOf iv).toNat)
  case atStart => exact ⟨0, by omega, rfl, (fun j hj h => by omega), rfl⟩
  case round =>
    obtain ⟨k, hk, rfl, hok, rfl⟩ := hrel
    by_cases hlt : k < l.length
    · obtain ⟨ad, rfl, _, hcx⟩ := hl.at_ hlt
      obtain ⟨x, hx⟩ : ∃ x, x = l[k] := ⟨_, rfl⟩
      rw [← hx] at hcx
      have HI := Lib.hid (is_calls d cap o L x wr h)
      have HX := Lib.hid hx
      cases hr : okRow L.length x
      · rw [hr] at HI
        have hF : Hid (areB L.length l = false) := areB_off hlt (by rw [← hx]; exact hr)
        clear hx
        go_wp2_with (go_at_call 20; refine (HI.out).mono ?_; rintro e w1 ⟨rfl, rfl⟩)
        go_ret
        rw [hF.out]
        exact ⟨rfl, h, World.grownBy.refl _ _⟩
      · rw [hr] at HI
        have hR := Lib.hid hr
        clear hx hr
        go_wp2_with (go_at_call 20; refine (HI.out).mono ?_; rintro e w1 ⟨rfl, rfl⟩)
        go_roundw
        case rel =>
          refine ⟨k + 1, by omega, by go_num, ?_, by first | rfl | trivial⟩
          intro j hj hjq
          by_cases hjq' : j = k
          · subst hjq'; rw [← HX.out]; exact hR.out
          · exact hok.out j hj (by omega)
        case measure => simp [intOf]; omega
    · obtain rfl : k = l.length := by omega
      have hall : ∀ j (hj : j < l.length), 0 ≤ l[j] ∧ l[j] < (L.length : Int) := fun j hj => by simpa [okRow] using hok.out j hj hj
      have HALL := Lib.hid hall
      have HON := Lib.hid (areB_on (fun j hj => hok.out j hj hj))
      clear hall hok
      have hdq : ∀ (x : World) q, x.grownBy (x.drewN q) o := fun x q => grown_of_below (below_drewN (Below.refl _ _) q) _
      have HDQ := Lib.hid hdq
      clear hdq
      go_wp2
      go_loopw [10, 11] (fun iv jv wz => ∃ k q : Nat, k ≤ l.length ∧ iv = .int .i64 k ∧ Hid (turnGo f t (setAll L (l.take k) t) (l.drop k) = turnGo f t L l) ∧ wz = wr.drewN q) (fun iv _ _ => l.length - (intOf iv).toNat)
      case atStart => exact ⟨0, 0, by omega, rfl, rfl, rfl⟩
      case round =>
        obtain ⟨k, q, hk, rfl, hgo, rfl⟩ := hrel
        by_cases hlt : k < l.length
        · obtain ⟨ad, rfl, _, hcx⟩ := hl.at_ hlt
          obtain ⟨x, hx⟩ : ∃ x, x = l[k] := ⟨_, rfl⟩
          have hxb := HALL.out k hlt
          rw [← hx] at hcx hxb
          have HX := Lib.hid hx
          clear hx
          obtain ⟨i, rfl⟩ := Int.eq_ofNat_of_zero_le hxb.1
          have hi1 : i < L.length := by omega
          obtain ⟨g, rfl⟩ := h.some_ (by omega)
          have d1 : wr.cell? ⟨d, 0, none⟩ = some (.slice (some ⟨g, 0, none⟩) L.length cap) := h.c0
          obtain ⟨y, hy⟩ : ∃ y, L[i]? = some y := ⟨_, List.getElem?_eq_getElem hi1⟩
          obtain ⟨hcy, hfy⟩ := (h.row g rfl).1 i y hy
          have HY := Lib.hid hy
          have hk0 : (0 : Int) ≤ (k : Int) := by omega
          have hk1 : (k : Int) < (l.length : Int) := by omega
          have hi0 : (0 : Int) ≤ (i : Int) := by omega
          have hi2 : (i : Int) < (L.length : Int) := by omega
          clear hy hxb
          cases hne : (y != f)
          · go_wp2
            go_quiet (fail)
            go_wp2
            go_loopw [11] (fun jv wz => ∃ p q : Nat, p ≤ k ∧ jv = .int .i64 p ∧ Hid (∀ j (hj : j < l.length), j < p → l[j] ≠ (i : Int)) ∧ wz = wr.drewN q) (fun jv _ => k - (intOf jv).toNat)
            case atStart => exact ⟨0, q + nq, by omega, rfl, (fun j hj h => by omega), by simp [World.drewN]; try omega⟩
            case round =>
              obtain ⟨p, q2, hp, rfl, hno, rfl⟩ := hrel
              by_cases hpk : p < k
              · have hpl : p < l.length := by omega
                obtain ⟨ad', hae, _, hcz⟩ := hl.at_ hpl
                obtain rfl : ad' = ad := (Option.some.inj hae).symm
                clear hae
                obtain ⟨z, hz⟩ : ∃ z, z = l[p] := ⟨_, rfl⟩
                rw [← hz] at hcz
                have HZ := Lib.hid hz
                have hp0 : (0 : Int) ≤ (p : Int) := by omega
                have hp1 : (p : Int) < (l.length : Int) := by omega
                clear hz
                cases hzi : (z == (i : Int))
                · go_wp2
                  go_quiet (fail)
                  go_wp2
                  go_roundw
                  case rel =>
                    refine ⟨p + 1, q2 + nq, by omega, by go_num, ?_, rfl⟩
                    intro j hj hjp
                    by_cases hjp' : j = p
                    · subst hjp'; rw [← HZ.out]; simpa using hzi
                    · exact hno.out j hj (by omega)
                  case measure => simp [intOf]; omega
                · have hF : Hid ((turnGo f t L l).1 = false) := turn_bad hft hlt (HALL.out k hlt) hgo.out (.inr (by
                    rw [← HX.out, ← (show z = (i : Int) by simpa using hzi), HZ.out, List.mem_take_iff_getElem]
                    exact ⟨p, by omega, rfl⟩))
                  go_wp2
                  go_quiet (fail)
                  go_wp2
                  go_ret
                  unfold turnL
                  rw [HON.out, hF.out]
                  exact ⟨rfl, h.below (below_drewN (below_drewN (Below.refl _ _) _) _), grown_of_below (below_drewN (below_drewN (Below.refl _ _) _) _) _⟩
              · obtain rfl : p = k := by omega
                have hs : Hid (turnGo f t (setAll L (l.take (p + 1)) t) (l.drop (p + 1)) = turnGo f t L l) := turn_step hlt HALL.out hgo.out (by rw [← HX.out, Int.toNat_natCast, HY.out]; simpa using hne) (fun hm => by
                  obtain ⟨j, hj, he⟩ := List.mem_take_iff_getElem.1 hm
                  exact hno.out j (by omega) (by omega) (by rw [he, HX.out]))
                go_wp2
                go_roundw
                case rel => exact ⟨p + 1, _, by omega, by go_num, hs, rfl⟩
                case measure => simp [intOf]; omega
          · have hF : Hid ((turnGo f t L l).1 = false) := turn_bad hft hlt (HALL.out k hlt) hgo.out (.inl (by rw [← HX.out, Int.toNat_natCast, HY.out]; simpa using hne))
            go_wp2
            go_quiet (fail)
            go_wp2
            go_ret
            unfold turnL
            rw [HON.out, hF.out]
            exact ⟨rfl, h.below (below_drewN (below_drewN (Below.refl _ _) _) _), grown_of_below (below_drewN (below_drewN (Below.refl _ _) _) _) _⟩
        · obtain rfl : k = l.length := by omega
          have hT : turnL L l f t true = (0, setAll L l t) := by
            have h1 := hgo.out
            rw [List.take_length, List.drop_length] at h1
            unfold turnL
            rw [← h1]; simp [turnGo]
          have HT := Lib.hid hT
          have hM0 : RefAt (wr.drewN q) d o cap L := h.below (below_drewN (Below.refl _ _) _)
          have hg0 : wr.grownBy (wr.drewN q) o := HDQ.out _ _
          have hlq : IntsAt (wr.drewN q) A l := hl.below (below_drewN (Below.refl _ _) _)
          have hdr : ∀ x : World, x.grownBy x.drew o := fun x => grown_of_below (below_drew (Below.refl _ _)) _
          have HDR := Lib.hid hdr
          clear hT hdr hgo
          go_wp2
          go_loopw [12] (fun iv wz => ∃ k : Nat, k ≤ l.length ∧ iv = .int .i64 k ∧ RefAt wz d o cap (setAll L (l.take k) t) ∧ wr.grownBy wz o) (fun iv _ => l.length - (intOf iv).toNat)
          case atStart => exact ⟨0, by omega, rfl, hM0, hg0⟩
          case round =>
            obtain ⟨k, hk, rfl, hMk, hgk⟩ := hrel
            have hIk := hl.grown' hgk hA
            have hsz : (setAll L (l.take k) t).length = L.length := setAll_length _ _ _
            have d0 := hMk.c0
            rw [hsz] at d0
            by_cases hlt : k < l.length
            · obtain ⟨ad, rfl, _, hcx⟩ := hIk.at_ hlt
              obtain ⟨x, hx⟩ : ∃ x, x = l[k] := ⟨_, rfl⟩
              have hxb := HALL.out k hlt
              rw [← hx] at hcx hxb
              obtain ⟨i, rfl⟩ := Int.eq_ofNat_of_zero_le hxb.1
              have hi1 : i < L.length := by omega
              obtain ⟨g, rfl⟩ := h.some_ (by omega)
              have d1 : wr.cell? ⟨d, 0, none⟩ = some (.slice (some ⟨g, 0, none⟩) L.length cap) := d0
              clear d0
              obtain ⟨y, hy⟩ : ∃ y, (setAll L (l.take k) t)[i]? = some y := ⟨_, List.getElem?_eq_getElem (by rw [hsz]; exact hi1)⟩
              obtain ⟨hcy, hfy⟩ := (hMk.row g rfl).1 i y hy
              have HX := Lib.hid hx
              have hk0 : (0 : Int) ≤ (k : Int) := by omega
              have hk1 : (k : Int) < (l.length : Int) := by omega
              have hi0 : (0 : Int) ≤ (i : Int) := by omega
              have hi2 : (i : Int) < (L.length : Int) := by omega
              clear hx hy hxb hsz hM0 hg0 hlq
              go_wp2
              go_region
              go_wp2
              go_roundw
              case rel =>
                refine ⟨k + 1, by omega, by go_num, ?_, grown_trans hgk (grown_trans (grown_set _ _ _ _) (HDR.out _))⟩
                rw [List.take_succ_eq_append_getElem hlt, setAll_snoc, ← HX.out]
                exact (hMk.set i (by rw [setAll_length]; exact hi1) t).below (below_drew (Below.refl _ _))
              case measure => simp [intOf]; omega
            · obtain rfl : k = l.length := by omega
              rw [List.take_length] at hMk
              clear hsz
              go_wp2
              go_ret
              rw [HON.out, HT.out]
              exact ⟨rfl, hMk, hgk⟩

end Go.Proofs.Ytnmnecjelpglhaa.Alloc
