/- The walk of package alloc's turn, and of Drop and Clear. -/
import Derived.Test.YtnmnecjelpglhaaAllocReads
import Derived.Test.YtnmnecjelpglhaaAllocPlain
namespace Go.Proofs.Ytnmnecjelpglhaa.Alloc
open Go.RowKit

/-- What turn leaves. -/
def Turned (w : World) (m r : Nat) (R : Int × List Int) (e : Ending) (w' : World) : Prop := e = .returned (.int .i64 R.1) ∧ MapAt w' m r R.2 ∧ w.grownBy w' (some r)

set_option maxHeartbeats 3200000 in
set_option maxRecDepth 100000 in
theorem turn_calls (m r : Nat) (L : List Int) (A : Option Addr) (c : Nat) (l : List Int) (f t : Int) (w : World) (h : MapAt w m r L) (hl : IntsAt w A l) (hn : l.length ≤ 9223372036854775807) (hc : l.length ≤ c)
    (hA : ∀ ad, A = some ad → ad.block ≠ r) (hft : f ≠ t) :
    Calls Try.prog 25 #[.pointer (some ⟨m, 0, none⟩), .slice A l.length c, .int .u8 f, .int .u8 t] w (Turned w m r (turnL L l f t (areB L.length l))) := by
  have c0 := h.c0
  have c1 := h.c1
  have HR := Lib.hid (are_calls m r L A c l w h hl hn)
  cases hb : areB L.length l
  · go_enter Try.func25, Try.ntmps25
    go_wp2
    go_step3
    go_wp2_with (go_at_call 24; refine (HR.out).mono ?_; rintro e w1 ⟨rfl, rfl⟩)
    rw [Exit.noGoto_ret]
    go_ret
    exact ⟨rfl, h, World.grownBy.refl _ _⟩
  · have hall : ∀ k (hk : k < l.length), 0 ≤ l[k] ∧ l[k] < (L.length : Int) := fun k hk => by
      unfold areB at hb
      rw [List.all_eq_true] at hb
      simpa [okRow] using hb _ (List.getElem_mem hk)
    have HALL := Lib.hid hall
    clear hall
    go_enter Try.func25, Try.ntmps25
    go_wp2
    go_step3
    go_wp2_with (go_at_call 24; refine (HR.out).mono ?_; rintro e w1 ⟨rfl, rfl⟩)
    go_step3
    go_wp2
    go_loopw [9, 10, 32] (fun dv ev iv wr => ∃ k : Nat, k ≤ l.length ∧ dv = .int .i64 0 ∧ ev = .int .i64 0 ∧ iv = .int .i64 k ∧ Hid (turnGo f t (setAll L (l.take k) t) (l.drop k) = turnGo f t L l) ∧ Hid (∀ j, j ∈ (l.take k).map Int.toNat → L[j]? = some f) ∧ MapAt wr m r (setAll L (l.take k) t) ∧ w.grownBy wr (some r)) (fun _ _ iv _ => l.length - (intOf iv).toNat)
    case atStart => exact ⟨0, by omega, rfl, rfl, rfl, rfl, fun j hj => by simp at hj, h, World.grownBy.refl _ _⟩
    case round =>
      obtain ⟨k, hk, rfl, rfl, rfl, hgo, hfr, hM, hg⟩ := hrel
      have hlr := hl.grown hg (fun ad e e2 => hA ad e (Option.some.inj e2))
      have d0 := hM.c0
      by_cases hlt : k < l.length
      · obtain ⟨ad, rfl, hadb, hcx⟩ := hlr.at_ hlt
        obtain ⟨x, hx⟩ : ∃ x, x = l[k] := ⟨_, rfl⟩
        have hxb := HALL.out k hlt
        rw [← hx] at hcx hxb
        obtain ⟨i, rfl⟩ := Int.eq_ofNat_of_zero_le hxb.1
        have hiL : i < (setAll L (l.take k) t).length := by rw [setAll_length]; omega
        obtain ⟨y, hy⟩ : ∃ y, (setAll L (l.take k) t)[i]? = some y := ⟨_, List.getElem?_eq_getElem hiL⟩
        obtain ⟨hcy, hfy⟩ := hM.row i y hy
        have HX := Lib.hid hx
        have HY := Lib.hid hy
        have hi1 : i < L.length := by omega
        have hsz : (setAll L (l.take k) t).length = L.length := setAll_length _ _ _
        rw [hsz] at d0
        clear hx hy hxb hsz hiL
        cases hne : (y != f)
        · go_wp2
          go_roundw
          case rel =>
            have hyf : y = f := by simpa using hne
            have hs : setAll L (l.take (k + 1)) t = (setAll L (l.take k) t).set i t := by
              rw [List.take_succ_eq_append_getElem hlt, setAll_snoc, ← HX.out]; rfl
            have hyi : (setAll L (l.take k) t)[i]? = some f := by rw [← hyf, HY.out]
            refine ⟨k + 1, by omega, rfl, rfl, by go_num, ?_, ?_, ?_, grown_trans hg (grown_set _ _ _ _)⟩
            · show turnGo _ _ _ _ = _
              rw [hs, ← hgo.out, List.drop_eq_getElem_cons hlt, ← HX.out]
              rw [turnGo]
              simp [List.getD, hyi]
            · intro j hj
              rw [List.take_succ_eq_append_getElem hlt, List.map_append, List.mem_append] at hj
              rcases hj with hj | hj
              · exact hfr.out j hj
              · have : j = i := by rw [← HX.out] at hj; simpa using hj
                subst this
                exact mem_of_from L (l.take k) f t hft _ hi1 hyi
            · rw [hs]
              exact hM.set i (by rw [setAll_length]; exact hi1) t
          case measure => simp [intOf]; omega
        · have hT : Hid (turnL L l f t true = (3, L)) := by
            show turnL _ _ _ _ _ = _
            have hyf : ¬ y = f := by simpa using hne
            have e1 : (turnGo f t L l).1 = false := by
              rw [← hgo.out, List.drop_eq_getElem_cons hlt, ← HX.out, turnGo]
              have hyi := HY.out
              simp [List.getD, hyi, hyf]
            unfold turnL
            rw [e1]; simp
          have hc0 : ¬ c = 0 := by omega
          go_wp2
          obtain ⟨wo, rfl⟩ : ∃ wo : World, wo = wr := ⟨_, rfl⟩
          go_loopw [62] (fun iv wr => ∃ q : Nat, q ≤ k ∧ iv = .int .i64 q ∧ MapAt wr m r (setAll (setAll L (l.take k) t) (l.take q) f) ∧ w.grownBy wr (some r)) (fun iv _ => k - (intOf iv).toNat)
          case atStart => exact ⟨0, by omega, rfl, hM, hg⟩
          case round =>
            obtain ⟨q, hq, rfl, hM2, hg2⟩ := hrel
            clear hcx hcy hfy d0 hg hM hlr
            have hlr2 := hl.grown hg2 (fun ad e e2 => hA ad e (Option.some.inj e2))
            have d0 := hM2.c0
            have hsz2 : (setAll (setAll L (l.take k) t) (l.take q) f).length = L.length := by rw [setAll_length, setAll_length]
            rw [hsz2] at d0
            by_cases hq2 : q < k
            · have hql : q < l.length := by omega
              obtain ⟨ad', hae, _, hcx⟩ := hlr2.at_ hql
              obtain rfl : ad' = ad := (Option.some.inj hae).symm
              clear hae
              obtain ⟨x, hx⟩ : ∃ x, x = l[q] := ⟨_, rfl⟩
              have hxb := HALL.out q hql
              rw [← hx] at hcx hxb
              obtain ⟨i', rfl⟩ := Int.eq_ofNat_of_zero_le hxb.1
              have hi2 : i' < L.length := by omega
              obtain ⟨y', hy⟩ : ∃ y', (setAll (setAll L (l.take k) t) (l.take q) f)[i']? = some y' := ⟨_, List.getElem?_eq_getElem (by rw [hsz2]; exact hi2)⟩
              obtain ⟨hcy, hfy⟩ := hM2.row i' y' hy
              have HX2 := Lib.hid hx
              clear hx hy hxb hsz2
              go_wp2
              go_roundw
              case rel =>
                refine ⟨q + 1, by omega, by go_num, ?_, grown_trans hg2 (grown_set _ _ _ _)⟩
                rw [List.take_succ_eq_append_getElem hql, setAll_snoc, ← HX2.out]
                exact hM2.set i' (by rw [setAll_length, setAll_length]; exact hi2) f
              case measure => simp [intOf]; omega
            · obtain rfl : q = k := by omega
              clear hsz2
              go_wp2
              rw [Exit.noGoto_ret]
              go_ret
              rw [setAll_back _ _ _ _ hfr.out] at hM2
              exact ⟨by rw [hT.out]; rfl, by rw [hT.out]; exact hM2, hg2⟩
      · obtain rfl : k = l.length := by omega
        go_wp2
        rw [Exit.noGoto_ret]
        go_ret
        have hgo' := hgo.out
        rw [List.take_length, List.drop_length] at hgo'
        have hT : turnL L l f t true = (0, setAll L l t) := by
          unfold turnL
          rw [← hgo']
          simp [turnGo]
        rw [List.take_length] at hM
        exact ⟨by rw [hT]; rfl, by rw [hT]; exact hM, hg⟩


set_option maxHeartbeats 400000 in
theorem drop_calls (m r : Nat) (L : List Int) (A : Option Addr) (c : Nat) (l : List Int) (w : World) (h : MapAt w m r L) (hl : IntsAt w A l) (hn : l.length ≤ 9223372036854775807) (hc : l.length ≤ c) (hA : ∀ ad, A = some ad → ad.block ≠ r) :
    Calls Try.prog 15 #[.pointer (some ⟨m, 0, none⟩), .slice A l.length c] w (Turned w m r (turnL L l 2 3 (areB L.length l))) := by
  go_enter Try.func15, Try.ntmps15
  go_wp2_with fail
  refine (turn_calls m r L A c l 2 3 w h hl hn hc hA (by decide)).mono ?_
  rintro e w1 ⟨rfl, hM, hg⟩
  go_wp2
  go_ret
  exact ⟨rfl, hM, hg⟩

set_option maxHeartbeats 400000 in
theorem clear_calls (m r : Nat) (L : List Int) (A : Option Addr) (c : Nat) (l : List Int) (w : World) (h : MapAt w m r L) (hl : IntsAt w A l) (hn : l.length ≤ 9223372036854775807) (hc : l.length ≤ c) (hA : ∀ ad, A = some ad → ad.block ≠ r) :
    Calls Try.prog 17 #[.pointer (some ⟨m, 0, none⟩), .slice A l.length c] w (Turned w m r (turnL L l 3 1 (areB L.length l))) := by
  go_enter Try.func17, Try.ntmps17
  go_wp2_with fail
  refine (turn_calls m r L A c l 3 1 w h hl hn hc hA (by decide)).mono ?_
  rintro e w1 ⟨rfl, hM, hg⟩
  go_wp2
  go_ret
  exact ⟨rfl, hM, hg⟩

end Go.Proofs.Ytnmnecjelpglhaa.Alloc
