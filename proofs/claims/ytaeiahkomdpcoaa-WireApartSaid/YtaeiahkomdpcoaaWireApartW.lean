/- The walk of hoardlaw03.WireApart. -/
import Derived.Test.YtaeiahkomdpcoaaWireAlive
namespace Go.Proofs.Ytaeiahkomdpcoaa.Wire
open Go.RowKit Go.Proofs.Ytaeiahkomdpcoaa.Num

theorem str_eq (x y : ByteArray) : (x.toList == y.toList) = decide (x = y) := by
  rw [ByteArray.toList_eq, ByteArray.toList_eq]
  by_cases h : x = y
  · subst h; simp
  · rw [decide_eq_false h, beq_eq_false_iff_ne]
    intro e
    exact h (ByteArray.ext (Array.toList_inj.1 e))
theorem bs_inj {a b : Bs} (h : bs a = bs b) : a = b := congrArg (fun x : ByteArray => x.data.toList) h

def likeK {α : Type} [DecidableEq α] (a b : List α) (k : Nat) : Bool := decide (a.length = b.length) && decide (a.take k = b.take k)
theorem likeK_zero {α : Type} [DecidableEq α] (a b : List α) : likeK a b 0 = decide (a.length = b.length) := by simp [likeK]
theorem likeK_all {α : Type} [DecidableEq α] (a b : List α) : likeK a b a.length = decide (a = b) := by
  unfold likeK
  by_cases h : a.length = b.length
  · rw [decide_eq_true h, Bool.true_and, List.take_length, List.take_of_length_le (by omega)]
  · rw [decide_eq_false h, Bool.false_and, decide_eq_false (fun e => h (by rw [e]))]
theorem likeK_succ {α : Type} [DecidableEq α] (a b : List α) (k : Nat) (ha : k < a.length) (hb : k < b.length) (h : likeK a b k = true) : likeK a b (k + 1) = decide (a[k] = b[k]) := by
  simp only [likeK, Bool.and_eq_true, decide_eq_true_eq] at h
  unfold likeK
  rw [decide_eq_true h.1, Bool.true_and, List.take_succ_eq_append_getElem ha, List.take_succ_eq_append_getElem hb, h.2]
  apply decide_eq_decide.2
  simp only [List.append_cancel_left_eq, List.cons.injEq, and_true]
theorem likeK_false {α : Type} [DecidableEq α] (a b : List α) (k : Nat) (h : likeK a b k = false) (j : Nat) (hj : k ≤ j) : likeK a b j = false := by
  unfold likeK at h ⊢
  rw [Bool.and_eq_false_iff] at h ⊢
  rcases h with h | h
  · exact .inl h
  · refine .inr ?_
    rw [decide_eq_false_iff_not] at h ⊢
    intro e
    apply h
    have := congrArg (List.take k) e
    rw [List.take_take, List.take_take, Nat.min_eq_left hj] at this
    exact this
theorem likeK_len {α : Type} [DecidableEq α] {a b : List α} {k : Nat} (h : likeK a b k = true) : a.length = b.length := by
  simp only [likeK, Bool.and_eq_true, decide_eq_true_eq] at h
  exact h.1
theorem likeK_not {α : Type} [DecidableEq α] (a b : List α) (k : Nat) (hk : k ≤ a.length) (h : likeK a b k = false) : decide (a = b) = false := by
  rw [← likeK_all]; exact likeK_false a b k h _ hk

theorem dt_inj {a b : List ByteArray} (h : dt a = dt b) : a = b := by
  exact (List.map_inj_right (fun x y e => ByteArray.ext (Array.toList_inj.1 e))).1 h
theorem int_beq (a b : Nat) : ((a : Int) == (b : Int)) = decide (a = b) := by
  by_cases h : a = b
  · subst h; simp
  · rw [decide_eq_false h, beq_eq_false_iff_ne]; omega

set_option maxHeartbeats 6400000 in
set_option maxRecDepth 100000 in
theorem apart_calls (A B C D : Option Addr) (c d e f : Nat) (a b : List ByteArray) (u v : List Nat) (w : World) (hA : ListAt w A (textsV a)) (hB : ListAt w B (textsV b)) (hC : ListAt w C (numsV u)) (hD : ListAt w D (numsV v)) (hu : ∀ x ∈ u, x < 18446744073709551616) (hv : ∀ x ∈ v, x < 18446744073709551616)
    (hal : a.length ≤ 9223372036854775807) (hbl : b.length ≤ 9223372036854775807) (hul : u.length ≤ 9223372036854775807) (hvl : v.length ≤ 9223372036854775807) (has : ∀ s ∈ a, s.size ≤ maxLen) (hbs : ∀ s ∈ b, s.size ≤ maxLen) :
    Calls Try.prog 5 #[.slice A a.length c, .slice B b.length d, .slice C u.length e, .slice D v.length f] w fun e w' => e = .returned (.bool true) ∧ Below w.heap.size w w' := by
  by_cases hla : 60 < a.length
  · go_enter Try.func5, Try.ntmps5
    go_wp2_with fail
    refine (alive_calls _).mono ?_
    rintro e w1 ⟨rfl, hb⟩
    go_wp2
    go_ret
    exact ⟨rfl, hb⟩
  by_cases hlb : 60 < b.length
  · go_enter Try.func5, Try.ntmps5
    go_wp2_with fail
    refine (alive_calls _).mono ?_
    rintro e w1 ⟨rfl, hb⟩
    go_wp2
    go_ret
    exact ⟨rfl, hb⟩
  by_cases hlu : 60 < u.length
  · go_enter Try.func5, Try.ntmps5
    go_wp2_with fail
    refine (alive_calls _).mono ?_
    rintro e w1 ⟨rfl, hb⟩
    go_wp2
    go_ret
    exact ⟨rfl, hb⟩
  by_cases hlv : 60 < v.length
  · go_enter Try.func5, Try.ntmps5
    go_wp2_with fail
    refine (alive_calls _).mono ?_
    rintro e w1 ⟨rfl, hb⟩
    go_wp2
    go_ret
    exact ⟨rfl, hb⟩
  have ha0 : (a.length : Int) ≤ 60 := by omega
  have hb0 : (b.length : Int) ≤ 60 := by omega
  have hu0 : (u.length : Int) ≤ 60 := by omega
  have hv0 : (v.length : Int) ≤ 60 := by omega
  go_enter Try.func5, Try.ntmps5
  go_wp2
  go_loopw [9, 10] (fun sv iv wr => ∃ k : Nat, k ≤ a.length ∧ iv = .int .i64 k ∧ sv = .bool (likeK a b k) ∧ Hid (∀ s ∈ a.take k, s.size ≤ 1024) ∧ Below w.heap.size w wr) (fun _ iv _ => a.length - (intOf iv).toNat)
  case atStart => exact ⟨0, by omega, rfl, by rw [likeK_zero, ← int_beq], Lib.hid (by simp), Below.refl _ _⟩
  case round =>
    obtain ⟨k, hk, rfl, rfl, hall, hb⟩ := hrel
    by_cases hlt : k < a.length
    · obtain ⟨ad, rfl, _, hcx⟩ := (hA.below hb).text hlt
      have hst := has a[k] (List.getElem_mem hlt)
      unfold maxLen at hst
      have HN := Lib.hid (List.take_succ_eq_append_getElem hlt)
      have hi0 : (0 : Int) ≤ (k : Int) := by omega
      have hi1 : (k : Int) < (a.length : Int) := by omega
      by_cases hx4 : 1024 < a[k].size
      · obtain ⟨x, hxe⟩ : ∃ x, x = a[k] := ⟨_, rfl⟩
        rw [← hxe] at hcx hst hx4
        clear hxe HN
        go_wp2_with fail
        refine (alive_calls _).mono ?_
        rintro e w1 ⟨rfl, hb1⟩
        go_wp2
        go_ret
        exact ⟨rfl, below_of hb hb1⟩
      · cases hsm : likeK a b k
        · have HF := Lib.hid (likeK_false a b k hsm (k + 1) (by omega))
          obtain ⟨x, hxe⟩ : ∃ x, x = a[k] := ⟨_, rfl⟩
          rw [← hxe] at hcx hst HN hx4
          clear hxe hsm
          go_wp2
          go_quiet (fail)
          go_wp2
          go_roundw
          case rel =>
            refine ⟨k + 1, by omega, by go_num, by rw [HF.out], Lib.hid (fun s hs => ?_), below_drewN hb _⟩
            rw [HN.out, List.mem_append] at hs
            rcases hs with hs | hs
            · exact hall.out s hs
            · simp at hs; subst hs; omega
          case measure => simp [intOf]; omega
        · have hlen := likeK_len hsm
          have hlt2 : k < b.length := by omega
          have hi2 : (k : Int) < (b.length : Int) := by omega
          have HF := Lib.hid (likeK_succ a b k hlt hlt2 hsm)
          obtain ⟨ad2, rfl, _, hcy⟩ := (hB.below hb).text hlt2
          obtain ⟨x, hxe⟩ : ∃ x, x = a[k] := ⟨_, rfl⟩
          obtain ⟨y, hye⟩ : ∃ y, y = b[k] := ⟨_, rfl⟩
          rw [← hxe] at hcx hst HN hx4
          rw [← hye] at hcy
          rw [← hxe, ← hye] at HF
          clear hxe hye hsm hlen
          go_wp2
          go_quiet (fail)
          go_wp2
          go_roundw
          case rel =>
            refine ⟨k + 1, by omega, by go_num, by rw [HF.out, ← str_eq], Lib.hid (fun s hs => ?_), below_drewN hb _⟩
            rw [HN.out, List.mem_append] at hs
            rcases hs with hs | hs
            · exact hall.out s hs
            · simp at hs; subst hs; omega
          case measure => simp [intOf]; omega
    · obtain rfl : k = a.length := by omega
      rw [List.take_length] at hall
      have HSM := Lib.hid (likeK_all a b)
      obtain ⟨sm, hsm⟩ : ∃ sm, sm = likeK a b a.length := ⟨_, rfl⟩
      rw [← hsm] at HSM
      rw [← hsm]
      clear hsm hlt has
      go_wp2
      go_loopw [11] (fun iv wr => ∃ k : Nat, k ≤ b.length ∧ iv = .int .i64 k ∧ Hid (∀ s ∈ b.take k, s.size ≤ 1024) ∧ Below w.heap.size w wr) (fun iv _ => b.length - (intOf iv).toNat)
      case atStart => exact ⟨0, by omega, rfl, Lib.hid (by simp), hb⟩
      case round =>
        obtain ⟨k, hk, rfl, hall2, hb⟩ := hrel
        by_cases hlt : k < b.length
        · obtain ⟨ad, rfl, _, hcx⟩ := (hB.below hb).text hlt
          have hst := hbs b[k] (List.getElem_mem hlt)
          unfold maxLen at hst
          have HN := Lib.hid (List.take_succ_eq_append_getElem hlt)
          obtain ⟨x, hxe⟩ : ∃ x, x = b[k] := ⟨_, rfl⟩
          rw [← hxe] at hcx hst HN
          clear hxe
          by_cases hx4 : 1024 < x.size
          · go_wp2_with fail
            refine (alive_calls _).mono ?_
            rintro e w1 ⟨rfl, hb1⟩
            go_wp2
            go_ret
            exact ⟨rfl, below_of hb hb1⟩
          · go_wp2
            go_roundw
            case rel =>
              refine ⟨k + 1, by omega, by go_num, Lib.hid (fun s hs => ?_), hb⟩
              rw [HN.out, List.mem_append] at hs
              rcases hs with hs | hs
              · exact hall2.out s hs
              · simp at hs; subst hs; omega
            case measure => simp [intOf]; omega
        · obtain rfl : k = b.length := by omega
          rw [List.take_length] at hall2
          clear hlt hbs
          go_wp2
          go_loopw [12, 13] (fun sv iv wr => ∃ k : Nat, k ≤ u.length ∧ iv = .int .i64 k ∧ sv = .bool (likeK u v k) ∧ Below w.heap.size w wr) (fun _ iv _ => u.length - (intOf iv).toNat)
          case atStart => exact ⟨0, by omega, rfl, by rw [likeK_zero, ← int_beq], hb⟩
          case round =>
            obtain ⟨k, hk, rfl, rfl, hb⟩ := hrel
            by_cases hgo : k < u.length ∧ likeK u v k = true
            · obtain ⟨hlt, hsm⟩ := hgo
              have hlen := likeK_len hsm
              have hlt2 : k < v.length := by omega
              have hi0 : (0 : Int) ≤ (k : Int) := by omega
              have hi1 : (k : Int) < (u.length : Int) := by omega
              have hi2 : (k : Int) < (v.length : Int) := by omega
              have HF := Lib.hid (likeK_succ u v k hlt hlt2 hsm)
              obtain ⟨ad, rfl, _, hcx⟩ := (hC.below hb).num hlt
              obtain ⟨ad2, rfl, _, hcy⟩ := (hD.below hb).num hlt2
              obtain ⟨x, hxe⟩ : ∃ x, x = u[k] := ⟨_, rfl⟩
              obtain ⟨y, hye⟩ : ∃ y, y = v[k] := ⟨_, rfl⟩
              rw [← hxe] at hcx
              rw [← hye] at hcy
              rw [← hxe, ← hye] at HF
              rw [hsm]
              clear hxe hye hsm hlen
              go_wp2
              go_quiet (fail)
              go_wp2
              go_roundw
              case rel =>
                refine ⟨k + 1, by omega, by go_num, ?_, below_drewN hb _⟩
                rw [HF.out, ← int_beq]
              case measure => simp [intOf]; omega
            · have HLK : Hid (likeK u v k = decide (u = v)) := by
                show _ = _
                by_cases hlt : k < u.length
                · have hf : likeK u v k = false := by
                    cases hh : likeK u v k
                    · rfl
                    · exact absurd ⟨hlt, hh⟩ hgo
                  rw [hf, likeK_not u v k hk hf]
                · obtain rfl : k = u.length := by omega
                  exact likeK_all u v
              have HT1 := Lib.hid (fun W (h : ListAt W A (textsV a)) => texts_calls A c a W h (fun s hs => Nat.le_trans (hall.out s hs) (by decide)) (by omega))
              have HT2 := Lib.hid (fun W (h : ListAt W B (textsV b)) => texts_calls B d b W h (fun s hs => Nat.le_trans (hall2.out s hs) (by decide)) (by omega))
              have HU1 := Lib.hid (fun W (h : ListAt W C (numsV u)) => nums_calls C e u W h hu (by omega))
              have HU2 := Lib.hid (fun W (h : ListAt W D (numsV v)) => nums_calls D f v W h hv (by omega))
              have hq1 : ((bs (textsW (dt a))).toList == (bs (textsW (dt b))).toList) = sm := by
                rw [HSM.out, str_eq]
                apply decide_eq_decide.2
                refine ⟨fun h => dt_inj (textsW_inj _ _ (fun s hs => ?_) (fun s hs => ?_) (bs_inj h)), fun h => by rw [h]⟩
                · have := dt_len a 1024 hall.out s hs; omega
                · have := dt_len b 1024 hall2.out s hs; omega
              have hq2 : ((bs (numsW u)).toList == (bs (numsW v)).toList) = likeK u v k := by
                rw [HLK.out, str_eq]
                apply decide_eq_decide.2
                exact ⟨fun h => numsW_inj _ _ hu hv (bs_inj h), fun h => by rw [h]⟩
              obtain ⟨y1, hy1⟩ : ∃ y, y = bs (textsW (dt a)) := ⟨_, rfl⟩
              obtain ⟨y2, hy2⟩ : ∃ y, y = bs (textsW (dt b)) := ⟨_, rfl⟩
              obtain ⟨y3, hy3⟩ : ∃ y, y = bs (numsW u) := ⟨_, rfl⟩
              obtain ⟨y4, hy4⟩ : ∃ y, y = bs (numsW v) := ⟨_, rfl⟩
              have hgo' : ¬ (k < u.length ∧ likeK u v k = true) := hgo
              obtain ⟨lk, hlk⟩ : ∃ lk, lk = likeK u v k := ⟨_, rfl⟩
              rw [← hy1, ← hy2] at hq1
              rw [← hy3, ← hy4, ← hlk] at hq2
              rw [← hlk] at hgo' ⊢
              simp only [← hy1] at HT1
              simp only [← hy2] at HT2
              simp only [← hy3] at HU1
              simp only [← hy4] at HU2
              have HA := Lib.hid hA
              have HB := Lib.hid hB
              have HC := Lib.hid hC
              have HD := Lib.hid hD
              clear hy1 hy2 hy3 hy4 hlk HLK HSM hgo hu hv hall hall2 hA hB hC hD
              have hex : lk = true → ¬ ((k : Int) < (u.length : Int)) := fun h1 h2 => hgo' ⟨by omega, h1⟩
              clear hgo'
              cases lk
              · clear hex
                rcases Nat.lt_or_ge k u.length with hkk | hkk
                · cases sm
                  · go_wp2_with fail
                    refine (HT1.out _ (HA.out.below hb)).mono ?_
                    rintro e w1 ⟨rfl, b1⟩
                    have c1 := below_of hb b1
                    go_wp2_with fail
                    refine (HT2.out _ (HB.out.below c1)).mono ?_
                    rintro e w2 ⟨rfl, b2⟩
                    have c2 := below_of c1 b2
                    go_wp2_with fail
                    refine (HU1.out _ (HC.out.below c2)).mono ?_
                    rintro e w3 ⟨rfl, b3⟩
                    have c3 := below_of c2 b3
                    go_wp2_with fail
                    refine (HU2.out _ (HD.out.below c3)).mono ?_
                    rintro e w4 ⟨rfl, b4⟩
                    have c4 := below_of c3 b4
                    go_wp2_with fail
                    refine (alive_calls _).mono ?_
                    rintro e w5 ⟨rfl, b5⟩
                    go_wp2
                    go_ret
                    exact ⟨rfl, below_of c4 b5⟩
                  · go_wp2_with fail
                    refine (HT1.out _ (HA.out.below hb)).mono ?_
                    rintro e w1 ⟨rfl, b1⟩
                    have c1 := below_of hb b1
                    go_wp2_with fail
                    refine (HT2.out _ (HB.out.below c1)).mono ?_
                    rintro e w2 ⟨rfl, b2⟩
                    have c2 := below_of c1 b2
                    go_wp2_with fail
                    refine (HU1.out _ (HC.out.below c2)).mono ?_
                    rintro e w3 ⟨rfl, b3⟩
                    have c3 := below_of c2 b3
                    go_wp2_with fail
                    refine (HU2.out _ (HD.out.below c3)).mono ?_
                    rintro e w4 ⟨rfl, b4⟩
                    have c4 := below_of c3 b4
                    go_wp2_with fail
                    refine (alive_calls _).mono ?_
                    rintro e w5 ⟨rfl, b5⟩
                    go_wp2
                    go_ret
                    exact ⟨rfl, below_of c4 b5⟩
                · cases sm
                  · go_wp2_with fail
                    refine (HT1.out _ (HA.out.below hb)).mono ?_
                    rintro e w1 ⟨rfl, b1⟩
                    have c1 := below_of hb b1
                    go_wp2_with fail
                    refine (HT2.out _ (HB.out.below c1)).mono ?_
                    rintro e w2 ⟨rfl, b2⟩
                    have c2 := below_of c1 b2
                    go_wp2_with fail
                    refine (HU1.out _ (HC.out.below c2)).mono ?_
                    rintro e w3 ⟨rfl, b3⟩
                    have c3 := below_of c2 b3
                    go_wp2_with fail
                    refine (HU2.out _ (HD.out.below c3)).mono ?_
                    rintro e w4 ⟨rfl, b4⟩
                    have c4 := below_of c3 b4
                    go_wp2_with fail
                    refine (alive_calls _).mono ?_
                    rintro e w5 ⟨rfl, b5⟩
                    go_wp2
                    go_ret
                    exact ⟨rfl, below_of c4 b5⟩
                  · go_wp2_with fail
                    refine (HT1.out _ (HA.out.below hb)).mono ?_
                    rintro e w1 ⟨rfl, b1⟩
                    have c1 := below_of hb b1
                    go_wp2_with fail
                    refine (HT2.out _ (HB.out.below c1)).mono ?_
                    rintro e w2 ⟨rfl, b2⟩
                    have c2 := below_of c1 b2
                    go_wp2_with fail
                    refine (HU1.out _ (HC.out.below c2)).mono ?_
                    rintro e w3 ⟨rfl, b3⟩
                    have c3 := below_of c2 b3
                    go_wp2_with fail
                    refine (HU2.out _ (HD.out.below c3)).mono ?_
                    rintro e w4 ⟨rfl, b4⟩
                    have c4 := below_of c3 b4
                    go_wp2_with fail
                    refine (alive_calls _).mono ?_
                    rintro e w5 ⟨rfl, b5⟩
                    go_wp2
                    go_ret
                    exact ⟨rfl, below_of c4 b5⟩
              · have hge := hex rfl
                clear hex
                cases sm
                · go_wp2_with fail
                  refine (HT1.out _ (HA.out.below hb)).mono ?_
                  rintro e w1 ⟨rfl, b1⟩
                  have c1 := below_of hb b1
                  go_wp2_with fail
                  refine (HT2.out _ (HB.out.below c1)).mono ?_
                  rintro e w2 ⟨rfl, b2⟩
                  have c2 := below_of c1 b2
                  go_wp2_with fail
                  refine (HU1.out _ (HC.out.below c2)).mono ?_
                  rintro e w3 ⟨rfl, b3⟩
                  have c3 := below_of c2 b3
                  go_wp2_with fail
                  refine (HU2.out _ (HD.out.below c3)).mono ?_
                  rintro e w4 ⟨rfl, b4⟩
                  have c4 := below_of c3 b4
                  go_wp2_with fail
                  refine (alive_calls _).mono ?_
                  rintro e w5 ⟨rfl, b5⟩
                  go_wp2
                  go_ret
                  exact ⟨rfl, below_of c4 b5⟩
                · go_wp2_with fail
                  refine (HT1.out _ (HA.out.below hb)).mono ?_
                  rintro e w1 ⟨rfl, b1⟩
                  have c1 := below_of hb b1
                  go_wp2_with fail
                  refine (HT2.out _ (HB.out.below c1)).mono ?_
                  rintro e w2 ⟨rfl, b2⟩
                  have c2 := below_of c1 b2
                  go_wp2_with fail
                  refine (HU1.out _ (HC.out.below c2)).mono ?_
                  rintro e w3 ⟨rfl, b3⟩
                  have c3 := below_of c2 b3
                  go_wp2_with fail
                  refine (HU2.out _ (HD.out.below c3)).mono ?_
                  rintro e w4 ⟨rfl, b4⟩
                  have c4 := below_of c3 b4
                  go_wp2_with fail
                  refine (alive_calls _).mono ?_
                  rintro e w5 ⟨rfl, b5⟩
                  go_wp2
                  go_ret
                  exact ⟨rfl, below_of c4 b5⟩

end Go.Proofs.Ytaeiahkomdpcoaa.Wire
