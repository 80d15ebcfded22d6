/- The walk of hoardlaw13.NameBegins. -/
import Derived.Test.YtaeiahkomdpcoaaDoorNameBeginP
import Derived.Test.YtaeiahkomdpcoaaDoorNameApartW
import Derived.Deep.Cut
namespace Go.Proofs.YtaeiahkomdpcoaaDoor.Name
open Go.RowKit Go.Shelf

theorem pref3 (kb bg : ByteArray) (l : Bs) (h : prefL ⟨3, kb, bg, 0, 0⟩ 3 = some l) : l = UInt8.ofNat 3 :: (kb.data.toList ++ [0]) ++ esc bg.data.toList := by
  unfold prefL at h
  simp only at h
  rw [if_neg (by omega), if_neg (by decide)] at h
  split at h
  · cases h
  rw [if_neg (by decide), if_neg (by decide)] at h
  split at h
  · cases h
  rw [if_neg (by decide)] at h
  exact (Option.some.inj h).symm

/-- Either the prefix is refused, or it is what the names that begin so begin with. -/
theorem pref_cases (kb bg : ByteArray) (hs : kb.size ≤ 2048) (hg : bg.size ≤ 2048) : (prefR ⟨3, kb, bg, 0, 0⟩ 3 = .tuple #[.string ⟨#[]⟩, .int .i64 2]) ∨
    ∃ p : ByteArray, prefR ⟨3, kb, bg, 0, 0⟩ 3 = .tuple #[.string p, .int .i64 0] ∧ p.size ≤ 10000 ∧ behindL p.data.toList ≠ [] ∧ ∀ (rs : ByteArray) (n : Nat), begB (bs (encL ⟨3, kb, rs, n, 0⟩)) p = begB rs bg := by
  unfold prefR
  cases h : prefL ⟨3, kb, bg, 0, 0⟩ 3 with
  | none => exact .inl rfl
  | some l =>
    have hl := pref3 kb bg l h
    refine .inr ⟨bs l, rfl, ?_, ?_, fun rs n => ?_⟩
    · have h1 := esc_length bg.data.toList
      rw [size_list] at h1
      have h2 : kb.data.toList.length = kb.size := size_list _
      rw [bs_size, hl, List.length_append, List.length_cons, List.length_append]
      simp only [List.length_singleton]
      omega
    · rw [hl]
      exact behind_low _ _ (by decide)
    · unfold begB
      rw [hl]
      have := pre_iff ⟨3, kb, rs, n, 0⟩ rfl bg.data.toList
      exact decide_eq_decide.2 this

set_option maxHeartbeats 1000000 in
set_option maxRecDepth 100000 in
theorem begins_calls (kb bg rs : ByteArray) (nn : Nat) (ss : ByteArray) (w : World) (hv : Var0 w) (h1 : kb.size ≤ maxLen) (h2 : bg.size ≤ maxLen) (h3 : rs.size ≤ maxLen) (h4 : ss.size ≤ maxLen) (hnn : nn ≤ top) :
    Calls Tryd.prog 4 #[.string kb, .string bg, .string rs, .int .u64 (nn : Int), .string ss] w fun e w' => e = .returned (.bool true) ∧ Below w.heap.size w w' := by
  unfold maxLen at h1 h2 h3 h4
  have HL : Hid (∀ (W : World) (g : Nat), W.heap.size = g → Calls Tryd.prog 9 #[.slice (some ⟨g, 0, none⟩) 4 4] (W.alloc (.cells #[.string kb, .string bg, .string rs, .string ss] 9)) (LongR [kb, bg, rs, ss] (W.alloc (.cells #[.string kb, .string bg, .string rs, .string ss] 9)))) := fun W g hg => by
    subst hg
    exact long_calls (some ⟨W.heap.size, 0, none⟩) 4 [kb, bg, rs, ss] _ (listAt_lit W [.string kb, .string bg, .string rs, .string ss] 9) (by simp) (by
    intro s hs
    simp at hs
    rcases hs with rfl | rfl | rfl | rfl <;> omega)
  go_enter Tryd.func4, Tryd.ntmps4
  go_wp2_with fail
  refine (HL.out _ _ (by simp)).mono ?_
  rintro e w2 ⟨lb, rfl, hlb, rfl⟩
  have hv2 := hv.below (below_one w (.cells #[.string kb, .string bg, .string rs, .string ss] 9))
  have b2 := below_one w (.cells #[.string kb, .string bg, .string rs, .string ss] 9)
  clear HL
  cases lb
  · have hz := hlb rfl
    have z1 := hz kb (by simp)
    have z2 := hz bg (by simp)
    have z3 := hz rs (by simp)
    have z4 := hz ss (by simp)
    clear hz hlb
    have HP := Lib.hid (fun W (h : Var0 W) => pref_calls ⟨3, kb, bg, 0, 0⟩ 3 W h ⟨by show kb.size ≤ 4096; omega, by show bg.size ≤ 4096; omega, (by show 3 < 256; decide), Nat.zero_le _⟩)
    have HE := Lib.hid (fun W (h : Var0 W) => encode_calls ⟨3, kb, rs, nn, 0⟩ W h ⟨by show kb.size ≤ 4096; omega, by show rs.size ≤ 4096; omega, (by show 3 < 256; decide), hnn⟩)
    have hle := encL_length ⟨3, kb, rs, nn, 0⟩ ⟨by show kb.size ≤ 4096; omega, by show rs.size ≤ 4096; omega⟩
    clear hnn
    rcases pref_cases kb bg z1 z2 with hP | ⟨p, hP, hps, hne, hbeg⟩
    · rw [hP] at HP
      clear hP HE hle
      go_wp2_with fail
      refine (HP.out _ hv2).mono ?_
      rintro e w3 ⟨rfl, hb3⟩
      have hv3 := hv2.below hb3
      have b3 := below_of b2 hb3
      clear hv2 b2 hb3 HP
      go_wp2_with fail
      refine (works_calls _ hv3).mono ?_
      rintro e w4 ⟨rfl, hb4⟩
      go_wp2
      go_ret
      exact ⟨rfl, below_of b3 hb4⟩
    · rw [hP] at HP
      clear hP
      obtain ⟨T, E, hE, hc⟩ := enc_cases ⟨3, kb, rs, nn, 0⟩
      rw [hE] at HE
      clear hE
      rcases hc with ⟨rfl, _⟩ | ⟨rfl, _, hT⟩
      · clear hle hbeg hne
        go_wp2_with fail
        refine (HP.out _ hv2).mono ?_
        rintro e w3 ⟨rfl, hb3⟩
        have hv3 := hv2.below hb3
        have b3 := below_of b2 hb3
        clear hv2 b2 hb3 HP
        go_wp2_with fail
        refine (HE.out _ hv3).mono ?_
        rintro e w4 ⟨rfl, hb4⟩
        have hv4 := hv3.below hb4
        have b4 := below_of b3 hb4
        clear hv3 b3 hb4 HE
        go_wp2_with fail
        refine (works_calls _ hv4).mono ?_
        rintro e w5 ⟨rfl, hb5⟩
        go_wp2
        go_ret
        exact ⟨rfl, below_of b4 hb5⟩
      · have hbe := hbeg rs nn
        rw [← hT] at hbe
        have hTs : T.size ≤ 20000 := by rw [hT, bs_size]; exact hle
        clear hT hbeg hle
        have C1 := Lib.hid (beg_cases rs bg)
        have C2 := Lib.hid (beg_cases T p)
        have C3 := Lib.hid (order_cases T p hne)
        have C4 := Lib.hid (beg_cases ss p)
        have C5 := Lib.hid (order_cases ss p hne)
        have HB := Lib.hid (fun W => behind_calls p W hps)
        rw [hbe] at C2 C3
        obtain ⟨q, hq⟩ : ∃ q, q = bs (behindL p.data.toList) := ⟨_, rfl⟩
        simp only [← hq] at HB C3 C5
        obtain ⟨u, hu⟩ : ∃ u, u = begB rs bg := ⟨_, rfl⟩
        rw [← hu] at C1 C2 C3
        obtain ⟨v, hvv⟩ : ∃ v, v = begB ss p := ⟨_, rfl⟩
        rw [← hvv] at C4 C5
        clear hne hq hu hvv hbe
        go_wp2_with fail
        refine (HP.out _ hv2).mono ?_
        rintro e w3 ⟨rfl, hb3⟩
        have hv3 := hv2.below hb3
        have b3 := below_of b2 hb3
        clear hv2 b2 hb3 HP
        go_upto_region 9 with fail
        refine (HE.out _ hv3).mono ?_
        rintro e w4 ⟨rfl, hb4⟩
        have hv4 := hv3.below hb4
        have b4 := below_of b3 hb4
        clear hv3 b3 hb4 HE
        go_upto_region 9 with fail
        go_cut [15] from 18 (fun s15 wx => s15 = .bool u ∧ wx = w4)
        case first =>
          rcases C1.out with ⟨h, he⟩ | ⟨h, he⟩
          · subst he
            have h' : ¬ (bg.size : Int) ≤ (rs.size : Int) := by omega
            clear C1 C2 C3 C4 C5
            go_wp2_with fail
            go_meet
            case rel => exact ⟨rfl, rfl⟩
          · have h' : (bg.size : Int) ≤ (rs.size : Int) := by omega
            have s2 : (0 : Int) ≤ (bg.size : Int) := by omega
            have s3 : bg.size ≤ bg.size := Nat.le_refl _
            clear C1 C2 C3 C4 C5
            cases u
            all_goals
              go_wp2_with fail
              go_meet
              case rel => exact ⟨rfl, rfl⟩
        case rest =>
          obtain ⟨rfl, rfl⟩ := hcut
          go_upto_region 10 with fail
          go_cut [77] from 18 (fun s77 wx => s77 = .bool false ∧ wx = wc)
          case first =>
            rcases C2.out with ⟨h, he⟩ | ⟨h, he⟩
            · subst he
              have h' : ¬ (p.size : Int) ≤ (T.size : Int) := by omega
              clear C1 C2 C3 C4 C5
              go_wp2_with fail
              go_meet
              case rel => exact ⟨rfl, rfl⟩
            · have h' : (p.size : Int) ≤ (T.size : Int) := by omega
              have s2 : (0 : Int) ≤ (p.size : Int) := by omega
              have s3 : p.size ≤ p.size := Nat.le_refl _
              clear C1 C2 C3 C4 C5
              cases u
              all_goals
                go_wp2_with fail
                go_meet
                case rel => exact ⟨rfl, rfl⟩
          case rest =>
            obtain ⟨rfl, rfl⟩ := hcut
            go_wp2_with fail
            refine (HB.out _).mono ?_
            rintro e w5 ⟨rfl, hb5⟩
            have hv5 := hv4.below hb5
            have b5 := below_of b4 hb5
            clear hv4 b4 hb5 HB
            go_upto_region 13 with fail
            go_cut [89] from 18 (fun s89 wx => s89 = .bool false ∧ wx = w5)
            case first =>
              rcases C3.out with ⟨he, h1, h2⟩ | ⟨he, h1⟩ | ⟨he, h1, h2⟩
              all_goals
                subst he
                clear C1 C2 C3 C4 C5
                go_wp2_with fail
                go_meet
                case rel => exact ⟨rfl, rfl⟩
            case rest =>
              obtain ⟨rfl, rfl⟩ := hcut
              go_upto_region 15 with fail
              go_cut [17] from 18 (fun s17 wx => s17 = .bool v ∧ wx = wc)
              case first =>
                rcases C4.out with ⟨h, he⟩ | ⟨h, he⟩
                · subst he
                  have h' : ¬ (p.size : Int) ≤ (ss.size : Int) := by omega
                  clear C1 C2 C3 C4 C5
                  go_wp2_with fail
                  go_meet
                  case rel => exact ⟨rfl, rfl⟩
                · have h' : (p.size : Int) ≤ (ss.size : Int) := by omega
                  have s2 : (0 : Int) ≤ (p.size : Int) := by omega
                  have s3 : p.size ≤ p.size := Nat.le_refl _
                  clear C1 C2 C3 C4 C5
                  cases v
                  all_goals
                    go_wp2_with fail
                    go_meet
                    case rel => exact ⟨rfl, rfl⟩
              case rest =>
                obtain ⟨rfl, rfl⟩ := hcut
                rcases C5.out with ⟨he, h1, h2⟩ | ⟨he, h1⟩ | ⟨he, h1, h2⟩
                all_goals
                  subst he
                  clear C1 C2 C3 C4 C5
                  go_wp2_with fail
                  refine (works_calls _ hv5).mono ?_
                  rintro e w6 ⟨rfl, hb6⟩
                  go_wp2
                  go_ret
                  exact ⟨rfl, below_of b5 hb6⟩
  · go_wp2_with fail
    refine (works_calls _ hv2).mono ?_
    rintro e w3 ⟨rfl, hb3⟩
    go_wp2
    go_ret
    exact ⟨rfl, below_of b2 hb3⟩

end Go.Proofs.YtaeiahkomdpcoaaDoor.Name
