/- The walk of the document's answer for a key's bytes. -/
import Derived.Test.YtaeiahkomdpcoaaDoorNRefD
namespace Go.Proofs.YtaeiahkomdpcoaaDoor.Name
open Go.RowKit Go.Shelf

theorem conv_two (w : World) (a b : Int) (c d : UInt8) (ha : a = (c.toNat : Int)) (hb : b = (d.toNat : Int)) (t : TypeId) :
    (convert 71 9 (.slice (some ⟨w.heap.size, 0, none⟩) 2 2)).run Tryd.prog (w.alloc (.cells #[.int .u8 a, .int .u8 b] t)) = .ok (.string (bs [c, d])) (w.alloc (.cells #[.int .u8 a, .int .u8 b] t)) := by
  subst ha hb
  have h : RowAt (w.alloc (.cells #[.int .u8 (c.toNat : Int), .int .u8 (d.toNat : Int)] t)) w.heap.size [c, d] := by
    intro i e he
    match i, he with
    | 0, he => simp at he; subst he; exact ⟨by simp, by simp⟩
    | 1, he => simp at he; subst he; exact ⟨by simp, by simp⟩
    | i + 2, he => simp at he
  exact conv_row _ _ [c, d] 2 2 rfl h
theorem be_two (n : Nat) : be 2 n = [UInt8.ofNat (n / 256 % 256), UInt8.ofNat (n % 256)] := rfl

/-- The bytes, piece by piece. -/
def encB (k : Key) : Bs := UInt8.ofNat k.kind :: (if hasB k.kind then k.bucket.data.toList ++ [0] else [])

set_option maxHeartbeats 3200000 in
set_option maxRecDepth 100000 in
theorem refBytes_calls (k : Key) (w : World) (hf : k.fits) (hp1 : 0 ≤ k.part) (hp2 : k.part ≤ 1000) : Calls Tryd.prog 26 #[k.val] w fun e w' => e = .returned (.string (bs (encL k))) ∧ Below w.heap.size w w' := by
  have hE3 : k.kind = 3 → bs (encL k) = bs (encB k) ++ bs (esc k.name.data.toList) ++ ⟨#[0, 1]⟩ ++ bs (be 8 (top - k.n)) := fun h => by
    rw [show (⟨#[0, 1]⟩ : ByteArray) = bs [0, 1] from rfl, bs_append, bs_append, bs_append]
    unfold encL encB
    rw [if_pos h, if_neg (show ¬ k.kind = 5 by omega)]
    simp
  have hE4 : k.kind ≠ 3 → bs (encL k) = bs (encB k ++ (if hasN k.kind then be 8 k.n else []) ++ (if k.kind = 5 then be 2 k.part.toNat else [])) := fun h => by
    unfold encL encB
    rw [if_neg h]
    simp
  have hBz : (encB k).length ≤ 4098 := by
    have := size_list k.bucket
    have hb4 := hf.1
    unfold encB
    split
    · simp only [List.length_cons, List.length_append, List.length_nil]; omega
    · simp
  have hNz := esc_length k.name.data.toList
  rw [size_list] at hNz
  have hB2 : bs (encB k) = if hasB k.kind then bs [UInt8.ofNat k.kind] ++ k.bucket ++ ⟨#[0]⟩ else bs [UInt8.ofNat k.kind] := by
    unfold encB
    split
    · rw [show bs [UInt8.ofNat k.kind] ++ k.bucket = bs [UInt8.ofNat k.kind] ++ bs k.bucket.data.toList from rfl, show (⟨#[0]⟩ : ByteArray) = bs [0] from rfl, bs_append, bs_append]; rfl
    · rfl
  have hK := key_one w k
  have hb1 := below_one w (.cells k.cells 24)
  have hcv := conv_one (w.alloc (.cells k.cells 24)) (k.kind : Int) (UInt8.ofNat k.kind) (kind_byte k.kind hf.2.2.1) 5
  rw [show (w.alloc (.cells k.cells 24)).heap.size = w.heap.size + 1 by simp] at hcv
  have HNM := Lib.hid (fun W => refName_calls k.name W (by have := hf.2.1; omega))
  have HHB := fun W => refHasB_calls k.kind W
  have HHN := fun W => refHasN_calls k.kind W
  have HE8 := Lib.hid (fun W => eight_calls k.n W)
  have HEC := Lib.hid (fun W => eight_calls (top - k.n) W)
  have hsub : IntKind.u64.wrap ((18446744073709551615 : Int) - (k.n : Int)) = ((top - k.n : Nat) : Int) := by
    have h := hf.2.2.2
    have e : ((top - k.n : Nat) : Int) = (18446744073709551615 : Int) - (k.n : Int) := by unfold top at h ⊢; omega
    rw [e]; exact IntWalk.u64_in _ (by unfold top at h; omega)
  obtain ⟨kd, kb, kn, nn, pp⟩ := k
  obtain ⟨hb4, hn4, hkl, hnt⟩ := hf
  unfold Key.val
  simp only at hb4 hn4 hkl hnt hp1 hp2 hE3 hE4 hNz hB2 HNM HHB HHN HE8 HEC hsub ⊢
  obtain ⟨out, qo⟩ : ∃ x, x = bs (encL ⟨kd, kb, kn, nn, pp⟩) := ⟨_, rfl⟩
  obtain ⟨eB, qB⟩ : ∃ x, x = encB ⟨kd, kb, kn, nn, pp⟩ := ⟨_, rfl⟩
  rw [← qB] at hBz hB2 hE4 hE3
  rw [← qo] at hE3 hE4 ⊢
  obtain ⟨hb, q1⟩ : ∃ x, x = hasB kd := ⟨_, rfl⟩
  obtain ⟨hn, q2⟩ : ∃ x, x = hasN kd := ⟨_, rfl⟩
  simp only [← q1] at HHB hB2
  simp only [← q2] at HHN hE4
  obtain ⟨k3, q3⟩ : ∃ x, x = decide (kd = 3) := ⟨_, rfl⟩
  obtain ⟨k5, q5⟩ : ∃ x, x = decide (kd = 5) := ⟨_, rfl⟩
  have e3 : ((kd : Int) == 3) = k3 := by rw [q3, Bool.eq_iff_iff, beq_iff_eq, decide_eq_true_iff]; omega
  have e5 : ((kd : Int) == 5) = k5 := by rw [q5, Bool.eq_iff_iff, beq_iff_eq, decide_eq_true_iff]; omega
  have hE3' : k3 = true → out = bs eB ++ bs (esc kn.data.toList) ++ ⟨#[0, 1]⟩ ++ bs (be 8 (top - nn)) := fun h => hE3 (by rw [q3, decide_eq_true_eq] at h; exact h)
  have hE4' : k3 = false → out = bs (eB ++ (if hn = true then be 8 nn else []) ++ (if k5 = true then be 2 pp.toNat else [])) := fun h => by
    rw [hE4 (by rw [q3, decide_eq_false_iff_not] at h; exact h), q5]; simp
  obtain ⟨kc, qc⟩ : ∃ x, x = UInt8.ofNat kd := ⟨_, rfl⟩
  rw [← qc] at hcv hB2
  have X3 := Lib.hid hE3'
  have X4 := Lib.hid hE4'
  have XB := Lib.hid hB2
  have G1 := Lib.hid HHB
  have G2 := Lib.hid HHN
  have F3 := Lib.hid e3
  have F5 := Lib.hid e5
  have XS := Lib.hid hsub
  have XZ := Lib.hid (And.intro hBz hNz)
  clear hE3 hE4 hE3' hE4' hB2 HHB HHN e3 e5 q1 q2 q3 q5 qB qo qc hsub hBz hNz hkl
  go_enter Tryd.func26, Tryd.ntmps26
  go_upto_region 1 with fail
  go_cut [3] from 4 (fun s3 wx => s3 = .string (bs [kc]) ∧ KeyAt wx w.heap.size ⟨kd, kb, kn, nn, pp⟩ ∧ Below w.heap.size w wx)
  case first =>
    unfold Key.cells at hcv
    simp only at hcv
    clear X3 X4 XB G1 G2 F3 F5 XS XZ HNM HE8 HEC
    go_wp2_with fail
    go_meet
    case rel => exact ⟨rfl, hK.below (below_one _ _), below_alloc hb1 _⟩
  case rest =>
    obtain ⟨rfl, hA, hbw⟩ := hcut
    clear hK hb1 hcv
    obtain ⟨p0, p1, p2, p3, p4⟩ := hA.c
    simp only at p0 p1 p2 p3 p4
    go_wp2_with fail
    refine (G1.out _).mono ?_
    rintro e wN ⟨rfl, hwN⟩
    subst hwN
    go_upto_if 10 with fail
    go_cut [3] from 4 (fun s3 wx => s3 = .string (bs eB) ∧ wx = wN)
    case first =>
      have xb := XB.out
      clear X3 X4 XB G1 G2 F3 F5 XS XZ HNM HE8 HEC
      cases hb
      · rw [if_neg (by decide)] at xb
        go_wp2_with fail
        go_meet
        case rel => exact ⟨by rw [xb], rfl⟩
      · rw [if_pos rfl] at xb
        have z1 : ¬ 9223372036854775807 < (bs [kc]).size + kb.size := by show ¬ 9223372036854775807 < 1 + kb.size; omega
        have z2 : ¬ 9223372036854775807 < (bs [kc] ++ kb).size + (⟨#[0]⟩ : ByteArray).size := by
          rw [ByteArray.size_append]; show ¬ 9223372036854775807 < 1 + kb.size + 1; omega
        have XX := Lib.hid xb
        clear xb
        go_wp2_with fail
        go_meet
        case rel => exact ⟨by rw [XX.out], rfl⟩
    case rest =>
      obtain ⟨rfl, rfl⟩ := hcut
      clear XB G1
      have f3 := F3.out
      cases k3
      case true =>
        have x3 := X3.out rfl
        have xs := XS.out
        obtain ⟨zz1, zz2⟩ := XZ.out
        obtain ⟨NM, qN⟩ : ∃ x, x = bs (esc kn.data.toList) := ⟨_, rfl⟩
        obtain ⟨E8, q8⟩ : ∃ x, x = bs (be 8 (top - nn)) := ⟨_, rfl⟩
        obtain ⟨S0, qS⟩ : ∃ x, x = bs eB := ⟨_, rfl⟩
        have y0 : S0.size ≤ 4098 := by rw [qS, bs_size]; exact zz1
        have y1 : NM.size ≤ 8192 := by rw [qN, bs_size]; omega
        have y2 : E8.size = 8 := by rw [q8, bs_size, be_length]
        have y3 : (⟨#[0, 1]⟩ : ByteArray).size = 2 := rfl
        rw [← qN] at HNM
        rw [← q8] at HEC
        rw [← qN, ← q8, ← qS] at x3
        rw [← qS]
        have z1 : ¬ 9223372036854775807 < S0.size + NM.size := by omega
        have z2 : ¬ 9223372036854775807 < (S0 ++ NM).size + (⟨#[0, 1]⟩ : ByteArray).size := by rw [ByteArray.size_append]; omega
        have z3 : ¬ 9223372036854775807 < (S0 ++ NM ++ ⟨#[0, 1]⟩).size + E8.size := by rw [ByteArray.size_append, ByteArray.size_append]; omega
        have c2 : ∀ d os, (Go.Sort.grow (redrawn wc d) os).cell? ⟨w.heap.size, 2, none⟩ = some (.string kn) := fun d os => cell_regrown p2 d os
        have c3 : ∀ d os, (Go.Sort.grow (redrawn wc d) os).cell? ⟨w.heap.size, 3, none⟩ = some (.int .u64 (nn : Int)) := fun d os => cell_regrown p3 d os
        have HN2 : Hid (∀ W, Calls Tryd.prog 50 #[.string kn] W fun e w' => e = .returned (.string NM) ∧ Below W.heap.size W w') := fun W => (HNM.out W).mono (fun e w' ⟨h1, h2⟩ => ⟨h1, by rw [h2]; exact Below.refl _ _⟩)
        have X3' := Lib.hid x3
        clear X3 X4 XS XZ F3 F5 HNM HE8 G2 x3 y0 y1 y2 y3 qN q8 qS zz1 zz2
        go_wp2_with fail
        refine wp_region_quiet_below (by kernel_rfl) (by kernel_rfl) ?_
        repeat (go_big_quiet_step (first | (go_at_call 50; exact Calls.regrown_of (HN2.out _)) | (go_at_call 49; exact Calls.regrown_of (HEC.out _))))
        refine wpQuiet_nil ?_
        intro _ hw'
        obtain ⟨⟨dq, osq⟩, hw''⟩ := hw'
        subst hw''
        have hb6 := below_of hbw (below_regrown _ dq osq)
        go_wp2
        go_ret
        exact ⟨by rw [X3'.out]; rfl, hb6⟩
      case false =>
        have x4 := X4.out rfl
        obtain ⟨zz1, zz2⟩ := XZ.out
        have X4' := Lib.hid x4
        clear X3 X4 XS XZ F3 HNM HEC x4 zz2
        go_wp2_with fail
        refine (G2.out _).mono ?_
        rintro e wN ⟨rfl, hwN⟩
        subst hwN
        go_upto_if 32 with fail
        go_cut [3] from 4 (fun s3 wx => s3 = .string (bs (eB ++ (if hn = true then be 8 nn else []))) ∧ KeyAt wx w.heap.size ⟨kd, kb, kn, nn, pp⟩ ∧ Below w.heap.size w wx)
        case first =>
          clear X4' F5
          cases hn
          · go_wp2_with fail
            go_meet
            case rel => exact ⟨by simp, hA, hbw⟩
          · obtain ⟨E8, q8⟩ : ∃ x, x = bs (be 8 nn) := ⟨_, rfl⟩
            obtain ⟨S0, qS⟩ : ∃ x, x = bs eB := ⟨_, rfl⟩
            have y0 : S0.size ≤ 4098 := by rw [qS, bs_size]; exact zz1
            have y2 : E8.size = 8 := by rw [q8, bs_size, be_length]
            have QS := Lib.hid (show S0 ++ E8 = bs (eB ++ be 8 nn) by rw [qS, q8, bs_append])
            rw [← q8] at HE8
            rw [← qS]
            have z1 : ¬ 9223372036854775807 < S0.size + E8.size := by omega
            clear q8 qS y0 y2 zz1
            go_wp2_with fail
            refine (HE8.out _).mono ?_
            rintro e w2 ⟨rfl, hb2⟩
            have hA2 := hA.below hb2
            have hbw2 := below_of hbw hb2
            go_wp2_with fail
            go_meet
            case rel => exact ⟨by rw [QS.out]; simp, hA2, hbw2⟩
        case rest =>
          obtain ⟨rfl, hA2, hbw2⟩ := hcut
          have QZ := Lib.hid (show (bs (eB ++ (if hn = true then be 8 nn else []))).size ≤ 4106 by
            rw [bs_size, List.length_append]
            split
            · rw [be_length]; omega
            · rw [List.length_nil]; omega)
          clear p0 p1 p2 p3 p4 hA hbw HE8 G2 zz1
          obtain ⟨p0, p1, p2, p3, p4⟩ := hA2.c
          simp only at p0 p1 p2 p3 p4
          have f5 := F5.out
          obtain ⟨B1, qB1⟩ : ∃ x, x = eB ++ (if hn = true then be 8 nn else []) := ⟨_, rfl⟩
          rw [← qB1] at QZ
          have X5 := X4'.out
          rw [← qB1] at X5
          rw [← qB1]
          clear qB1 X4' F5
          cases k5
          · have X6 := Lib.hid X5
            clear X5 QZ
            go_wp2_with fail
            go_ret
            exact ⟨by rw [X6.out]; simp, hbw2⟩
          · have c1 : pp / 256 = ((UInt8.ofNat (pp.toNat / 256 % 256)).toNat : Int) := by rw [UInt8.toNat_ofNat']; omega
            have c2 : pp % 256 = ((UInt8.ofNat (pp.toNat % 256)).toNat : Int) := by rw [UInt8.toNat_ofNat']; omega
            have hcv := conv_two wc (pp / 256) (pp % 256) _ _ c1 c2 5
            obtain ⟨P2, qP⟩ : ∃ x, x = bs [UInt8.ofNat (pp.toNat / 256 % 256), UInt8.ofNat (pp.toNat % 256)] := ⟨_, rfl⟩
            obtain ⟨S0, qS⟩ : ∃ x, x = bs B1 := ⟨_, rfl⟩
            have y2 : P2.size = 2 := by rw [qP]; rfl
            have y0 : S0.size ≤ 4106 := by rw [qS]; exact QZ.out
            have X6 := Lib.hid (show out = S0 ++ P2 by rw [X5, if_pos rfl, be_two, qS, qP, bs_append])
            rw [← qP] at hcv
            rw [← qS]
            have z1 : ¬ 9223372036854775807 < S0.size + P2.size := by omega
            clear X5 QZ c1 c2 qP qS y0 y2
            go_wp2_with fail
            go_ret
            exact ⟨by rw [X6.out]; rfl, below_alloc hbw2 _⟩

end Go.Proofs.YtaeiahkomdpcoaaDoor.Name
