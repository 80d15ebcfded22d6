/- The walk of hoardlaw13.NameTells. -/
import Derived.Test.YtaeiahkomdpcoaaDoorNRefF
import Derived.Test.YtaeiahkomdpcoaaDoorNOfV
import Derived.Test.YtaeiahkomdpcoaaDoorNameApartW
namespace Go.Proofs.YtaeiahkomdpcoaaDoor.Name
open Go.RowKit Go.Shelf

set_option maxHeartbeats 400000 in
set_option maxRecDepth 100000 in
theorem neq_run (ak : Nat) (ab an : ByteArray) (ann : Nat) (ap : Int) (W : World) : (binOp .neq 24 (.agg #[.int .u8 (ak : Int), .string ab, .string an, .int .u64 (ann : Int), .int .i64 ap]) (.agg #[.int .u8 (ak : Int), .string ab, .string an, .int .u64 (ann : Int), .int .i64 ap])).run Tryd.prog W = .ok (.bool false) W := by
  have hu := Tryd.underlying24
  have h5 := Tryd.underlying5
  have h9 := Tryd.underlying9
  have h22 := Tryd.underlying22
  have h3 := Tryd.underlying3
  have hp : Tryd.prog.stoodInHeld 24 = false := by kernel_rfl
  have hf : Tryd.prog.underlying 24 = some (.struct (Tryd.prog.fieldsOf 24)) := by kernel_rfl
  rw [run_neq_struct, run_equalIn_agg W 9999 _ _ _ hf hp]
  clear hf hp
  simp [Program.fieldsOf, hu, Op.eqFields, go_sem, h5, h9, h22, h3]

theorem same_below {f : FuncId} {args : Array Value} {w : World} {v : Value} (h : Calls Tryd.prog f args w fun e w' => e = .returned v ∧ w' = w) : Calls Tryd.prog f args w fun e w' => e = .returned v ∧ Below w.heap.size w w' :=
  h.mono fun _ _ ⟨h1, h2⟩ => ⟨h1, by rw [h2]; exact Below.refl _ _⟩

theorem enc_ways (k : Key) : (mayB k = false ∧ encR k = .tuple #[.string ⟨#[]⟩, .int .i64 2]) ∨ (mayB k = true ∧ encR k = .tuple #[.string (bs (encL k)), .int .i64 0]) := by
  unfold encR
  cases h : mayB k
  · exact .inl ⟨rfl, if_neg (by simp)⟩
  · exact .inr ⟨rfl, if_pos rfl⟩
theorem dec_ways (s : Bs) : ∃ (KD : Key) (ED : Int) (IS : Bool), decR s = .tuple #[KD.val, .int .i64 ED] ∧ ofR s = .tuple #[KD.val, .bool IS] ∧ ((ED = 0 ∧ IS = true) ∨ (ED = 8 ∧ IS = false)) := by
  rcases of_dec s with ⟨k, _, _, _, h1, h2⟩ | ⟨h1, h2⟩
  · exact ⟨k, 0, true, h1, h2, .inl ⟨rfl, rfl⟩⟩
  · exact ⟨zeroK, 8, false, h1, h2, .inr ⟨rfl, rfl⟩⟩
theorem pref_ways (k : Key) (d : Int) : ∃ (P : ByteArray) (EP : Int) (IP : Bool), prefR k d = .tuple #[.string P, .int .i64 EP] ∧ prefB k d = .tuple #[.string P, .bool IP] ∧ ((EP = 0 ∧ IP = true) ∨ (EP = 2 ∧ IP = false)) := by
  unfold prefR prefB
  cases prefL k d with
  | none => exact ⟨_, 2, false, rfl, rfl, .inr ⟨rfl, rfl⟩⟩
  | some l => exact ⟨_, 0, true, rfl, rfl, .inl ⟨rfl, rfl⟩⟩

/-- Two keys lie where they were laid. -/
def TW (w : World) (a b : Key) (W : World) : Prop := KeyAt W w.heap.size a ∧ KeyAt W (w.heap.size + 1) b ∧ Var0 W ∧ Below w.heap.size w W
theorem TW.below {w W W' : World} {a b : Key} (h : TW w a b W) (hb : Below W.heap.size W W') : TW w a b W' := ⟨h.1.below hb, h.2.1.below hb, h.2.2.1.below hb, below_of h.2.2.2 hb⟩

set_option maxHeartbeats 4000000 in
set_option maxRecDepth 100000 in
theorem tells_calls (a b : Key) (s : ByteArray) (deep : Int) (w : World) (hv : Var0 w) (ha : a.bucket.size ≤ maxLen ∧ a.name.size ≤ maxLen ∧ a.kind < 256 ∧ a.n ≤ top) (hb : b.bucket.size ≤ maxLen ∧ b.name.size ≤ maxLen ∧ b.kind < 256 ∧ b.n ≤ top) (hs : s.size ≤ maxLen) :
    Calls Tryd.prog 6 #[a.val, b.val, .string s, .int .i64 deep] w fun e w' => e = .returned (.bool true) ∧ Below w.heap.size w w' := by
  unfold maxLen at ha hb hs
  have T0 : TW w a b ((w.alloc (.cells a.cells 24)).alloc (.cells b.cells 24)) := by
    refine ⟨KeyAt.below (w := w.alloc (.cells a.cells 24)) (key_one w a) (below_one _ _), ?_, (hv.below (below_one w (.cells a.cells 24))).below (below_one _ _), below_alloc (below_one w (.cells a.cells 24)) (.cells b.cells 24)⟩
    have := key_one (w.alloc (.cells a.cells 24)) b
    rw [show (w.alloc (.cells a.cells 24)).heap.size = w.heap.size + 1 by simp] at this
    exact this
  have L2 : Hid (∀ (x y : ByteArray) (W : World) (g : Nat), x.size ≤ 9223372036854775807 → y.size ≤ 9223372036854775807 → W.heap.size = g → Calls Tryd.prog 9 #[.slice (some ⟨g, 0, none⟩) 2 2] (W.alloc (.cells #[.string x, .string y] 9)) (LongR [x, y] (W.alloc (.cells #[.string x, .string y] 9)))) := fun x y W g hx hy hg => by
    subst hg
    exact long_calls (some ⟨W.heap.size, 0, none⟩) 2 [x, y] _ (listAt_lit W [.string x, .string y] 9) (by simp) (by
    intro t ht
    simp at ht
    rcases ht with rfl | rfl <;> omega)
  have L1 : Hid (∀ (x : ByteArray) (W : World) (g : Nat), x.size ≤ 9223372036854775807 → W.heap.size = g → Calls Tryd.prog 9 #[.slice (some ⟨g, 0, none⟩) 1 1] (W.alloc (.cells #[.string x] 9)) (LongR [x] (W.alloc (.cells #[.string x] 9)))) := fun x W g hx hg => by
    subst hg
    exact long_calls (some ⟨W.heap.size, 0, none⟩) 1 [x] _ (listAt_lit W [.string x] 9) (by simp) (by
    intro t ht
    simp at ht
    rcases ht with rfl; omega)
  have HEA := Lib.hid (fun (h : a.fits) W (hW : Var0 W) => encode_calls a W hW h)
  have HPA := Lib.hid (fun (h : a.fits) W (hW : Var0 W) => pref_calls a deep W hW h)
  have HPB := Lib.hid (fun (h : a.fits) W => refPre_calls a deep W h)
  have HMA := Lib.hid (fun (h : a.fits) W => may_calls a W h)
  have HMB := Lib.hid (fun (h : a.fits) W => refMay_calls a W h)
  have HCA := Lib.hid (fun W => cmpKey_calls a b W)
  have HCB := Lib.hid (fun (h : a.fits) (h2 : b.fits) W => refCmp_calls a b W ⟨h.1, h.2.1⟩ ⟨h2.1, h2.2.1⟩ h.2.2.1 h2.2.2.1)
  have HBY := Lib.hid (fun (h : a.fits) (hm : mayB a = true) W => refBytes_calls a W h (by
    obtain ⟨_, _, _, _, _, _, a6, a7⟩ := may_facts hm
    by_cases h5 : a.kind = 5
    · have := a6 h5; omega
    · have := a7 h5; omega) (by
    obtain ⟨_, _, _, _, _, _, a6, a7⟩ := may_facts hm
    by_cases h5 : a.kind = 5
    · have := a6 h5; omega
    · have := a7 h5; omega))
  have HDE := Lib.hid (fun (h : s.size ≤ 2048) W (hW : Var0 W) => decode_calls s W hW (by omega))
  have HOF := Lib.hid (fun (h : s.size ≤ 2048) W (hW : Var0 W) => of_calls s W hW (by omega))
  have EW := Lib.hid (enc_ways a)
  have DW := Lib.hid (dec_ways s.data.toList)
  have PW := Lib.hid (pref_ways a deep)
  have FA : Hid (a.bucket.size ≤ 2048 → a.name.size ≤ 2048 → a.fits) := fun h1 h2 => ⟨by omega, by omega, ha.2.2.1, ha.2.2.2⟩
  have FB : Hid (b.bucket.size ≤ 2048 → b.name.size ≤ 2048 → b.fits) := fun h1 h2 => ⟨by omega, by omega, hb.2.2.1, hb.2.2.2⟩
  obtain ⟨cc, qcc⟩ : ∃ c, c = cmpK a b := ⟨_, rfl⟩
  obtain ⟨mb, qmb⟩ : ∃ c, c = mayB a := ⟨_, rfl⟩
  rw [← qcc] at HCA HCB
  rw [← qmb] at HMA HMB EW
  simp only [← qmb] at HBY
  clear qcc qmb
  obtain ⟨ak, ab, an, ann, ap⟩ := a
  obtain ⟨bk, bb, bn, bnn, bp⟩ := b
  unfold Key.val at HEA HPA HPB HMA HMB HCA HCB HBY ⊢
  simp only at ha hb HEA HPA HPB HMA HMB HCA HCB HBY FA FB ⊢
  have SA := Lib.hid ha
  have SB := Lib.hid hb
  have SS := Lib.hid hs
  clear ha hb hs
  go_enter Tryd.func6, Tryd.ntmps6
  go_upto_region 1 with fail
  go_cut [37] from 19 (fun s37 wx => ∃ lb : Bool, s37 = .bool lb ∧ (lb = false → ab.size ≤ 2048 ∧ an.size ≤ 2048 ∧ bb.size ≤ 2048 ∧ bn.size ≤ 2048 ∧ s.size ≤ 2048) ∧ TW w ⟨ak, ab, an, ann, ap⟩ ⟨bk, bb, bn, bnn, bp⟩ wx)
  case first =>
    clear HEA HPA HPB HMA HMB HCA HCB HBY HDE HOF EW DW PW FA FB
    go_wp2_with fail
    refine (L2.out _ _ _ _ SA.out.1 SA.out.2.1 (by simp)).mono ?_
    rintro e w2 ⟨lb, rfl, hlb, rfl⟩
    have T1 := T0.below (below_one _ (.cells #[.string ab, .string an] 9))
    have HL := Lib.hid hlb
    clear hlb T0
    cases lb
    case true =>
      go_wp2_with fail
      go_meet
      case rel => exact ⟨true, rfl, (fun h => by cases h), T1⟩
    case false =>
      obtain ⟨p0, p1, p2, p3, p4⟩ := T1.2.1.c
      simp only at p0 p1 p2 p3 p4
      go_wp2_with fail
      refine (L2.out _ _ _ _ SB.out.1 SB.out.2.1 (by simp)).mono ?_
      rintro e w3 ⟨lb, rfl, hlb, rfl⟩
      have T2 := T1.below (below_one _ (.cells #[.string bb, .string bn] 9))
      have HL2 := Lib.hid hlb
      clear hlb T1 p0 p1 p2 p3 p4
      cases lb
      case true =>
        go_wp2_with fail
        go_meet
        case rel => exact ⟨true, rfl, (fun h => by cases h), T2⟩
      case false =>
        go_wp2_with fail
        refine (L1.out _ _ _ SS.out (by simp)).mono ?_
        rintro e w4 ⟨lb, rfl, hlb, rfl⟩
        have T3 := T2.below (below_one _ (.cells #[.string s] 9))
        have HL3 := Lib.hid hlb
        clear hlb T2
        go_wp2_with fail
        go_meet
        case rel => exact ⟨lb, rfl, (fun h => ⟨HL.out trivial ab (by simp), HL.out trivial an (by simp), HL2.out trivial bb (by simp), HL2.out trivial bn (by simp), HL3.out h s (by simp)⟩), T3⟩
  case rest =>
    obtain ⟨lb, rfl, hz, T1⟩ := hcut
    clear T0 L1 L2 SA SB SS
    cases lb
    case true =>
      have hv1 := T1.2.2.1
      have b1 := T1.2.2.2
      clear HEA HPA HPB HMA HMB HCA HCB HBY HDE HOF EW DW PW FA FB hz
      go_wp2_with fail
      refine (works_calls _ hv1).mono ?_
      rintro e w3 ⟨rfl, hb3⟩
      go_wp2
      go_ret
      exact ⟨rfl, below_of b1 hb3⟩
    case false =>
      obtain ⟨y1, y2, y3, y4, y5⟩ := hz rfl
      have fa := FA.out y1 y2
      have fb := FB.out y3 y4
      have GEA := Lib.hid (HEA.out fa)
      have GPA := Lib.hid (HPA.out fa)
      have GPB := Lib.hid (HPB.out fa)
      have GMA := Lib.hid (HMA.out fa)
      have GMB := Lib.hid (HMB.out fa)
      have GCB := Lib.hid (HCB.out fa fb)
      have GBY := Lib.hid (HBY.out fa)
      have GDE := Lib.hid (HDE.out y5)
      have GOF := Lib.hid (HOF.out y5)
      have Y5 := Lib.hid y5
      clear HEA HPA HPB HMA HMB HCB HBY HDE HOF FA FB hz fa fb y1 y2 y3 y4 y5
      obtain ⟨X, EX, hX⟩ : ∃ (X : ByteArray) (EX : Int), encR ⟨ak, ab, an, ann, ap⟩ = .tuple #[.string X, .int .i64 EX] ∧ ((mb = false ∧ X = ⟨#[]⟩ ∧ EX = 2) ∨ (mb = true ∧ X = bs (encL ⟨ak, ab, an, ann, ap⟩) ∧ EX = 0)) := by
        rcases EW.out with ⟨h1, h2⟩ | ⟨h1, h2⟩
        · exact ⟨_, _, h2, .inl ⟨h1, rfl, rfl⟩⟩
        · exact ⟨_, _, h2, .inr ⟨h1, rfl, rfl⟩⟩
      rw [hX.1] at GEA
      obtain ⟨KD, ED, IS, hD1, hD2, hD3⟩ := DW.out
      rw [hD1] at GDE
      rw [hD2] at GOF
      obtain ⟨P, EP, IP, hP1, hP2, hP3⟩ := PW.out
      rw [hP1] at GPA
      rw [hP2] at GPB
      have XW := Lib.hid hX.2
      have D3 := Lib.hid hD3
      have P3 := Lib.hid hP3
      obtain ⟨TB, qTB⟩ : ∃ T, T = bs (encL ⟨ak, ab, an, ann, ap⟩) := ⟨_, rfl⟩
      rw [← qTB] at XW GBY
      clear EW DW PW hX hD1 hD2 hD3 hP1 hP2 hP3 qTB
      obtain ⟨dk, db, dn, dnn, dp⟩ := KD
      unfold Key.val at GDE GOF
      simp only at GDE GOF
      obtain ⟨p0, p1, p2, p3, p4⟩ := T1.1.c
      simp only at p0 p1 p2 p3 p4
      go_wp2_with fail
      refine (GEA.out _ T1.2.2.1).mono ?_
      rintro e w3 ⟨rfl, hb3⟩
      have T3 := T1.below hb3
      clear p0 p1 p2 p3 p4 T1 hb3 GEA
      go_upto_region 4 with fail
      go_cut [11, 12] from 19 (fun s11 s12 wx => ∃ g1 : Nat, s11 = .pointer (some ⟨g1, 0, none⟩) ∧ s12 = .int .i64 ED ∧ KeyAt wx g1 ⟨dk, db, dn, dnn, dp⟩ ∧ TW w ⟨ak, ab, an, ann, ap⟩ ⟨bk, bb, bn, bnn, bp⟩ wx)
      case first =>
        clear GPA GPB GMA GMB HCA GCB GBY GOF XW D3 P3
        go_wp2_with fail
        refine (GDE.out _ T3.2.2.1).mono ?_
        rintro e w4 ⟨rfl, hb4⟩
        have T4 := (T3.below hb4).below (below_one _ (.cells (Key.mk dk db dn dnn dp).cells 24))
        have k4 := key_one w4 ⟨dk, db, dn, dnn, dp⟩
        go_wp2_with fail
        go_meet
        case rel => exact ⟨w4.heap.size, rfl, rfl, k4, T4⟩
      case rest =>
        obtain ⟨g1, rfl, rfl, KA, T4⟩ := hcut
        clear T3 GDE
        go_upto_region 5 with fail
        go_cut [13, 14] from 19 (fun s13 s14 wx => ∃ g2 : Nat, s13 = .pointer (some ⟨g2, 0, none⟩) ∧ s14 = .bool IS ∧ KeyAt wx g1 ⟨dk, db, dn, dnn, dp⟩ ∧ KeyAt wx g2 ⟨dk, db, dn, dnn, dp⟩ ∧ TW w ⟨ak, ab, an, ann, ap⟩ ⟨bk, bb, bn, bnn, bp⟩ wx)
        case first =>
          clear GPA GPB GMA GMB HCA GCB GBY XW D3 P3
          go_wp2_with fail
          refine (GOF.out _ T4.2.2.1).mono ?_
          rintro e w5 ⟨rfl, hb5⟩
          have T5 := (T4.below hb5).below (below_one _ (.cells (Key.mk dk db dn dnn dp).cells 24))
          have k5 := key_one w5 ⟨dk, db, dn, dnn, dp⟩
          have k4 := (KA.below hb5).below (below_one _ (.cells (Key.mk dk db dn dnn dp).cells 24))
          go_wp2_with fail
          go_meet
          case rel => exact ⟨w5.heap.size, rfl, rfl, k4, k5, T5⟩
        case rest =>
          obtain ⟨g2, rfl, rfl, KA2, KB2, T5⟩ := hcut
          clear T4 KA GOF
          obtain ⟨p0, p1, p2, p3, p4⟩ := T5.1.c
          simp only at p0 p1 p2 p3 p4
          go_wp2_with fail
          refine (GPA.out _ T5.2.2.1).mono ?_
          rintro e w6 ⟨rfl, hb6⟩
          have T6 := T5.below hb6
          have KA6 := KA2.below hb6
          have KB6 := KB2.below hb6
          clear p0 p1 p2 p3 p4 T5 KA2 KB2 hb6 GPA
          obtain ⟨p0, p1, p2, p3, p4⟩ := T6.1.c
          simp only at p0 p1 p2 p3 p4
          go_wp2_with fail
          refine (GPB.out _).mono ?_
          rintro e w7 ⟨rfl, hb7⟩
          have T7 := T6.below hb7
          have KA7 := KA6.below hb7
          have KB7 := KB6.below hb7
          clear p0 p1 p2 p3 p4 T6 KA6 KB6 hb7 GPB
          go_upto_region 8 with fail
          go_cut [100] from 19 (fun s100 wx => s100 = .bool false ∧ KeyAt wx g1 ⟨dk, db, dn, dnn, dp⟩ ∧ KeyAt wx g2 ⟨dk, db, dn, dnn, dp⟩ ∧ TW w ⟨ak, ab, an, ann, ap⟩ ⟨bk, bb, bn, bnn, bp⟩ wx)
          case first =>
            have z1 : s.size ≤ 9223372036854775807 := by have := Y5.out; omega
            have z2 : s.size ≤ 10000 := by have := Y5.out; omega
            obtain ⟨p0, p1, p2, p3, p4⟩ := T7.1.c
            obtain ⟨q0, q1, q2, q3, q4⟩ := T7.2.1.c
            simp only at p0 p1 p2 p3 p4 q0 q1 q2 q3 q4
            have ca0 : ∀ d os, (Go.Sort.grow (redrawn w7 d) os).cell? ⟨w.heap.size, 0, none⟩ = some (.int .u8 (ak : Int)) := fun d os => cell_regrown p0 d os
            have ca1 : ∀ d os, (Go.Sort.grow (redrawn w7 d) os).cell? ⟨w.heap.size, 1, none⟩ = some (.string ab) := fun d os => cell_regrown p1 d os
            have ca2 : ∀ d os, (Go.Sort.grow (redrawn w7 d) os).cell? ⟨w.heap.size, 2, none⟩ = some (.string an) := fun d os => cell_regrown p2 d os
            have ca3 : ∀ d os, (Go.Sort.grow (redrawn w7 d) os).cell? ⟨w.heap.size, 3, none⟩ = some (.int .u64 (ann : Int)) := fun d os => cell_regrown p3 d os
            have ca4 : ∀ d os, (Go.Sort.grow (redrawn w7 d) os).cell? ⟨w.heap.size, 4, none⟩ = some (.int .i64 ap) := fun d os => cell_regrown p4 d os
            have cb0 : ∀ d os, (Go.Sort.grow (redrawn w7 d) os).cell? ⟨w.heap.size + 1, 0, none⟩ = some (.int .u8 (bk : Int)) := fun d os => cell_regrown q0 d os
            have cb1 : ∀ d os, (Go.Sort.grow (redrawn w7 d) os).cell? ⟨w.heap.size + 1, 1, none⟩ = some (.string bb) := fun d os => cell_regrown q1 d os
            have cb2 : ∀ d os, (Go.Sort.grow (redrawn w7 d) os).cell? ⟨w.heap.size + 1, 2, none⟩ = some (.string bn) := fun d os => cell_regrown q2 d os
            have cb3 : ∀ d os, (Go.Sort.grow (redrawn w7 d) os).cell? ⟨w.heap.size + 1, 3, none⟩ = some (.int .u64 (bnn : Int)) := fun d os => cell_regrown q3 d os
            have cb4 : ∀ d os, (Go.Sort.grow (redrawn w7 d) os).cell? ⟨w.heap.size + 1, 4, none⟩ = some (.int .i64 bp) := fun d os => cell_regrown q4 d os
            clear GBY XW D3 P3 Y5 p0 p1 p2 p3 p4 q0 q1 q2 q3 q4
            go_wp2_with fail
            refine wp_region_quiet_below (by kernel_rfl) (by kernel_rfl) ?_
            repeat (go_big_quiet_step (first | (go_at_call 18; exact Calls.regrown_of (bucket_calls s _ z1)) | (go_at_call 19; exact Calls.regrown_of (same_below (refBucket_calls s _ z2))) | (go_at_call 20; exact Calls.regrown_of (same_below (object_calls s _ z1))) | (go_at_call 21; exact Calls.regrown_of (same_below (refObject_calls s _ z2))) | (go_at_call 22; exact Calls.regrown_of (GMA.out _)) | (go_at_call 23; exact Calls.regrown_of (GMB.out _)) | (go_at_call 15; exact Calls.regrown_of (HCA.out _)) | (go_at_call 24; exact Calls.regrown_of (GCB.out _)) | (go_at_call 13; exact Calls.regrown_of (behind_calls s _ z2)) | (go_at_call 25; exact Calls.regrown_of (refBehind_calls s _ z2))))
            refine wpQuiet_nil ?_
            intro _ hw'
            obtain ⟨⟨dq, osq⟩, hw''⟩ := hw'
            subst hw''
            have b9 := below_regrown w7 dq osq
            go_wp2_with fail
            go_meet
            case rel => exact ⟨rfl, KA7.below b9, KB7.below b9, T7.below b9⟩
          case rest =>
            obtain ⟨rfl, KA8, KB8, T8⟩ := hcut
            clear T7 KA7 KB7 HCA GCB GMA
            go_upto_region 10 with fail
            go_cut [136] from 19 (fun s136 wx => s136 = .bool false ∧ wx = wc)
            case first =>
              have hq := fun W => neq_run dk db dn dnn dp W
              obtain ⟨p0, p1, p2, p3, p4⟩ := KA8.c
              obtain ⟨q0, q1, q2, q3, q4⟩ := KB8.c
              simp only at p0 p1 p2 p3 p4 q0 q1 q2 q3 q4
              have d3 := D3.out
              have p3' := P3.out
              clear GMB GBY XW D3 P3
              rcases d3 with ⟨rfl, rfl⟩ | ⟨rfl, rfl⟩
              all_goals
                rcases p3' with ⟨rfl, rfl⟩ | ⟨rfl, rfl⟩
                all_goals
                  go_wp2_with fail
                  go_meet
                  case rel => exact ⟨rfl, rfl⟩
            case rest =>
              obtain ⟨rfl, rfl⟩ := hcut
              clear KA8 KB8 D3 P3
              obtain ⟨p0, p1, p2, p3, p4⟩ := T8.1.c
              simp only at p0 p1 p2 p3 p4
              have xw := XW.out
              rcases xw with ⟨rfl, rfl, rfl⟩ | ⟨rfl, rfl, rfl⟩
              · clear XW GBY
                go_wp2_with fail
                refine (GMB.out _).mono ?_
                rintro e w9 ⟨rfl, hb9⟩
                have T9 := T8.below hb9
                clear p0 p1 p2 p3 p4 T8 hb9 GMB
                have hv9 := T9.2.2.1
                have b9 := T9.2.2.2
                go_wp2_with fail
                refine (works_calls _ hv9).mono ?_
                rintro e wz ⟨rfl, hbz⟩
                go_wp2
                go_ret
                exact ⟨rfl, below_of b9 hbz⟩
              · clear XW
                have GB := Lib.hid (GBY.out rfl)
                clear GBY
                go_wp2_with fail
                refine (GMB.out _).mono ?_
                rintro e w9 ⟨rfl, hb9⟩
                have T9 := T8.below hb9
                clear p0 p1 p2 p3 p4 T8 hb9 GMB
                obtain ⟨p0, p1, p2, p3, p4⟩ := T9.1.c
                simp only at p0 p1 p2 p3 p4
                go_wp2_with fail
                refine (GB.out _).mono ?_
                rintro e wy ⟨rfl, hby⟩
                have Ty := T9.below hby
                clear p0 p1 p2 p3 p4 T9 hby GB
                have hvy := Ty.2.2.1
                have bY := Ty.2.2.2
                go_wp2_with fail
                refine (works_calls _ hvy).mono ?_
                rintro e wz ⟨rfl, hbz⟩
                go_wp2
                go_ret
                exact ⟨rfl, below_of bY hbz⟩

end Go.Proofs.YtaeiahkomdpcoaaDoor.Name
