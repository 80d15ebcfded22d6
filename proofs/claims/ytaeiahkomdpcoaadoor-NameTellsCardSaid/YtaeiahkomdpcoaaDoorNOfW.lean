/- The walk of the document's answer for what bytes are read as. -/
import Derived.Test.YtaeiahkomdpcoaaDoorNOfP
import Derived.Test.YtaeiahkomdpcoaaDoorNRefE
import Derived.Test.YtaeiahkomdpcoaaDoorNameDecW
namespace Go.Proofs.YtaeiahkomdpcoaaDoor.Name
open Go.RowKit Go.Shelf

/-- What is answered where there is no key. -/
def zf : Value := .tuple #[zeroK.val, .bool false]

set_option maxHeartbeats 1000000 in
set_option maxRecDepth 100000 in
theorem of_none (w : World) : Calls Tryd.prog 16 #[.string ⟨#[]⟩] w fun e w' => e = .returned zf ∧ Below w.heap.size w w' := by
  go_enter Tryd.func16, Tryd.ntmps16
  go_upto_region 1 with fail
  go_cut [9] from 8 (fun s9 wx => s9 = .bool true ∧ KeyAt wx w.heap.size zeroK ∧ Below w.heap.size w wx)
  case first =>
    go_wp2_with fail
    go_meet
    case rel => exact ⟨rfl, (MapKept.heap_alloc w _).1, below_one _ _⟩
  case rest =>
    obtain ⟨rfl, hA, hb⟩ := hcut
    have g0 := hA.f 0
    have g1 := hA.f 1
    have g2 := hA.f 2
    have g3 := hA.f 3
    have g4 := hA.f 4
    obtain ⟨q0, q1, q2, q3, q4⟩ := hA.c
    have hG := hA.setAll zeroK
    go_wp2
    refine bodyPost_ret (results_key rfl _ _ w.heap.size 24 (Key.cells zeroK) (0, 0) _ rfl hG Tryd.underlying24 rfl (by kernel_rfl)) rfl ?_
    exact ⟨rfl, below_key (below_key (below_key (below_key (below_key hb ⟨w.heap.size, 0, none⟩ (Nat.le_refl _) _) ⟨w.heap.size, 1, none⟩ (Nat.le_refl _) _) ⟨w.heap.size, 2, none⟩ (Nat.le_refl _) _) ⟨w.heap.size, 3, none⟩ (Nat.le_refl _) _) ⟨w.heap.size, 4, none⟩ (Nat.le_refl _) _⟩

def OPlan1 (R : ByteArray) (hB : Bool) (c : Nat) (K1 : Key) (y1 : ByteArray) (j1 : Bool) (out : Value) : Prop :=
  (hB = false ∧ K1 = K0 c ∧ y1 = R ∧ j1 = true) ∨
  (hB = true ∧ ∃ Z, Z ≤ R.size ∧ (∀ k (h : k < R.size), k < Z → R[k].toNat ≠ 0) ∧ ((Z = R.size ∧ out = zf) ∨ (∃ h : Z < R.size, R[Z].toNat = 0 ∧ K1 = { K0 c with bucket := R.extract 0 Z } ∧ y1 = R.extract (Z + 1) R.size ∧ j1 = true)))
def OPlan2 (k3 : Bool) (K1 : Key) (y1 : ByteArray) (K2 : Key) (y2 : ByteArray) : Prop :=
  (k3 = false ∧ K2 = K1 ∧ y2 = y1) ∨ (k3 = true ∧ K2 = { K1 with name := bs (nm y1.data.toList).1 } ∧ y2 = bs (nm y1.data.toList).2 ∧ { K1 with name := bs [] } = K1)
def OPlan3 (hN k3 : Bool) (K2 : Key) (y2 : ByteArray) (K3 : Key) (y3 : ByteArray) (j3 : Bool) (out : Value) : Prop :=
  (hN = false ∧ K3 = K2 ∧ y3 = y2 ∧ j3 = true) ∨ (hN = true ∧ y2.size < 8 ∧ out = zf) ∨
  (hN = true ∧ 8 ≤ y2.size ∧ ∃ N0, N0 = val (y2.data.toList.take 8) ∧ N0 ≤ top ∧ K3 = { K2 with n := if k3 = true then top - N0 else N0 } ∧ y3 = y2.extract 8 y2.size ∧ j3 = true)
def OPlan4 (k5 : Bool) (K3 : Key) (y3 : ByteArray) (K4 : Key) : Prop :=
  ((k5 && decide (y3.size = 2)) = false ∧ K4 = K3) ∨ (k5 = true ∧ ∃ h : y3.size = 2, K4 = { K3 with part := ((y3[0].toNat * 256 + y3[1].toNat : Nat) : Int) })
def OPlan5 (s : ByteArray) (K4 : Key) (out : Value) : Prop :=
  (mayB K4 = false ∧ out = zf) ∨ (mayB K4 = true ∧ ((bs (encL K4)).toList == s.toList) = false ∧ out = zf) ∨ (mayB K4 = true ∧ ((bs (encL K4)).toList == s.toList) = true ∧ out = .tuple #[K4.val, .bool true])

theorem val_two : ∀ (l : Bs) (h : l.length = 2), val l = (l[0]'(by omega)).toNat * 256 + (l[1]'(by omega)).toNat
  | [x, y], _ => by simp [val]
theorem oplan (s : ByteArray) (hs : s.size ≤ 4096) (h0 : 0 < s.size) :
    ∃ (K1 : Key) (y1 : ByteArray) (j1 : Bool) (K2 : Key) (y2 : ByteArray) (K3 : Key) (y3 : ByteArray) (j3 : Bool) (K4 : Key), y1.size ≤ 4096 ∧ y2.size ≤ 4096 ∧ K4.fits ∧ (K1.kind = s[0].toNat ∧ K2.kind = s[0].toNat ∧ K3.kind = s[0].toNat ∧ bs y3.data.toList = y3) ∧
      OPlan1 (s.extract 1 s.size) (hasB s[0].toNat) s[0].toNat K1 y1 j1 (ofR s.data.toList) ∧ (j1 = true → OPlan2 (decide (s[0].toNat = 3)) K1 y1 K2 y2) ∧ (j1 = true → OPlan3 (hasN s[0].toNat) (decide (s[0].toNat = 3)) K2 y2 K3 y3 j3 (ofR s.data.toList)) ∧
      OPlan4 (decide (s[0].toNat = 5)) K3 y3 K4 ∧ (j3 = true → OPlan5 s K4 (ofR s.data.toList)) := by
  have hRd : (s.extract 1 s.size).data.toList = s.data.toList.drop 1 := by rw [str_drop]; rfl
  have hg : s.data.toList.getD 0 0 = s[0] := getD_at s 0 h0
  have hcc := s[0].toNat_lt
  obtain ⟨c, hc⟩ : ∃ c, c = s[0].toNat := ⟨_, rfl⟩
  rw [← hc] at hcc
  simp only [← hc]
  obtain ⟨R, hR⟩ : ∃ R, R = s.extract 1 s.size := ⟨_, rfl⟩
  rw [← hR] at hRd ⊢
  have hRz : R.size ≤ 4096 := by
    have h := size_list R
    rw [hRd, List.length_drop, size_list] at h; omega
  have hRl := size_list R
  obtain ⟨d1, hd1⟩ : ∃ d, d = o1 c R.data.toList := ⟨_, rfl⟩
  obtain ⟨d2, hd2⟩ : ∃ d, d = o2 d1 := ⟨_, rfl⟩
  obtain ⟨d3, hd3⟩ : ∃ d, d = o3 d2 := ⟨_, rfl⟩
  obtain ⟨d4, hd4⟩ : ∃ d, d = o4 d3 := ⟨_, rfl⟩
  have hD : ofD s.data.toList = d4 := by unfold ofD; rw [hg, hd4, hd3, hd2, hd1, hc, hRd]
  have i4 : d4.is = d3.is := by rw [hd4]; unfold o4; split <;> rfl
  have i2 : d2.is = d1.is := by rw [hd2]; unfold o2; split <;> rfl
  have hne : s.data.toList ≠ [] := fun e => by have := size_list s; rw [e] at this; simp at this; omega
  have hout : d3.is = false → ofR s.data.toList = zf := fun h => by
    unfold ofR
    rw [hD, i4, h, if_neg (fun g => by cases g.2.1)]; rfl
  have i31 : d1.is = false → d3.is = false := fun h => by
    rw [hd3]; unfold o3; split
    · show (d2.is && _) = false
      rw [i2, h]; rfl
    · rw [i2, h]
  have f1 : d1.key.kind = c ∧ d1.key.bucket.size ≤ 4096 ∧ d1.key.name = ⟨#[]⟩ ∧ d1.key.n ≤ top ∧ d1.rest.length ≤ 4096 := by
    rw [hd1]; unfold o1
    split
    · exact ⟨rfl, by show (bs _).size ≤ _; rw [bs_size, List.length_take]; omega, rfl, Nat.zero_le _, by show List.length _ ≤ _; rw [List.length_drop]; omega⟩
    · exact ⟨rfl, by show 0 ≤ 4096; omega, rfl, Nat.zero_le _, by show R.data.toList.length ≤ 4096; omega⟩
  have p1 : OPlan1 R (hasB c) c d1.key (bs d1.rest) d1.is (ofR s.data.toList) := by
    unfold OPlan1
    cases hb : hasB c
    · refine .inl ⟨rfl, ?_, ?_, ?_⟩ <;> (rw [hd1]; unfold o1; rw [hb]; rfl)
    · refine .inr ⟨rfl, z0 R.data.toList, by have := z0_le R.data.toList; omega, fun k h hk => ?_, ?_⟩
      · have := z0_lt R.data.toList k hk (by rw [hRl]; exact h)
        exact fun e => this (UInt8.toNat_inj.1 e)
      · rcases Nat.lt_or_ge (z0 R.data.toList) R.size with h | h
        · have hz := z0_at R.data.toList (by rw [hRl]; exact h)
          refine .inr ⟨h, ?_, ?_, ?_, ?_⟩
          · have e : R[z0 R.data.toList]'h = 0 := hz
            rw [e]; rfl
          · rw [hd1]; unfold o1; rw [hb, if_pos rfl, str_take]
          · rw [hd1]; unfold o1; rw [hb, if_pos rfl, str_drop]
          · rw [hd1]; unfold o1; rw [hb, if_pos rfl]; exact decide_eq_true (by rw [hRl]; exact h)
        · refine .inl ⟨by have := z0_le R.data.toList; omega, hout (i31 ?_)⟩
          rw [hd1]; unfold o1; rw [hb, if_pos rfl]; exact decide_eq_false (by rw [hRl]; omega)
  have f2 : d2.key.kind = c ∧ d2.key.bucket.size ≤ 4096 ∧ d2.key.name.size ≤ 4096 ∧ d2.key.n ≤ top ∧ d2.rest.length ≤ 4096 := by
    have hn := nm_len d1.rest
    rw [hd2]; unfold o2
    split
    · exact ⟨f1.1, f1.2.1, by show (bs _).size ≤ _; rw [bs_size]; omega, f1.2.2.2.1, by show (nm d1.rest).2.length ≤ 4096; omega⟩
    · exact ⟨f1.1, f1.2.1, by rw [f1.2.2.1]; decide, f1.2.2.2.1, f1.2.2.2.2⟩
  have p2 : OPlan2 (decide (c = 3)) d1.key (bs d1.rest) d2.key (bs d2.rest) := by
    unfold OPlan2
    by_cases h3 : c = 3
    · refine .inr ⟨decide_eq_true h3, ?_, ?_, ?_⟩
      · rw [hd2]; unfold o2; rw [if_pos (by rw [f1.1]; exact h3)]; rfl
      · rw [hd2]; unfold o2; rw [if_pos (by rw [f1.1]; exact h3)]; rfl
      · rw [show bs [] = d1.key.name from f1.2.2.1.symm]
    · refine .inl ⟨decide_eq_false h3, ?_, ?_⟩ <;> (rw [hd2]; unfold o2; rw [if_neg (by rw [f1.1]; exact h3)])
  have f3 : d3.key.kind = c ∧ d3.key.bucket.size ≤ 4096 ∧ d3.key.name.size ≤ 4096 ∧ d3.key.n ≤ top := by
    rw [hd3]; unfold o3
    split
    · refine ⟨f2.1, f2.2.1, f2.2.2.1, ?_⟩
      show (if _ then _ else _) ≤ top
      split
      · exact Nat.sub_le _ _
      · exact val8_le _
    · exact ⟨f2.1, f2.2.1, f2.2.2.1, f2.2.2.2.1⟩
  have p3 : d1.is = true → OPlan3 (hasN c) (decide (c = 3)) d2.key (bs d2.rest) d3.key (bs d3.rest) d3.is (ofR s.data.toList) := fun hj => by
    unfold OPlan3
    rw [bs_size]
    cases hn : hasN c
    · refine .inl ⟨rfl, ?_, ?_, ?_⟩
      · rw [hd3]; unfold o3; rw [f2.1, hn]; rfl
      · rw [hd3]; unfold o3; rw [f2.1, hn]; rfl
      · rw [hd3]; unfold o3; rw [f2.1, hn, if_neg (by decide), i2, hj]
    · rcases Nat.lt_or_ge d2.rest.length 8 with h8 | h8
      · refine .inr (.inl ⟨rfl, h8, hout ?_⟩)
        rw [hd3]; unfold o3; rw [f2.1, hn, if_pos rfl, decide_eq_false (show ¬ 8 ≤ d2.rest.length by omega)]
        exact Bool.and_false _
      · refine .inr (.inr ⟨rfl, h8, val (d2.rest.take 8), rfl, val8_le _, ?_, ?_, ?_⟩)
        · rw [hd3]; unfold o3; rw [f2.1, hn, if_pos rfl]
          simp only [f2.1, decide_eq_true_eq]
        · rw [hd3]; unfold o3; rw [f2.1, hn, if_pos rfl, ← bs_size, str_drop]; rfl
        · rw [hd3]; unfold o3; rw [f2.1, hn, if_pos rfl, decide_eq_true h8, i2, hj]; rfl
  have p4 : OPlan4 (decide (c = 5)) d3.key (bs d3.rest) d4.key := by
    unfold OPlan4
    by_cases h5 : c = 5 ∧ d3.rest.length = 2
    · refine .inr ⟨decide_eq_true h5.1, by rw [bs_size]; exact h5.2, ?_⟩
      rw [hd4]; unfold o4; rw [if_pos ⟨by rw [f3.1]; exact h5.1, h5.2⟩]
      have hv := val_two d3.rest h5.2
      rw [hv]; rfl
    · refine .inl ⟨?_, ?_⟩
      · rw [bs_size, Bool.eq_false_iff]; intro h; simp only [Bool.and_eq_true, decide_eq_true_eq] at h; exact h5 h
      · rw [hd4]; unfold o4; rw [if_neg (by rw [f3.1]; exact h5)]
  have f4 : d4.key.fits := by
    rw [hd4]; unfold o4
    split
    · exact ⟨f3.2.1, f3.2.2.1, by show d3.key.kind < 256; rw [f3.1]; exact hcc, f3.2.2.2⟩
    · exact ⟨f3.2.1, f3.2.2.1, by rw [f3.1]; exact hcc, f3.2.2.2⟩
  have p5 : d3.is = true → OPlan5 s d4.key (ofR s.data.toList) := fun hj => by
    unfold OPlan5 ofR
    rw [hD, i4, hj]
    cases hm : mayB d4.key
    · exact .inl ⟨rfl, if_neg (fun h => by cases h.2.2.1)⟩
    · by_cases he : encL d4.key = s.data.toList
      · exact .inr (.inr ⟨rfl, by rw [he, bs_list]; simp, if_pos ⟨hne, rfl, rfl, he⟩⟩)
      · refine .inr (.inl ⟨rfl, ?_, if_neg (fun h => he h.2.2.2)⟩)
        rw [beq_eq_false_iff_ne, ByteArray.toList_eq, ByteArray.toList_eq]
        exact he
  exact ⟨d1.key, bs d1.rest, d1.is, d2.key, bs d2.rest, d3.key, bs d3.rest, d3.is, d4.key, by rw [bs_size]; exact f1.2.2.2.2, by rw [bs_size]; exact f2.2.2.2.2, f4, ⟨f1.1, f2.1, f3.1, rfl⟩, p1, fun _ => p2, p3, p4, p5⟩

end Go.Proofs.YtaeiahkomdpcoaaDoor.Name
