/- The walk of package cell's unbody. -/
import Derived.Test.YtaeiahkomdpcoaaCellH
namespace Go.Proofs.Ytaeiahkomdpcoaa.Cell
open Go.RowKit Go.Proofs.Ytaeiahkomdpcoaa.Num Go.Proofs.Ytaeiahkomdpcoaa.Wire

/-- What unbody's call leaves: the reader, and all else as it was. -/
def RG (w : World) (p : Nat) (st : St) (wx : World) : Prop := RdAt wx p st ∧ w.grownBy wx (some p)
theorem RG.step {w wx wy : World} {p : Nat} {st st' : St} (h : RG w p st wx) (h1 : RdAt wy p st') (h2 : wx.grownBy wy (some p)) : RG w p st' wy := ⟨h1, grown_trans h.2 h2⟩
theorem RG.below {w wx wy : World} {p : Nat} {st : St} (h : RG w p st wx) (hb : Below wx.heap.size wx wy) : RG w p st wy := ⟨h.1.below hb, grown_trans h.2 (grown_of_below hb _)⟩
theorem RG.set {w wx : World} {p : Nat} {st : St} (h : RG w p st wx) (a : Addr) (ha : w.heap.size ≤ a.block) (hne : a.block ≠ p) (v : Value) : RG w p st (wx.setCell a v) := ⟨h.1.setOther a hne v, grown_set h.2 a (.inr ha) v⟩
theorem BRow.other {w : World} {b : Nat} {l : Int} {i : ByteArray} {A : Option Addr} {n cp : Nat} (h : BRow w b l i A n cp) (a : Addr) (ha : a.block ≠ b) (v : Value) : BRow (w.setCell a v) b l i A n cp :=
  (Below.heap_setCell _ _ _ _ (fun e => ha e.symm)).trans h
theorem BRow.f {w : World} {b : Nat} {l : Int} {i : ByteArray} {A : Option Addr} {n cp : Nat} (h : BRow w b l i A n cp) (k : Nat) : w.frozen? ⟨b, k, none⟩ = false := Lib.frozen_of_heap h k
theorem BRow.set1 {w : World} {b : Nat} {l : Int} {i : ByteArray} {A : Option Addr} {n cp : Nat} (h : BRow w b l i A n cp) (x : ByteArray) : BRow (w.setCell ⟨b, 1, none⟩ (.string x)) b l x A n cp := by
  unfold BRow at h ⊢; simp [World.setCell, Array.getElem?_modify, h]
theorem BRow.set2 {w : World} {b : Nat} {l : Int} {i : ByteArray} {A : Option Addr} {n cp : Nat} (h : BRow w b l i A n cp) (A' : Option Addr) (n' cp' : Nat) : BRow (w.setCell ⟨b, 2, none⟩ (.slice A' n' cp')) b l i A' n' cp' := by
  unfold BRow at h ⊢; simp [World.setCell, Array.getElem?_modify, h]
theorem BRow.set0 {w : World} {b : Nat} {l : Int} {i : ByteArray} {A : Option Addr} {n cp : Nat} (h : BRow w b l i A n cp) (l' : Int) : BRow (w.setCell ⟨b, 0, none⟩ (.int .i64 l')) b l' i A n cp := by
  unfold BRow at h ⊢; simp [World.setCell, Array.getElem?_modify, h]
theorem brow_new (w : World) (l : Int) (i : ByteArray) (A : Option Addr) (n cp : Nat) : BRow (w.alloc (.cells #[.int .i64 l, .string i, .slice A n cp] 48)) w.heap.size l i A n cp := (MapKept.heap_alloc w _).1

theorem PcsAt.other {w : World} {A : Option Addr} {ps : List Piece} (h : PcsAt w A ps) (a : Addr) (hne : ∀ ad, A = some ad → ad.block ≠ a.block) (v : Value) : PcsAt (w.setCell a v) A ps := fun i s hs => by
  obtain ⟨ad, h0, h1, h2, h3, h4⟩ := h i s hs
  have hk : ∀ n, (w.setCell a v).cell? (ad.add n) = w.cell? (ad.add n) := fun n => World.cell?_of_block (by rw [block_of_add]; exact Below.heap_setCell _ _ _ _ (hne ad h0))
  exact ⟨ad, h0, by simpa [World.setCell] using h1, (hk _).trans h2, (hk _).trans h3, (hk _).trans h4⟩
/-- A piece in a block. -/
def PRow (w : World) (b : Nat) (r s l : Nat) : Prop := w.heap[b]? = some (.cells #[.int .i64 (r : Int), .int .u64 (s : Int), .int .i64 (l : Int)] 75 (0, 0))
theorem prow_new (w : World) (r s l : Nat) : PRow (w.alloc (.cells #[.int .i64 (r : Int), .int .u64 (s : Int), .int .i64 (l : Int)] 75)) w.heap.size r s l := (MapKept.heap_alloc w _).1
section
variable {w w' : World} {b r s l : Nat}
theorem PRow.lt (h : PRow w b r s l) : b < w.heap.size := (Array.getElem?_eq_some_iff.1 h).1
theorem PRow.grown {p : Nat} (h : PRow w b r s l) (hne : b ≠ p) (hg : w.grownBy w' (some p)) : PRow w' b r s l := (hg.block _ h.lt (by simpa using hne)).trans h
theorem PRow.c (h : PRow w b r s l) : w.cell? ⟨b, 0, none⟩ = some (.int .i64 (r : Int)) ∧ w.cell? ⟨b, 1, none⟩ = some (.int .u64 (s : Int)) ∧ w.cell? ⟨b, 2, none⟩ = some (.int .i64 (l : Int)) := by
  refine ⟨?_, ?_, ?_⟩ <;> (rw [Joins.cell_of_block h]; rfl)
theorem PRow.f (h : PRow w b r s l) (k : Nat) : w.frozen? ⟨b, k, none⟩ = false := Lib.frozen_of_heap h k
theorem PRow.set1 (h : PRow w b r s l) (x : Nat) : PRow (w.setCell ⟨b, 1, none⟩ (.int .u64 (x : Int))) b r x l := by
  unfold PRow at h ⊢; simp [World.setCell, Array.getElem?_modify, h]
theorem PRow.set2 (h : PRow w b r s l) (x : Nat) : PRow (w.setCell ⟨b, 2, none⟩ (.int .i64 (x : Int))) b r s x := by
  unfold PRow at h ⊢; simp [World.setCell, Array.getElem?_modify, h]
end
abbrev Own (w : World) (B : Nat) (A : Option Addr) (cp : Nat) (ps : List Piece) : Prop := w.ownsRow B 75 3 (.slice A ps.length cp) ps.length (pcCells ps)
theorem own_ne {w : World} {B : Nat} {A : Option Addr} {cp : Nat} {ps : List Piece} (h : Own w B A cp ps) {p : Nat} (hp : p < B) : (Value.slice A ps.length cp).ownBlock = none ∨ (Value.slice A ps.length cp).ownBlock ≠ some p := by
  cases hb : (Value.slice A ps.length cp).ownBlock with
  | none => exact .inl rfl
  | some k => exact .inr (fun e => by have := (h.lt k hb).1; cases e; omega)
theorem own_big {w : World} {B : Nat} {A : Option Addr} {cp : Nat} {ps : List Piece} (h : Own w B A cp ps) {g : Nat} (hg : w.heap.size ≤ g) : (Value.slice A ps.length cp).ownBlock = none ∨ (Value.slice A ps.length cp).ownBlock ≠ some g := by
  cases hb : (Value.slice A ps.length cp).ownBlock with
  | none => exact .inl rfl
  | some k => exact .inr (fun e => by have := (h.lt k hb).2; cases e; omega)
theorem own_body {w : World} {B : Nat} {A : Option Addr} {cp : Nat} {ps : List Piece} (h : Own w B A cp ps) {b : Nat} {l : Int} {i : ByteArray} {A' : Option Addr} {n c : Nat} (hb : BRow w b l i A' n c) : (Value.slice A ps.length cp).ownBlock ≠ some b := fun e => by
  rcases h.2 with ⟨hv, _⟩ | ⟨g, cap, cur, hv, _, hh, _⟩
  · rw [hv] at e; cases e
  · rw [hv] at e
    have : g = b := by simpa [Value.ownBlock] using e
    subst this
    unfold BRow at hb
    rw [hb] at hh
    have h2 := Option.some.inj hh
    injection h2 with _ h3 _
    exact absurd h3 (by decide)
theorem own_addr {w : World} {B : Nat} {A : Option Addr} {cp : Nat} {ps : List Piece} (h : Own w B A cp ps) {b : Nat} {l : Int} {i : ByteArray} {A' : Option Addr} {n c : Nat} (hb : BRow w b l i A' n c) : ∀ ad, A = some ad → ad.block ≠ b := fun ad h1 h2 => by
  subst h1
  exact own_body h hb (by simp [Value.ownBlock, h2])
theorem grown_one (w : World) (a : Addr) (v : Value) : w.grownBy (w.setCell a v) (some a.block) := grown_set (p := a.block) ⟨rfl, rfl, rfl, Nat.le_refl _, fun _ _ _ => rfl⟩ a (.inl rfl) v

theorem RG.own {w W wn : World} {p : Nat} {st : St} {o : Option Nat} (h : RG w p st W) (hg : W.grownBy wn o) (ho : ∀ k, o = some k → w.heap.size ≤ k) (hp : p < w.heap.size) : RG w p st wn := by
  refine ⟨(hg.block p h.1.lt (fun e => ?_)).trans h.1, hg.os.trans h.2.os, hg.tape.trans h.2.tape, hg.output.trans h.2.output, Nat.le_trans h.2.size hg.size, fun k hk hne => (hg.block k (Nat.lt_of_lt_of_le hk h.2.size) (fun e => ?_)).trans (h.2.block k hk hne)⟩
  · have := ho p (by first | exact e | exact e.symm); omega
  · have := ho k (by first | exact e | exact e.symm); omega
theorem BRow.own {W wn : World} {b : Nat} {l : Int} {i : ByteArray} {A : Option Addr} {n cp : Nat} {o : Option Nat} (h : BRow W b l i A n cp) (hg : W.grownBy wn o) (ho : o ≠ some b) : BRow wn b l i A n cp :=
  (hg.block b h.lt (fun e => ho (by first | exact e | exact e.symm))).trans h

/-- What unbody hands back. -/
def UnbOf (w : World) (p : Nat) (b : Body) (st : St) (e : Ending) (w' : World) : Prop := ∃ A cp, e = .returned (.agg #[.int .i64 b.len, .string b.inl, .slice A b.pcs.length cp]) ∧ PcsAt w' A b.pcs ∧ (∀ ad, A = some ad → w.heap.size ≤ ad.block) ∧ RG w p st w'

set_option maxHeartbeats 3200000 in
set_option maxRecDepth 100000 in
theorem unbody_calls (p : Nat) (st : St) (w : World) (hR : RdAt w p st) (hl : st.1.length ≤ 100000) :
    Calls Try.prog 45 #[.pointer (some ⟨p, 0, none⟩)] w fun e w' => UnbOf w p (unbR st).1 (unbR st).2 e w' := by
  obtain ⟨i0, hi, hz0, hz1, hz2⟩ := info_parts infoPiece
  have hp := hR.lt
  obtain ⟨out, qo⟩ : ∃ x, x = unbR st := ⟨_, rfl⟩
  rw [← qo]
  unfold unbR at qo
  have l1 := numR_len 32768 st
  have N1 := fun (W : World) (h : RdAt W p st) => num_calls p 32768 st W h (by omega)
  obtain ⟨a1, qa1⟩ : ∃ x, x = numR 32768 st := ⟨_, rfl⟩
  rw [← qa1] at qo N1 l1
  clear qa1
  obtain ⟨L, s1⟩ := a1
  simp only at qo N1 l1
  have l2 := boolR_len s1
  have N2 := fun (W : World) (h : RdAt W p s1) => boolR_calls p s1 W h (by omega)
  obtain ⟨a2, qa2⟩ : ∃ x, x = boolR s1 := ⟨_, rfl⟩
  rw [← qa2] at qo N2 l2
  clear qa2
  obtain ⟨bb, s2⟩ := a2
  simp only at qo N2 l2
  have hLw : IntKind.i64.wrap (L : Int) = (L : Int) := IntWalk.i64_in _ (by omega)
  have G1 := Lib.hid N1
  have G2 := Lib.hid N2
  have b0 := below_one w (.cells #[.int .i64 0, .string ⟨#[]⟩, .slice none 0 0] 48)
  have RG0 : RG w p st (w.alloc (.cells #[.int .i64 0, .string ⟨#[]⟩, .slice none 0 0] 48)) := ⟨hR.below b0, grown_of_below b0 _⟩
  have B0 := brow_new w 0 ⟨#[]⟩ none 0 0
  clear N1 N2 hR b0
  go_enter Try.func45, Try.ntmps45
  go_upto_region 1 with fail
  go_cut [3] from 7 (fun s3 wx => ∃ g3 : Nat, s3 = .pointer (some ⟨g3, 0, none⟩) ∧ w.heap.size < g3 ∧ BRow wx g3 (L : Int) ⟨#[]⟩ none 0 0 ∧ BRow wx w.heap.size 0 ⟨#[]⟩ none 0 0 ∧ RG w p s1 wx)
  case first =>
    clear G2
    have hne : w.heap.size ≠ p := by omega
    go_wp2_with fail
    refine (G1.out _ RG0.1).mono ?_
    rintro e w2 ⟨rfl, hr2, hg2⟩
    have RG2 := RG0.step hr2 hg2
    have B2 := B0.grown hne hg2
    have lt2 := B2.lt
    have b3 := below_one w2 (.cells #[.int .i64 (L : Int), .string ⟨#[]⟩, .slice none 0 0] 48)
    have B3 := B2.below b3
    have RG3 := RG2.below b3
    have B4 := brow_new w2 (L : Int) ⟨#[]⟩ none 0 0
    go_wp2_with fail
    go_meet
    case rel => exact ⟨w2.heap.size, rfl, lt2, B4, B3, RG3⟩
  case rest =>
    obtain ⟨g3, rfl, hg3, B1, B2, R1⟩ := hcut
    clear G1 B0 RG0
    have hne : w.heap.size ≠ p := by omega
    have hne3 : g3 ≠ p := by omega
    go_wp2_with fail
    refine (G2.out _ R1.1).mono ?_
    rintro e w2 ⟨rfl, hr2, hg2⟩
    have R2 := R1.step hr2 hg2
    have C1 := B1.grown hne3 hg2
    have C2 := B2.grown hne hg2
    clear R1 B1 B2 hr2 hg2 G2
    cases bb
    · rw [if_pos rfl] at qo
      have l3 := textR_len 64 s2
      have N3 := Lib.hid (fun (W : World) (h : RdAt W p s2) => text_calls p 64 s2 W h (by omega) (by omega))
      obtain ⟨a3, qa3⟩ : ∃ x, x = textR 64 s2 := ⟨_, rfl⟩
      rw [← qa3] at qo N3 l3
      clear qa3
      obtain ⟨t3, s3⟩ := a3
      simp only at qo N3 l3
      subst qo
      go_wp2_with fail
      refine (N3.out _ R2.1).mono ?_
      rintro e w3 ⟨rfl, hr3, hg4⟩
      have R3 := R2.step hr3 hg4
      have D1 := C1.grown hne3 hg4
      have D2 := C2.grown hne hg4
      clear R2 C1 C2 hr3 hg4 N3
      obtain ⟨p0, p1, p2⟩ := D1.c
      have f1 := D1.f 1
      have E1 := D1.set1 (bs t3)
      have E2 := D2.other ⟨g3, 1, none⟩ (by show g3 ≠ w.heap.size; omega) (.string (bs t3))
      have R4 := R3.set ⟨g3, 1, none⟩ (by show w.heap.size ≤ g3; omega) hne3 (.string (bs t3))
      obtain ⟨q0, q1, q2⟩ := E1.c
      obtain ⟨z0, z1, z2⟩ := E2.c
      have y0 := E2.f 0
      have y1 := E2.f 1
      have y2 := E2.f 2
      have hG := ((E2.set0 (L : Int)).set1 (bs t3)).set2 none 0 0
      have hle : w.heap.size ≤ w.heap.size := Nat.le_refl _
      have R5 := ((R4.set ⟨w.heap.size, 0, none⟩ hle hne (.int .i64 (L : Int))).set ⟨w.heap.size, 1, none⟩ hle hne (.string (bs t3))).set ⟨w.heap.size, 2, none⟩ hle hne (.slice none 0 0)
      go_wp2_with fail
      refine bodyPost_ret (results_cell_row rfl _ _ w.heap.size 48 _ (0, 0) _ rfl hG Try.underlying48 rfl (by kernel_rfl)) rfl ?_
      exact ⟨none, 0, rfl, PcsAt.nil _ _, (fun ad h => by cases h), R5⟩
    · rw [if_neg (by decide)] at qo
      have l3 := numR_len 512 s2
      have N3 := Lib.hid (fun (W : World) (h : RdAt W p s2) => num_calls p 512 s2 W h (by omega))
      obtain ⟨a3, qa3⟩ : ∃ x, x = numR 512 s2 := ⟨_, rfl⟩
      rw [← qa3] at qo N3 l3
      clear qa3
      obtain ⟨N, s3⟩ := a3
      simp only at qo N3 l3
      have QO := Lib.hid qo
      have hs3 : s3.1.length ≤ 100000 := by omega
      have hN : N ≤ 512 := l3.2
      clear l1 l2 l3 qo hl hLw
      go_wp2_with fail
      refine (N3.out _ R2.1).mono ?_
      rintro e w3 ⟨rfl, hr3, hg4⟩
      have R3 := R2.step hr3 hg4
      have D1 := C1.grown hne3 hg4
      have D2 := C2.grown hne hg4
      clear R2 C1 C2 hr3 hg4 N3
      go_wp2_with fail
      go_loopw [5] (fun iv wr => ∃ (k : Nat) (acc : List Piece) (sk : St) (A : Option Addr) (cp : Nat), k ≤ N ∧ acc.length = k ∧ iv = .int .u64 (k : Int) ∧ sk.1.length ≤ 100000 ∧ Hid (pcsR N s3 = (acc ++ (pcsR (N - k) sk).1, (pcsR (N - k) sk).2)) ∧ Own wr w.heap.size A cp acc ∧ BRow wr g3 (L : Int) ⟨#[]⟩ A acc.length cp ∧ BRow wr w.heap.size 0 ⟨#[]⟩ none 0 0 ∧ RG w p sk wr) (fun iv _ => N - (intOf iv).toNat)
      case atStart => exact ⟨0, [], s3, none, 0, by omega, rfl, rfl, hs3, Lib.hid (by simp), World.ownsRow_nil _ _ _ _, D1, D2, R3⟩
      case round =>
        obtain ⟨k, acc, sk, A, cp, hk, hacc, rfl, hsk, hU, hown, F1, F2, RK⟩ := hrel
        have HA := Lib.hid hacc
        clear hacc
        have hle : w.heap.size ≤ w.heap.size := Nat.le_refl _
        by_cases hgo : k < N ∧ sk.2 = 0
        · obtain ⟨hkN, hs0⟩ := hgo
          obtain ⟨m, hm⟩ : ∃ m, N - k = m + 1 := ⟨N - k - 1, by omega⟩
          have hst := hU.out
          rw [hm, pcsR, if_neg (by omega)] at hst
          have l1 := numR_len 4096 sk
          have N1 := fun (W : World) (h : RdAt W p sk) => num_calls p 4096 sk W h (by omega)
          obtain ⟨a1, qa1⟩ : ∃ x, x = numR 4096 sk := ⟨_, rfl⟩
          rw [← qa1] at hst N1 l1
          clear qa1
          obtain ⟨r, sa⟩ := a1
          simp only at hst N1 l1
          have l2 := numR_len big sa
          have N2 := fun (W : World) (h : RdAt W p sa) => num_calls p big sa W h (by omega)
          obtain ⟨a2, qa2⟩ : ∃ x, x = numR big sa := ⟨_, rfl⟩
          rw [← qa2] at hst N2 l2
          clear qa2
          obtain ⟨stp, sb⟩ := a2
          simp only at hst N2 l2
          have l3 := numR_len 32768 sb
          have N3 := fun (W : World) (h : RdAt W p sb) => num_calls p 32768 sb W h (by omega)
          obtain ⟨a3, qa3⟩ : ∃ x, x = numR 32768 sb := ⟨_, rfl⟩
          rw [← qa3] at hst N3 l3
          clear qa3
          obtain ⟨ln, sc⟩ := a3
          simp only at hst N3 l3
          have hsc : sc.1.length ≤ 100000 := by omega
          have hU2 := Lib.hid (show pcsR N s3 = ((acc ++ [⟨(r : Int), stp, (ln : Int)⟩]) ++ (pcsR (N - (k + 1)) sc).1, (pcsR (N - (k + 1)) sc).2) by
            rw [hst, show N - (k + 1) = m by omega]; simp)
          have G1 := Lib.hid N1
          have G2 := Lib.hid N2
          have G3 := Lib.hid N3
          have GE := Lib.hid (fun W (h : RdAt W p sk) => err_calls p sk W h)
          have hw1 : IntKind.i64.wrap (r : Int) = (r : Int) := IntWalk.i64_in _ (by omega)
          have hw3 : IntKind.i64.wrap (ln : Int) = (ln : Int) := IntWalk.i64_in _ (by omega)
          have hwk : IntKind.u64.wrap ((k : Int) + 1) = (k : Int) + 1 := IntWalk.u64_in _ (by omega)
          have hkI : (k : Int) < (N : Int) := by omega
          have hlt3 := F1.lt
          have hlt0 := F2.lt
          rw [hs0] at GE
          clear hst N1 N2 N3 l1 l2 l3 hU hm hs0
          go_wp2_with fail
          refine (GE.out _ RK.1).mono ?_
          rintro e wE ⟨rfl, hwE⟩
          subst hwE
          go_wp2_with fail
          refine (G1.out _ RK.1).mono ?_
          rintro e wa ⟨rfl, hra, hga⟩
          have Ra := RK.step hra hga
          have Fa1 := F1.grown hne3 hga
          have Fa2 := F2.grown hne hga
          have Oa := hown.kept hga (own_ne hown hp)
          have hlta := Fa1.lt
          have hlta0 := Fa2.lt
          have ba := below_one wa (.cells #[.int .i64 (r : Int), .int .u64 0, .int .i64 0] 75)
          have Rb := Ra.below ba
          have Fb1 := Fa1.below ba
          have Fb2 := Fa2.below ba
          have Ob : Own _ w.heap.size A cp acc := Oa.alloc (.cells #[.int .i64 (r : Int), .int .u64 0, .int .i64 0] 75)
          have Pb : PRow (wa.alloc (.cells #[.int .i64 (r : Int), .int .u64 0, .int .i64 0] 75)) wa.heap.size r 0 0 := prow_new wa r 0 0
          have hob := own_big Oa (Nat.le_refl wa.heap.size)
          have hgpp : wa.heap.size ≠ p := by omega
          have hgp3 : wa.heap.size ≠ g3 := by omega
          have hgp0 : wa.heap.size ≠ w.heap.size := by omega
          have hgpg : w.heap.size ≤ wa.heap.size := by omega
          obtain ⟨gp, hgp⟩ : ∃ gp, gp = wa.heap.size := ⟨_, rfl⟩
          clear RK F1 F2 hown hra hga Ra Fa1 Fa2 Oa ba G1 GE
          go_wp2_with fail
          refine (G2.out _ Rb.1).mono ?_
          rintro e wc2 ⟨rfl, hrc, hgc⟩
          rw [← hgp] at Pb hob hgpp hgp3 hgp0 hgpg ⊢
          have Rc := Rb.step hrc hgc
          have Fc1 := Fb1.grown hne3 hgc
          have Fc2 := Fb2.grown hne hgc
          have Oc : Own wc2 w.heap.size A cp acc := Ob.kept hgc (own_ne Ob hp)
          have Pc := Pb.grown hgpp hgc
          have Rd := Rc.set ⟨gp, 1, none⟩ hgpg hgpp (.int .u64 (stp : Int))
          have Fd1 := Fc1.other ⟨gp, 1, none⟩ hgp3 (.int .u64 (stp : Int))
          have Fd2 := Fc2.other ⟨gp, 1, none⟩ hgp0 (.int .u64 (stp : Int))
          have Od : Own (wc2.setCell ⟨gp, 1, none⟩ (.int .u64 (stp : Int))) w.heap.size A cp acc := Oc.kept (grown_one wc2 ⟨gp, 1, none⟩ (.int .u64 (stp : Int))) hob
          have Pd := Pc.set1 stp
          obtain ⟨p0, p1, p2⟩ := Pc.c
          have f1 := Pc.f 1
          clear Rb Fb1 Fb2 Ob Pb hrc hgc Rc Fc1 Fc2 Oc G2 hgp hlta hlta0 hlt3 hlt0
          go_wp2_with fail
          refine (G3.out _ Rd.1).mono ?_
          rintro e we ⟨rfl, hre, hge⟩
          have Re := Rd.step hre hge
          have Fe1 := Fd1.grown hne3 hge
          have Fe2 := Fd2.grown hne hge
          have Oe : Own we w.heap.size A cp acc := Od.kept hge (own_ne Od hp)
          have Pe := Pd.grown hgpp hge
          have Rf := Re.set ⟨gp, 2, none⟩ hgpg hgpp (.int .i64 (ln : Int))
          have Ff1 := Fe1.other ⟨gp, 2, none⟩ hgp3 (.int .i64 (ln : Int))
          have Ff2 := Fe2.other ⟨gp, 2, none⟩ hgp0 (.int .i64 (ln : Int))
          have Of : Own (we.setCell ⟨gp, 2, none⟩ (.int .i64 (ln : Int))) w.heap.size A cp acc := Oe.kept (grown_one we ⟨gp, 2, none⟩ (.int .i64 (ln : Int))) hob
          have Pf := Pe.set2 ln
          clear p0 p1 p2 f1 Rd Fd1 Fd2 Od Pd Pc hre hge Re Fe1 Fe2 Oe G3
          obtain ⟨p0, p1, p2⟩ := Pe.c
          have f2 := Pe.f 2
          go_upto_region 12 with fail
          generalize we.setCell ⟨gp, 2, none⟩ (.int .i64 (ln : Int)) = W5 at Rf Ff1 Ff2 Of Pf ⊢
          clear p0 p1 p2 f2 Pe
          obtain ⟨x0, x1, x2⟩ := Pf.c
          obtain ⟨v0, v1, v2⟩ := Ff1.c
          have fz2 := Ff1.f 2
          have hsz : w.heap.size ≤ W5.heap.size := Rf.2.size
          have hla : acc.length < 600 := by have := HA.out; omega
          have bl := below_one W5 (.cells #[.int .i64 (r : Int), .int .u64 (stp : Int), .int .i64 (ln : Int)] 75)
          have Rg := Rf.below bl
          have Fg1 := Ff1.below bl
          have Fg2 := Ff2.below bl
          have Og : Own _ w.heap.size A cp acc := Of.alloc (.cells #[.int .i64 (r : Int), .int .u64 (stp : Int), .int .i64 (ln : Int)] 75)
          have o1 := own_body Og Fg1
          have o2 := own_body Og Fg2
          have o3 := own_ne Og hp
          go_wp2_with (at_builtin; refine wpList_append_own _ rfl _ _ 46 rfl w.heap.size 75 i0 (.agg #[.int .i64 0, .int .u64 0, .int .i64 0]) 3 24 Try.underlying46 hi hz0 hz1 hz2 rfl (by decide) _ _ _ rfl Og ⟨W5.heap.size, 0, none⟩ 1 1 [.int .i64 (r : Int), .int .u64 (stp : Int), .int .i64 (ln : Int)] rfl rfl (World.news_of_block (MapKept.heap_alloc W5 _).1) ?c2 ?c3 ?c4 ?c5 ?_)
          case c2 => intro u hu; simp at hu; rcases hu with rfl | rfl | rfl <;> rfl
          case c3 => unfold maxLen; omega
          case c4 => omega
          case c5 => simp; omega
          intro v' wn hown' hgrow _
          have hown2 : wn.ownsRow w.heap.size 75 3 v' (acc ++ [(⟨(r : Int), stp, (ln : Int)⟩ : Piece)]).length (pcCells (acc ++ [(⟨(r : Int), stp, (ln : Int)⟩ : Piece)])) := by
            rw [pcCells_snoc, List.length_append]; exact hown'
          obtain ⟨A', c', rfl, _, _⟩ := pcs_of_own hown2
          have Rh := Rg.own hgrow (fun k hk => (Og.lt k hk).1) hp
          have Fh1 := Fg1.own hgrow o1
          have Fh2 := Fg2.own hgrow o2
          have hbody := own_body hown2 Fh1
          have hlen : (acc ++ [(⟨(r : Int), stp, (ln : Int)⟩ : Piece)]).length = acc.length + 1 := by simp
          obtain ⟨u0, u1, u2⟩ := Fh1.c
          have fu2 := Fh1.f 2
          have hg3b : w.heap.size ≤ g3 := by omega
          have Ri := Rh.set ⟨g3, 2, none⟩ hg3b hne3 (.slice A' (acc ++ [(⟨(r : Int), stp, (ln : Int)⟩ : Piece)]).length c')
          have Fi1 := Fh1.set2 A' (acc ++ [(⟨(r : Int), stp, (ln : Int)⟩ : Piece)]).length c'
          have Fi2 := Fh2.other ⟨g3, 2, none⟩ (by show g3 ≠ w.heap.size; omega) (.slice A' (acc ++ [(⟨(r : Int), stp, (ln : Int)⟩ : Piece)]).length c')
          have Oi : Own (wn.setCell ⟨g3, 2, none⟩ (.slice A' (acc ++ [(⟨(r : Int), stp, (ln : Int)⟩ : Piece)]).length c')) w.heap.size A' c' (acc ++ [(⟨(r : Int), stp, (ln : Int)⟩ : Piece)]) := hown2.kept (grown_one wn ⟨g3, 2, none⟩ _) (.inr hbody)
          have HA2 := Lib.hid (show (acc ++ [(⟨(r : Int), stp, (ln : Int)⟩ : Piece)]).length = k + 1 by rw [hlen, HA.out])
          obtain ⟨acc2, hacc2⟩ : ∃ a2, a2 = acc ++ [(⟨(r : Int), stp, (ln : Int)⟩ : Piece)] := ⟨_, rfl⟩
          rw [← hacc2] at Ri Fi1 Fi2 Oi HA2 hU2
          simp only [← hacc2]
          clear hown' hgrow hown2 Rh Fh1 Fh2 hbody hlen u1 u0 o1 o2 o3 Og Fg1 Fg2 Rg x0 x1 x2 v0 v1 v2 fz2 Of Ff1 Ff2 Rf Pf hacc2
          go_wp2_with fail
          go_roundw
          case rel => exact ⟨k + 1, acc2, sc, A', c', by omega, HA2.out, by go_num, hsc, hU2, Oi, Fi1, Fi2, Ri⟩
          case measure => simp [intOf]; omega
        · have HO : Hid (out = (⟨(L : Int), ⟨#[]⟩, acc⟩, sk)) := by
            show _ = _
            have h1 : pcsR (N - k) sk = ([], sk) := by
              by_cases hkN : k < N
              · obtain ⟨m, hm⟩ : ∃ m, N - k = m + 1 := ⟨N - k - 1, by omega⟩
                rw [hm, pcsR, if_pos (fun e => hgo ⟨hkN, e⟩)]
              · rw [show N - k = 0 by omega]; rfl
            rw [QO.out, hU.out, h1, List.append_nil]
          have GE := Lib.hid (err_calls p sk wr RK.1)
          obtain ⟨q0, q1, q2⟩ := F1.c
          obtain ⟨z0, z1, z2⟩ := F2.c
          have y0 := F2.f 0
          have y1 := F2.f 1
          have y2 := F2.f 2
          have hG := ((F2.set0 (L : Int)).set1 ⟨#[]⟩).set2 A acc.length cp
          have R5 := ((RK.set ⟨w.heap.size, 0, none⟩ hle hne (.int .i64 (L : Int))).set ⟨w.heap.size, 1, none⟩ hle hne (.string ⟨#[]⟩)).set ⟨w.heap.size, 2, none⟩ hle hne (.slice A acc.length cp)
          obtain ⟨A2, c2, hv2, hPa, hAb⟩ := pcs_of_own hown
          have hna := own_addr hown F2
          have hA2 : A2 = A := by injection hv2 with h1 _ _; exact h1.symm
          rw [hA2] at hPa hAb
          have hP5 := ((hPa.other ⟨w.heap.size, 0, none⟩ hna (.int .i64 (L : Int))).other ⟨w.heap.size, 1, none⟩ hna (.string ⟨#[]⟩)).other ⟨w.heap.size, 2, none⟩ hna (.slice A acc.length cp)
          clear hv2 hPa hA2 hown QO hU
          by_cases hkN : k < N
          · have hs0 : sk.2 ≠ 0 := fun e => hgo ⟨hkN, e⟩
            have hs0' : ((sk.2 : Int) == 0) = false := by rw [beq_eq_false_iff_ne]; omega
            have hkI : (k : Int) < (N : Int) := by omega
            clear hgo
            go_wp2_with fail
            refine GE.out.mono ?_
            rintro e wE ⟨rfl, hwE⟩
            subst hwE
            go_wp2_with fail
            refine bodyPost_ret (results_cell_row rfl _ _ w.heap.size 48 _ (0, 0) _ rfl hG Try.underlying48 rfl (by kernel_rfl)) rfl ?_
            rw [HO.out]
            exact ⟨A, cp, rfl, hP5, hAb, R5⟩
          · have hkI : ¬ (k : Int) < (N : Int) := by omega
            clear hgo GE
            go_wp2_with fail
            refine bodyPost_ret (results_cell_row rfl _ _ w.heap.size 48 _ (0, 0) _ rfl hG Try.underlying48 rfl (by kernel_rfl)) rfl ?_
            rw [HO.out]
            exact ⟨A, cp, rfl, hP5, hAb, R5⟩

end Go.Proofs.Ytaeiahkomdpcoaa.Cell
