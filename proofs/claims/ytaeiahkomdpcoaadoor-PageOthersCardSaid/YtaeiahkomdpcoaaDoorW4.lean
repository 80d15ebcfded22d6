/- Texts merged into one: part 4 of 12. -/
import Derived.Shelf.Strings.Cut
import Derived.Shelf.Strings.Split
import Derived.Shelf.Strings.Replace
import Derived.Shelf.Strings.SlTrimAscii
import Derived.Test.YtaeiahkomdpcoaaDoorProg
import Derived.OwnWalk
import Derived.Test.YtaeiahkomdpcoaaDoorW3
import Derived.Test.YtaeiahkomdpcoaaDoorW1

section
/- The walk of package cell's unbody. -/
namespace Go.Proofs.YtaeiahkomdpcoaaDoor.Cell
open Go.RowKit Go.Proofs.YtaeiahkomdpcoaaDoor.Num Go.Proofs.YtaeiahkomdpcoaaDoor.Wire

/-- What unbody's call leaves: the reader, and all else as it was. -/
def RG (w : World) (p : Nat) (st : St) (wx : World) : Prop := RdAt wx p st ∧ w.grownBy wx (some p)
theorem RG.step {w wx wy : World} {p : Nat} {st st' : St} (h : RG w p st wx) (h1 : RdAt wy p st') (h2 : wx.grownBy wy (some p)) : RG w p st' wy := ⟨h1, grown_trans h.2 h2⟩
theorem RG.below {w wx wy : World} {p : Nat} {st : St} (h : RG w p st wx) (hb : Below wx.heap.size wx wy) : RG w p st wy := ⟨h.1.below hb, grown_trans h.2 (grown_of_below hb _)⟩
theorem RG.set {w wx : World} {p : Nat} {st : St} (h : RG w p st wx) (a : Addr) (ha : w.heap.size ≤ a.block) (hne : a.block ≠ p) (v : Value) : RG w p st (wx.setCell a v) := ⟨h.1.setOther a hne v, grown_set h.2 a (.inr ha) v⟩
theorem BRow.other {w : World} {b : Nat} {l : Int} {i : ByteArray} {A : Option Addr} {n cp : Nat} (h : BRow w b l i A n cp) (a : Addr) (ha : a.block ≠ b) (v : Value) : BRow (w.setCell a v) b l i A n cp :=
  (Below.heap_setCell _ _ _ _ (fun e => ha e.symm)).trans h
theorem BRow.f {w : World} {b : Nat} {l : Int} {i : ByteArray} {A : Option Addr} {n cp : Nat} (h : BRow w b l i A n cp) (k : Nat) : w.frozen? ⟨b, k, none⟩ = false := Lib.frozen_of_heap h k
theorem BRow.set1 {w : World} {b : Nat} {l : Int} {i : ByteArray} {A : Option Addr} {n cp : Nat} (h : BRow w b l i A n cp) (x : ByteArray) : BRow (w.setCell ⟨b, 1, none⟩ (.string x)) b l x A n cp := by
  unfold BRow at h ⊢; simp [World.setCell, Array.getElem?_modify, h]
theorem BRow.set2 {w : World} {b : Nat} {l : Int} {i : ByteArray} {A : Option Addr} {n cp : Nat} (h : BRow w b l i A n cp) (A' : Option Addr) (n' cp' : Nat) : BRow (w.setCell ⟨b, 2, none⟩ (.slice A' n' cp')) b l i A' n' cp' := by
  unfold BRow at h ⊢; simp [World.setCell, Array.getElem?_modify, h]
theorem BRow.set0 {w : World} {b : Nat} {l : Int} {i : ByteArray} {A : Option Addr} {n cp : Nat} (h : BRow w b l i A n cp) (l' : Int) : BRow (w.setCell ⟨b, 0, none⟩ (.int .i64 l')) b l' i A n cp := by
  unfold BRow at h ⊢; simp [World.setCell, Array.getElem?_modify, h]
theorem brow_new (w : World) (l : Int) (i : ByteArray) (A : Option Addr) (n cp : Nat) : BRow (w.alloc (.cells #[.int .i64 l, .string i, .slice A n cp] 97)) w.heap.size l i A n cp := (MapKept.heap_alloc w _).1

theorem PcsAt.other {w : World} {A : Option Addr} {ps : List Piece} (h : PcsAt w A ps) (a : Addr) (hne : ∀ ad, A = some ad → ad.block ≠ a.block) (v : Value) : PcsAt (w.setCell a v) A ps := fun i s hs => by
  obtain ⟨ad, h0, h1, h2, h3, h4⟩ := h i s hs
  have hk : ∀ n, (w.setCell a v).cell? (ad.add n) = w.cell? (ad.add n) := fun n => World.cell?_of_block (by rw [block_of_add]; exact Below.heap_setCell _ _ _ _ (hne ad h0))
  exact ⟨ad, h0, by simpa [World.setCell] using h1, (hk _).trans h2, (hk _).trans h3, (hk _).trans h4⟩
/-- A piece in a block. -/
def PRow (w : World) (b : Nat) (r s l : Nat) : Prop := w.heap[b]? = some (.cells #[.int .i64 (r : Int), .int .u64 (s : Int), .int .i64 (l : Int)] 144 (0, 0))
theorem prow_new (w : World) (r s l : Nat) : PRow (w.alloc (.cells #[.int .i64 (r : Int), .int .u64 (s : Int), .int .i64 (l : Int)] 144)) w.heap.size r s l := (MapKept.heap_alloc w _).1
section
variable {w w' : World} {b r s l : Nat}
theorem PRow.lt (h : PRow w b r s l) : b < w.heap.size := (Array.getElem?_eq_some_iff.1 h).1
theorem PRow.grown {p : Nat} (h : PRow w b r s l) (hne : b ≠ p) (hg : w.grownBy w' (some p)) : PRow w' b r s l := (hg.block _ h.lt (by simpa using hne)).trans h
theorem PRow.c (h : PRow w b r s l) : w.cell? ⟨b, 0, none⟩ = some (.int .i64 (r : Int)) ∧ w.cell? ⟨b, 1, none⟩ = some (.int .u64 (s : Int)) ∧ w.cell? ⟨b, 2, none⟩ = some (.int .i64 (l : Int)) := by
  refine ⟨?_, ?_, ?_⟩ <;> (rw [Joins.cell_of_block h]; rfl)
theorem PRow.f (h : PRow w b r s l) (k : Nat) : w.frozen? ⟨b, k, none⟩ = false := Lib.frozen_of_heap h k
theorem PRow.set1 (h : PRow w b r s l) (x : Nat) : PRow (w.setCell ⟨b, 1, none⟩ (.int .u64 (x : Int))) b r x l := by
  unfold PRow at h ⊢; simp [World.setCell, Array.getElem?_modify, h]
theorem PRow.set2 (h : PRow w b r s l) (x : Nat) : PRow (w.setCell ⟨b, 2, none⟩ (.int .i64 (x : Int))) b r s x := by
  unfold PRow at h ⊢; simp [World.setCell, Array.getElem?_modify, h]
end
abbrev Own (w : World) (B : Nat) (A : Option Addr) (cp : Nat) (ps : List Piece) : Prop := w.ownsRow B 144 3 (.slice A ps.length cp) ps.length (pcCells ps)
theorem own_ne {w : World} {B : Nat} {A : Option Addr} {cp : Nat} {ps : List Piece} (h : Own w B A cp ps) {p : Nat} (hp : p < B) : (Value.slice A ps.length cp).ownBlock = none ∨ (Value.slice A ps.length cp).ownBlock ≠ some p := by
  cases hb : (Value.slice A ps.length cp).ownBlock with
  | none => exact .inl rfl
  | some k => exact .inr (fun e => by have := (h.lt k hb).1; cases e; omega)
theorem own_big {w : World} {B : Nat} {A : Option Addr} {cp : Nat} {ps : List Piece} (h : Own w B A cp ps) {g : Nat} (hg : w.heap.size ≤ g) : (Value.slice A ps.length cp).ownBlock = none ∨ (Value.slice A ps.length cp).ownBlock ≠ some g := by
  cases hb : (Value.slice A ps.length cp).ownBlock with
  | none => exact .inl rfl
  | some k => exact .inr (fun e => by have := (h.lt k hb).2; cases e; omega)
theorem own_body {w : World} {B : Nat} {A : Option Addr} {cp : Nat} {ps : List Piece} (h : Own w B A cp ps) {b : Nat} {l : Int} {i : ByteArray} {A' : Option Addr} {n c : Nat} (hb : BRow w b l i A' n c) : (Value.slice A ps.length cp).ownBlock ≠ some b := fun e => by
  rcases h.2 with ⟨hv, _⟩ | ⟨g, cap, cur, hv, _, hh, _⟩
  · rw [hv] at e; cases e
  · rw [hv] at e
    have : g = b := by simpa [Value.ownBlock] using e
    subst this
    unfold BRow at hb
    rw [hb] at hh
    have h2 := Option.some.inj hh
    injection h2 with _ h3 _
    exact absurd h3 (by decide)
theorem own_addr {w : World} {B : Nat} {A : Option Addr} {cp : Nat} {ps : List Piece} (h : Own w B A cp ps) {b : Nat} {l : Int} {i : ByteArray} {A' : Option Addr} {n c : Nat} (hb : BRow w b l i A' n c) : ∀ ad, A = some ad → ad.block ≠ b := fun ad h1 h2 => by
  subst h1
  exact own_body h hb (by simp [Value.ownBlock, h2])
theorem grown_one (w : World) (a : Addr) (v : Value) : w.grownBy (w.setCell a v) (some a.block) := grown_set (p := a.block) ⟨rfl, rfl, rfl, Nat.le_refl _, fun _ _ _ => rfl⟩ a (.inl rfl) v

theorem RG.own {w W wn : World} {p : Nat} {st : St} {o : Option Nat} (h : RG w p st W) (hg : W.grownBy wn o) (ho : ∀ k, o = some k → w.heap.size ≤ k) (hp : p < w.heap.size) : RG w p st wn := by
  refine ⟨(hg.block p h.1.lt (fun e => ?_)).trans h.1, hg.os.trans h.2.os, hg.tape.trans h.2.tape, hg.output.trans h.2.output, Nat.le_trans h.2.size hg.size, fun k hk hne => (hg.block k (Nat.lt_of_lt_of_le hk h.2.size) (fun e => ?_)).trans (h.2.block k hk hne)⟩
  · have := ho p (by first | exact e | exact e.symm); omega
  · have := ho k (by first | exact e | exact e.symm); omega
theorem BRow.own {W wn : World} {b : Nat} {l : Int} {i : ByteArray} {A : Option Addr} {n cp : Nat} {o : Option Nat} (h : BRow W b l i A n cp) (hg : W.grownBy wn o) (ho : o ≠ some b) : BRow wn b l i A n cp :=
  (hg.block b h.lt (fun e => ho (by first | exact e | exact e.symm))).trans h

/-- What unbody hands back. -/
def UnbOf (w : World) (p : Nat) (b : Body) (st : St) (e : Ending) (w' : World) : Prop := ∃ A cp, e = .returned (.agg #[.int .i64 b.len, .string b.inl, .slice A b.pcs.length cp]) ∧ PcsAt w' A b.pcs ∧ (∀ ad, A = some ad → w.heap.size ≤ ad.block) ∧ RG w p st w'

set_option maxHeartbeats 3200000 in
set_option maxRecDepth 100000 in
theorem unbody_calls (p : Nat) (st : St) (w : World) (hR : RdAt w p st) (hl : st.1.length ≤ 100000) :
    Calls Tryd.prog 96 #[.pointer (some ⟨p, 0, none⟩)] w fun e w' => UnbOf w p (unbR st).1 (unbR st).2 e w' := by
  obtain ⟨i0, hi, hz0, hz1, hz2⟩ := info_parts infoPiece
  have hp := hR.lt
  obtain ⟨out, qo⟩ : ∃ x, x = unbR st := ⟨_, rfl⟩
  rw [← qo]
  unfold unbR at qo
  have l1 := numR_len 32768 st
  have N1 := fun (W : World) (h : RdAt W p st) => num_calls p 32768 st W h (by omega)
  obtain ⟨a1, qa1⟩ : ∃ x, x = numR 32768 st := ⟨_, rfl⟩
  rw [← qa1] at qo N1 l1
  clear qa1
  obtain ⟨L, s1⟩ := a1
  simp only at qo N1 l1
  have l2 := boolR_len s1
  have N2 := fun (W : World) (h : RdAt W p s1) => boolR_calls p s1 W h (by omega)
  obtain ⟨a2, qa2⟩ : ∃ x, x = boolR s1 := ⟨_, rfl⟩
  rw [← qa2] at qo N2 l2
  clear qa2
  obtain ⟨bb, s2⟩ := a2
  simp only at qo N2 l2
  have hLw : IntKind.i64.wrap (L : Int) = (L : Int) := IntWalk.i64_in _ (by omega)
  have G1 := Lib.hid N1
  have G2 := Lib.hid N2
  have b0 := below_one w (.cells #[.int .i64 0, .string ⟨#[]⟩, .slice none 0 0] 97)
  have RG0 : RG w p st (w.alloc (.cells #[.int .i64 0, .string ⟨#[]⟩, .slice none 0 0] 97)) := ⟨hR.below b0, grown_of_below b0 _⟩
  have B0 := brow_new w 0 ⟨#[]⟩ none 0 0
  clear N1 N2 hR b0
  go_enter Tryd.func96, Tryd.ntmps96
  go_upto_region 1 with fail
  go_cut [3] from 7 (fun s3 wx => ∃ g3 : Nat, s3 = .pointer (some ⟨g3, 0, none⟩) ∧ w.heap.size < g3 ∧ BRow wx g3 (L : Int) ⟨#[]⟩ none 0 0 ∧ BRow wx w.heap.size 0 ⟨#[]⟩ none 0 0 ∧ RG w p s1 wx)
  case first =>
    clear G2
    have hne : w.heap.size ≠ p := by omega
    go_wp2_with fail
    refine (G1.out _ RG0.1).mono ?_
    rintro e w2 ⟨rfl, hr2, hg2⟩
    have RG2 := RG0.step hr2 hg2
    have B2 := B0.grown hne hg2
    have lt2 := B2.lt
    have b3 := below_one w2 (.cells #[.int .i64 (L : Int), .string ⟨#[]⟩, .slice none 0 0] 97)
    have B3 := B2.below b3
    have RG3 := RG2.below b3
    have B4 := brow_new w2 (L : Int) ⟨#[]⟩ none 0 0
    go_wp2_with fail
    go_meet
    case rel => exact ⟨w2.heap.size, rfl, lt2, B4, B3, RG3⟩
  case rest =>
    obtain ⟨g3, rfl, hg3, B1, B2, R1⟩ := hcut
    clear G1 B0 RG0
    have hne : w.heap.size ≠ p := by omega
    have hne3 : g3 ≠ p := by omega
    go_wp2_with fail
    refine (G2.out _ R1.1).mono ?_
    rintro e w2 ⟨rfl, hr2, hg2⟩
    have R2 := R1.step hr2 hg2
    have C1 := B1.grown hne3 hg2
    have C2 := B2.grown hne hg2
    clear R1 B1 B2 hr2 hg2 G2
    cases bb
    · rw [if_pos rfl] at qo
      have l3 := textR_len 64 s2
      have N3 := Lib.hid (fun (W : World) (h : RdAt W p s2) => text_calls p 64 s2 W h (by omega) (by omega))
      obtain ⟨a3, qa3⟩ : ∃ x, x = textR 64 s2 := ⟨_, rfl⟩
      rw [← qa3] at qo N3 l3
      clear qa3
      obtain ⟨t3, s3⟩ := a3
      simp only at qo N3 l3
      subst qo
      go_wp2_with fail
      refine (N3.out _ R2.1).mono ?_
      rintro e w3 ⟨rfl, hr3, hg4⟩
      have R3 := R2.step hr3 hg4
      have D1 := C1.grown hne3 hg4
      have D2 := C2.grown hne hg4
      clear R2 C1 C2 hr3 hg4 N3
      obtain ⟨p0, p1, p2⟩ := D1.c
      have f1 := D1.f 1
      have E1 := D1.set1 (bs t3)
      have E2 := D2.other ⟨g3, 1, none⟩ (by show g3 ≠ w.heap.size; omega) (.string (bs t3))
      have R4 := R3.set ⟨g3, 1, none⟩ (by show w.heap.size ≤ g3; omega) hne3 (.string (bs t3))
      obtain ⟨q0, q1, q2⟩ := E1.c
      obtain ⟨z0, z1, z2⟩ := E2.c
      have y0 := E2.f 0
      have y1 := E2.f 1
      have y2 := E2.f 2
      have hG := ((E2.set0 (L : Int)).set1 (bs t3)).set2 none 0 0
      have hle : w.heap.size ≤ w.heap.size := Nat.le_refl _
      have R5 := ((R4.set ⟨w.heap.size, 0, none⟩ hle hne (.int .i64 (L : Int))).set ⟨w.heap.size, 1, none⟩ hle hne (.string (bs t3))).set ⟨w.heap.size, 2, none⟩ hle hne (.slice none 0 0)
      go_wp2_with fail
      refine bodyPost_ret (results_cell_row rfl _ _ w.heap.size 97 _ (0, 0) _ rfl hG Tryd.underlying97 rfl (by kernel_rfl)) rfl ?_
      exact ⟨none, 0, rfl, PcsAt.nil _ _, (fun ad h => by cases h), R5⟩
    · rw [if_neg (by decide)] at qo
      have l3 := numR_len 512 s2
      have N3 := Lib.hid (fun (W : World) (h : RdAt W p s2) => num_calls p 512 s2 W h (by omega))
      obtain ⟨a3, qa3⟩ : ∃ x, x = numR 512 s2 := ⟨_, rfl⟩
      rw [← qa3] at qo N3 l3
      clear qa3
      obtain ⟨N, s3⟩ := a3
      simp only at qo N3 l3
      have QO := Lib.hid qo
      have hs3 : s3.1.length ≤ 100000 := by omega
      have hN : N ≤ 512 := l3.2
      clear l1 l2 l3 qo hl hLw
      go_wp2_with fail
      refine (N3.out _ R2.1).mono ?_
      rintro e w3 ⟨rfl, hr3, hg4⟩
      have R3 := R2.step hr3 hg4
      have D1 := C1.grown hne3 hg4
      have D2 := C2.grown hne hg4
      clear R2 C1 C2 hr3 hg4 N3
      go_wp2_with fail
      go_loopw [5] (fun iv wr => ∃ (k : Nat) (acc : List Piece) (sk : St) (A : Option Addr) (cp : Nat), k ≤ N ∧ acc.length = k ∧ iv = .int .u64 (k : Int) ∧ sk.1.length ≤ 100000 ∧ Hid (pcsR N s3 = (acc ++ (pcsR (N - k) sk).1, (pcsR (N - k) sk).2)) ∧ Own wr w.heap.size A cp acc ∧ BRow wr g3 (L : Int) ⟨#[]⟩ A acc.length cp ∧ BRow wr w.heap.size 0 ⟨#[]⟩ none 0 0 ∧ RG w p sk wr) (fun iv _ => N - (intOf iv).toNat)
      case atStart => exact ⟨0, [], s3, none, 0, by omega, rfl, rfl, hs3, Lib.hid (by simp), World.ownsRow_nil _ _ _ _, D1, D2, R3⟩
      case round =>
        obtain ⟨k, acc, sk, A, cp, hk, hacc, rfl, hsk, hU, hown, F1, F2, RK⟩ := hrel
        have HA := Lib.hid hacc
        clear hacc
        have hle : w.heap.size ≤ w.heap.size := Nat.le_refl _
        by_cases hgo : k < N ∧ sk.2 = 0
        · obtain ⟨hkN, hs0⟩ := hgo
          obtain ⟨m, hm⟩ : ∃ m, N - k = m + 1 := ⟨N - k - 1, by omega⟩
          have hst := hU.out
          rw [hm, pcsR, if_neg (by omega)] at hst
          have l1 := numR_len 4096 sk
          have N1 := fun (W : World) (h : RdAt W p sk) => num_calls p 4096 sk W h (by omega)
          obtain ⟨a1, qa1⟩ : ∃ x, x = numR 4096 sk := ⟨_, rfl⟩
          rw [← qa1] at hst N1 l1
          clear qa1
          obtain ⟨r, sa⟩ := a1
          simp only at hst N1 l1
          have l2 := numR_len big sa
          have N2 := fun (W : World) (h : RdAt W p sa) => num_calls p big sa W h (by omega)
          obtain ⟨a2, qa2⟩ : ∃ x, x = numR big sa := ⟨_, rfl⟩
          rw [← qa2] at hst N2 l2
          clear qa2
          obtain ⟨stp, sb⟩ := a2
          simp only at hst N2 l2
          have l3 := numR_len 32768 sb
          have N3 := fun (W : World) (h : RdAt W p sb) => num_calls p 32768 sb W h (by omega)
          obtain ⟨a3, qa3⟩ : ∃ x, x = numR 32768 sb := ⟨_, rfl⟩
          rw [← qa3] at hst N3 l3
          clear qa3
          obtain ⟨ln, sc⟩ := a3
          simp only at hst N3 l3
          have hsc : sc.1.length ≤ 100000 := by omega
          have hU2 := Lib.hid (show pcsR N s3 = ((acc ++ [⟨(r : Int), stp, (ln : Int)⟩]) ++ (pcsR (N - (k + 1)) sc).1, (pcsR (N - (k + 1)) sc).2) by
            rw [hst, show N - (k + 1) = m by omega]; simp)
          have G1 := Lib.hid N1
          have G2 := Lib.hid N2
          have G3 := Lib.hid N3
          have GE := Lib.hid (fun W (h : RdAt W p sk) => err_calls p sk W h)
          have hw1 : IntKind.i64.wrap (r : Int) = (r : Int) := IntWalk.i64_in _ (by omega)
          have hw3 : IntKind.i64.wrap (ln : Int) = (ln : Int) := IntWalk.i64_in _ (by omega)
          have hwk : IntKind.u64.wrap ((k : Int) + 1) = (k : Int) + 1 := IntWalk.u64_in _ (by omega)
          have hkI : (k : Int) < (N : Int) := by omega
          have hlt3 := F1.lt
          have hlt0 := F2.lt
          rw [hs0] at GE
          clear hst N1 N2 N3 l1 l2 l3 hU hm hs0
          go_wp2_with fail
          refine (GE.out _ RK.1).mono ?_
          rintro e wE ⟨rfl, hwE⟩
          subst hwE
          go_wp2_with fail
          refine (G1.out _ RK.1).mono ?_
          rintro e wa ⟨rfl, hra, hga⟩
          have Ra := RK.step hra hga
          have Fa1 := F1.grown hne3 hga
          have Fa2 := F2.grown hne hga
          have Oa := hown.kept hga (own_ne hown hp)
          have hlta := Fa1.lt
          have hlta0 := Fa2.lt
          have ba := below_one wa (.cells #[.int .i64 (r : Int), .int .u64 0, .int .i64 0] 144)
          have Rb := Ra.below ba
          have Fb1 := Fa1.below ba
          have Fb2 := Fa2.below ba
          have Ob : Own _ w.heap.size A cp acc := Oa.alloc (.cells #[.int .i64 (r : Int), .int .u64 0, .int .i64 0] 144)
          have Pb : PRow (wa.alloc (.cells #[.int .i64 (r : Int), .int .u64 0, .int .i64 0] 144)) wa.heap.size r 0 0 := prow_new wa r 0 0
          have hob := own_big Oa (Nat.le_refl wa.heap.size)
          have hgpp : wa.heap.size ≠ p := by omega
          have hgp3 : wa.heap.size ≠ g3 := by omega
          have hgp0 : wa.heap.size ≠ w.heap.size := by omega
          have hgpg : w.heap.size ≤ wa.heap.size := by omega
          obtain ⟨gp, hgp⟩ : ∃ gp, gp = wa.heap.size := ⟨_, rfl⟩
          clear RK F1 F2 hown hra hga Ra Fa1 Fa2 Oa ba G1 GE
          go_wp2_with fail
          refine (G2.out _ Rb.1).mono ?_
          rintro e wc2 ⟨rfl, hrc, hgc⟩
          rw [← hgp] at Pb hob hgpp hgp3 hgp0 hgpg ⊢
          have Rc := Rb.step hrc hgc
          have Fc1 := Fb1.grown hne3 hgc
          have Fc2 := Fb2.grown hne hgc
          have Oc : Own wc2 w.heap.size A cp acc := Ob.kept hgc (own_ne Ob hp)
          have Pc := Pb.grown hgpp hgc
          have Rd := Rc.set ⟨gp, 1, none⟩ hgpg hgpp (.int .u64 (stp : Int))
          have Fd1 := Fc1.other ⟨gp, 1, none⟩ hgp3 (.int .u64 (stp : Int))
          have Fd2 := Fc2.other ⟨gp, 1, none⟩ hgp0 (.int .u64 (stp : Int))
          have Od : Own (wc2.setCell ⟨gp, 1, none⟩ (.int .u64 (stp : Int))) w.heap.size A cp acc := Oc.kept (grown_one wc2 ⟨gp, 1, none⟩ (.int .u64 (stp : Int))) hob
          have Pd := Pc.set1 stp
          obtain ⟨p0, p1, p2⟩ := Pc.c
          have f1 := Pc.f 1
          clear Rb Fb1 Fb2 Ob Pb hrc hgc Rc Fc1 Fc2 Oc G2 hgp hlta hlta0 hlt3 hlt0
          go_wp2_with fail
          refine (G3.out _ Rd.1).mono ?_
          rintro e we ⟨rfl, hre, hge⟩
          have Re := Rd.step hre hge
          have Fe1 := Fd1.grown hne3 hge
          have Fe2 := Fd2.grown hne hge
          have Oe : Own we w.heap.size A cp acc := Od.kept hge (own_ne Od hp)
          have Pe := Pd.grown hgpp hge
          have Rf := Re.set ⟨gp, 2, none⟩ hgpg hgpp (.int .i64 (ln : Int))
          have Ff1 := Fe1.other ⟨gp, 2, none⟩ hgp3 (.int .i64 (ln : Int))
          have Ff2 := Fe2.other ⟨gp, 2, none⟩ hgp0 (.int .i64 (ln : Int))
          have Of : Own (we.setCell ⟨gp, 2, none⟩ (.int .i64 (ln : Int))) w.heap.size A cp acc := Oe.kept (grown_one we ⟨gp, 2, none⟩ (.int .i64 (ln : Int))) hob
          have Pf := Pe.set2 ln
          clear p0 p1 p2 f1 Rd Fd1 Fd2 Od Pd Pc hre hge Re Fe1 Fe2 Oe G3
          obtain ⟨p0, p1, p2⟩ := Pe.c
          have f2 := Pe.f 2
          go_upto_region 12 with fail
          generalize we.setCell ⟨gp, 2, none⟩ (.int .i64 (ln : Int)) = W5 at Rf Ff1 Ff2 Of Pf ⊢
          clear p0 p1 p2 f2 Pe
          obtain ⟨x0, x1, x2⟩ := Pf.c
          obtain ⟨v0, v1, v2⟩ := Ff1.c
          have fz2 := Ff1.f 2
          have hsz : w.heap.size ≤ W5.heap.size := Rf.2.size
          have hla : acc.length < 600 := by have := HA.out; omega
          have bl := below_one W5 (.cells #[.int .i64 (r : Int), .int .u64 (stp : Int), .int .i64 (ln : Int)] 144)
          have Rg := Rf.below bl
          have Fg1 := Ff1.below bl
          have Fg2 := Ff2.below bl
          have Og : Own _ w.heap.size A cp acc := Of.alloc (.cells #[.int .i64 (r : Int), .int .u64 (stp : Int), .int .i64 (ln : Int)] 144)
          have o1 := own_body Og Fg1
          have o2 := own_body Og Fg2
          have o3 := own_ne Og hp
          go_wp2_with (at_builtin; refine wpList_append_own _ rfl _ _ 95 rfl w.heap.size 144 i0 (.agg #[.int .i64 0, .int .u64 0, .int .i64 0]) 3 24 Tryd.underlying95 hi hz0 hz1 hz2 rfl (by decide) _ _ _ rfl Og ⟨W5.heap.size, 0, none⟩ 1 1 [.int .i64 (r : Int), .int .u64 (stp : Int), .int .i64 (ln : Int)] rfl rfl (World.news_of_block (MapKept.heap_alloc W5 _).1) ?c2 ?c3 ?c4 ?c5 ?_)
          case c2 => intro u hu; simp at hu; rcases hu with rfl | rfl | rfl <;> rfl
          case c3 => unfold maxLen; omega
          case c4 => omega
          case c5 => simp; omega
          intro v' wn hown' hgrow _
          have hown2 : wn.ownsRow w.heap.size 144 3 v' (acc ++ [(⟨(r : Int), stp, (ln : Int)⟩ : Piece)]).length (pcCells (acc ++ [(⟨(r : Int), stp, (ln : Int)⟩ : Piece)])) := by
            rw [pcCells_snoc, List.length_append]; exact hown'
          obtain ⟨A', c', rfl, _, _⟩ := pcs_of_own hown2
          have Rh := Rg.own hgrow (fun k hk => (Og.lt k hk).1) hp
          have Fh1 := Fg1.own hgrow o1
          have Fh2 := Fg2.own hgrow o2
          have hbody := own_body hown2 Fh1
          have hlen : (acc ++ [(⟨(r : Int), stp, (ln : Int)⟩ : Piece)]).length = acc.length + 1 := by simp
          obtain ⟨u0, u1, u2⟩ := Fh1.c
          have fu2 := Fh1.f 2
          have hg3b : w.heap.size ≤ g3 := by omega
          have Ri := Rh.set ⟨g3, 2, none⟩ hg3b hne3 (.slice A' (acc ++ [(⟨(r : Int), stp, (ln : Int)⟩ : Piece)]).length c')
          have Fi1 := Fh1.set2 A' (acc ++ [(⟨(r : Int), stp, (ln : Int)⟩ : Piece)]).length c'
          have Fi2 := Fh2.other ⟨g3, 2, none⟩ (by show g3 ≠ w.heap.size; omega) (.slice A' (acc ++ [(⟨(r : Int), stp, (ln : Int)⟩ : Piece)]).length c')
          have Oi : Own (wn.setCell ⟨g3, 2, none⟩ (.slice A' (acc ++ [(⟨(r : Int), stp, (ln : Int)⟩ : Piece)]).length c')) w.heap.size A' c' (acc ++ [(⟨(r : Int), stp, (ln : Int)⟩ : Piece)]) := hown2.kept (grown_one wn ⟨g3, 2, none⟩ _) (.inr hbody)
          have HA2 := Lib.hid (show (acc ++ [(⟨(r : Int), stp, (ln : Int)⟩ : Piece)]).length = k + 1 by rw [hlen, HA.out])
          obtain ⟨acc2, hacc2⟩ : ∃ a2, a2 = acc ++ [(⟨(r : Int), stp, (ln : Int)⟩ : Piece)] := ⟨_, rfl⟩
          rw [← hacc2] at Ri Fi1 Fi2 Oi HA2 hU2
          simp only [← hacc2]
          clear hown' hgrow hown2 Rh Fh1 Fh2 hbody hlen u1 u0 o1 o2 o3 Og Fg1 Fg2 Rg x0 x1 x2 v0 v1 v2 fz2 Of Ff1 Ff2 Rf Pf hacc2
          go_wp2_with fail
          go_roundw
          case rel => exact ⟨k + 1, acc2, sc, A', c', by omega, HA2.out, by go_num, hsc, hU2, Oi, Fi1, Fi2, Ri⟩
          case measure => simp [intOf]; omega
        · have HO : Hid (out = (⟨(L : Int), ⟨#[]⟩, acc⟩, sk)) := by
            show _ = _
            have h1 : pcsR (N - k) sk = ([], sk) := by
              by_cases hkN : k < N
              · obtain ⟨m, hm⟩ : ∃ m, N - k = m + 1 := ⟨N - k - 1, by omega⟩
                rw [hm, pcsR, if_pos (fun e => hgo ⟨hkN, e⟩)]
              · rw [show N - k = 0 by omega]; rfl
            rw [QO.out, hU.out, h1, List.append_nil]
          have GE := Lib.hid (err_calls p sk wr RK.1)
          obtain ⟨q0, q1, q2⟩ := F1.c
          obtain ⟨z0, z1, z2⟩ := F2.c
          have y0 := F2.f 0
          have y1 := F2.f 1
          have y2 := F2.f 2
          have hG := ((F2.set0 (L : Int)).set1 ⟨#[]⟩).set2 A acc.length cp
          have R5 := ((RK.set ⟨w.heap.size, 0, none⟩ hle hne (.int .i64 (L : Int))).set ⟨w.heap.size, 1, none⟩ hle hne (.string ⟨#[]⟩)).set ⟨w.heap.size, 2, none⟩ hle hne (.slice A acc.length cp)
          obtain ⟨A2, c2, hv2, hPa, hAb⟩ := pcs_of_own hown
          have hna := own_addr hown F2
          have hA2 : A2 = A := by injection hv2 with h1 _ _; exact h1.symm
          rw [hA2] at hPa hAb
          have hP5 := ((hPa.other ⟨w.heap.size, 0, none⟩ hna (.int .i64 (L : Int))).other ⟨w.heap.size, 1, none⟩ hna (.string ⟨#[]⟩)).other ⟨w.heap.size, 2, none⟩ hna (.slice A acc.length cp)
          clear hv2 hPa hA2 hown QO hU
          by_cases hkN : k < N
          · have hs0 : sk.2 ≠ 0 := fun e => hgo ⟨hkN, e⟩
            have hs0' : ((sk.2 : Int) == 0) = false := by rw [beq_eq_false_iff_ne]; omega
            have hkI : (k : Int) < (N : Int) := by omega
            clear hgo
            go_wp2_with fail
            refine GE.out.mono ?_
            rintro e wE ⟨rfl, hwE⟩
            subst hwE
            go_wp2_with fail
            refine bodyPost_ret (results_cell_row rfl _ _ w.heap.size 97 _ (0, 0) _ rfl hG Tryd.underlying97 rfl (by kernel_rfl)) rfl ?_
            rw [HO.out]
            exact ⟨A, cp, rfl, hP5, hAb, R5⟩
          · have hkI : ¬ (k : Int) < (N : Int) := by omega
            clear hgo GE
            go_wp2_with fail
            refine bodyPost_ret (results_cell_row rfl _ _ w.heap.size 97 _ (0, 0) _ rfl hG Tryd.underlying97 rfl (by kernel_rfl)) rfl ?_
            rw [HO.out]
            exact ⟨A, cp, rfl, hP5, hAb, R5⟩

end Go.Proofs.YtaeiahkomdpcoaaDoor.Cell
end

section
/- The walk of package cell's Decode. -/
namespace Go.Proofs.YtaeiahkomdpcoaaDoor.Cell
open Go.RowKit Go.Proofs.YtaeiahkomdpcoaaDoor.Num Go.Proofs.YtaeiahkomdpcoaaDoor.Wire

theorem new_calls (s : ByteArray) (w : World) : Calls Tryd.prog 93 #[.string s] w fun e w' => e = .returned (.pointer (some ⟨w.heap.size, 0, none⟩)) ∧ w' = w.alloc (.cells #[.string s, .int .i64 0, .bool true] 151) := by
  go_enter Tryd.func93, Tryd.ntmps93
  go_wp2
  go_ret
  exact ⟨rfl, rfl⟩
theorem rd_new (s : ByteArray) (w : World) : RdAt (w.alloc (.cells #[.string s, .int .i64 0, .bool true] 151)) w.heap.size (s.data.toList, 0) := (MapKept.heap_alloc w _).1
theorem Row.grown {w w' : World} {b p : Nat} {cs : Array Value} (h : Row w b cs) (hne : b ≠ p) (hg : w.grownBy w' (some p)) : Row w' b cs := (hg.block _ h.lt (by simpa using hne)).trans h
theorem below_grown {w W1 wx : World} {p : Nat} (h : Below w.heap.size w W1) (hp : w.heap.size ≤ p) (hg : W1.grownBy wx (some p)) : Below w.heap.size w wx :=
  ⟨hg.os.trans h.os, hg.tape.trans h.tape, hg.output.trans h.output, Nat.le_trans h.size hg.size, fun k hk => (hg.block k (Nat.lt_of_lt_of_le hk h.size) (by simp; omega)).trans (h.block k hk)⟩

/-- The reader's words of a cell, once the kind is read. -/
def decOk (s : Bs) : Prop := (endR (cellR s).2).2 = 0 ∧ mayC (cellR s).1 ∧ cellW (cellR s).1 = s
def DecOf (s : Bs) (w : World) (e : Ending) (w' : World) : Prop := ∃ (c : Cel) (A : Option Addr) (cp : Nat) (E : Int), e = .returned (.tuple #[.agg (cvs c A cp), .int .i64 E]) ∧ PcsAt w' A c.body.pcs ∧ ((decOk s ∧ c = (cellR s).1 ∧ E = 0) ∨ (¬ decOk s ∧ c = Cel.zero ∧ E = 8)) ∧ Below w.heap.size w w'

theorem unbR_len (st : St) : (unbR st).2.1.length ≤ st.1.length := by
  have hp : ∀ (n : Nat) (st : St), (pcsR n st).2.1.length ≤ st.1.length := fun n => by
    induction n with
    | zero => intro st; exact Nat.le_refl _
    | succ n ih =>
      intro st
      unfold pcsR
      split
      · exact Nat.le_refl _
      · have h1 := (numR_len 4096 st).1
        have h2 := (numR_len big (numR 4096 st).2).1
        have h3 := (numR_len 32768 (numR big (numR 4096 st).2).2).1
        have h4 := ih (numR 32768 (numR big (numR 4096 st).2).2).2
        simp only
        omega
  have h1 := (numR_len 32768 st).1
  have h2 := boolR_len (numR 32768 st).2
  unfold unbR
  split
  · have h3 := (textR_len 64 (boolR (numR 32768 st).2).2).1
    simp only; omega
  · have h3 := (numR_len 512 (boolR (numR 32768 st).2).2).1
    have h4 := hp (numR 512 (boolR (numR 32768 st).2).2).1 (numR 512 (boolR (numR 32768 st).2).2).2
    simp only; omega

theorem pcsR_count : ∀ (n : Nat) (st : St), (pcsR n st).1.length ≤ n
  | 0, _ => Nat.le_refl _
  | n + 1, st => by
    unfold pcsR
    split
    · exact Nat.zero_le _
    · simp only [List.length_cons]
      have := pcsR_count n (numR 32768 (numR big (numR 4096 st).2).2).2
      omega
theorem unbR_count (st : St) : (unbR st).1.pcs.length ≤ 512 := by
  unfold unbR
  split
  · exact Nat.zero_le _
  · have h1 := pcsR_count (numR 512 (boolR (numR 32768 st).2).2).1 (numR 512 (boolR (numR 32768 st).2).2).2
    have h2 := (numR_len 512 (boolR (numR 32768 st).2).2).2
    simp only; omega
theorem cellR2_count (k : Nat) (st : St) : (cellR2 k st).1.body.pcs.length ≤ 512 ∧ (cellR2 k st).1.kind = k := by
  unfold cellR2
  split
  · exact ⟨Nat.zero_le _, rfl⟩
  · split
    · exact ⟨unbR_count _, rfl⟩
    · split
      · split
        · exact ⟨Nat.zero_le _, rfl⟩
        · exact ⟨unbR_count _, rfl⟩
      · exact ⟨Nat.zero_le _, rfl⟩
theorem results_cell2 {P : Program} {fn : Func} {p u : Tmp} {ty : TypeId} (h : fn.results = #[.cell p ty, .tmp u]) (tmps : Array Value) (w : World) (g : Nat) (t : TypeId) (cs : Array Value) (fr : Nat × Nat) (d : TypeDesc)
    (hp : tmps.getD p undef = .pointer (some ⟨g, 0, none⟩)) (hg : w.heap[g]? = some (.cells cs t fr))
    (hu : P.underlying ty = some d) (hd : (match d with | .struct _ | .array _ _ => true | _ => false) = true) (hi : (P.info? ty).map (·.size) = some cs.size) :
    (results fn tmps).run P w = .ok (.tuple #[.agg cs, tmps.getD u undef]) w := by
  rw [results_cell_tmp h, hp]
  have e : (asAddr (.pointer (some ⟨g, 0, none⟩))).run P w = .ok ⟨g, 0, none⟩ w := rfl
  rw [e]
  simp only [Result.andThen, run_loadVar_row w g t ty cs fr d hg hu hd hi]

set_option maxHeartbeats 3200000 in
set_option maxRecDepth 100000 in
theorem decode_calls (s : ByteArray) (w : World) (hs : s.size ≤ 50000) : Calls Tryd.prog 76 #[.string s] w fun e w' => DecOf s.data.toList w e w' := by
  have hsl := size_list s
  obtain ⟨cf, qcf⟩ : ∃ x, x = cellR s.data.toList := ⟨_, rfl⟩
  have QF := Lib.hid qcf
  unfold cellR at qcf
  have l1 := numR_len 6 (s.data.toList, 0)
  have N1 := fun (W : World) (p : Nat) (h : RdAt W p (s.data.toList, 0)) => num_calls p 6 (s.data.toList, 0) W h (by simp only; omega)
  obtain ⟨a1, qa1⟩ : ∃ x, x = numR 6 (s.data.toList, 0) := ⟨_, rfl⟩
  rw [← qa1] at qcf N1 l1
  clear qa1
  obtain ⟨k, st⟩ := a1
  simp only at qcf N1 l1
  have hk6 := l1.2
  have hst : st.1.length ≤ 50000 := by omega
  have QC := Lib.hid qcf
  have hcnt := cellR2_count k st
  rw [← qcf] at hcnt
  have HCN := Lib.hid hcnt
  clear hcnt
  have G1 := Lib.hid N1
  have hkw : IntKind.u8.wrap (k : Int) = (k : Int) := IntWalk.u8_in _ (by omega)
  have b0 := below_one w (.cells #[.int .u8 0, .int .u64 0, .bool false, .string ⟨#[]⟩, .int .i64 0, .string ⟨#[]⟩, .slice none 0 0] 99)
  have R0 := row_new w #[.int .u8 0, .int .u64 0, .bool false, .string ⟨#[]⟩, .int .i64 0, .string ⟨#[]⟩, .slice none 0 0]
  clear qcf N1 l1 hs hsl
  go_enter Tryd.func76, Tryd.ntmps76
  go_upto_region 1 with fail
  go_cut [4] from 8 (fun s4 wx => ∃ p : Nat, s4 = .pointer (some ⟨p, 0, none⟩) ∧ w.heap.size < p ∧ Row wx w.heap.size #[.int .u8 0, .int .u64 0, .bool false, .string ⟨#[]⟩, .int .i64 0, .string ⟨#[]⟩, .slice none 0 0] ∧ RdAt wx p (s.data.toList, 0) ∧ Below w.heap.size w wx)
  case first =>
    go_wp2_with fail
    refine (new_calls s _).mono ?_
    rintro e w2 ⟨rfl, rfl⟩
    have R1 := R0.below (below_one _ (.cells #[.string s, .int .i64 0, .bool true] 151))
    have D1 := rd_new s (w.alloc (.cells #[.int .u8 0, .int .u64 0, .bool false, .string ⟨#[]⟩, .int .i64 0, .string ⟨#[]⟩, .slice none 0 0] 99))
    rw [show (w.alloc (.cells #[.int .u8 0, .int .u64 0, .bool false, .string ⟨#[]⟩, .int .i64 0, .string ⟨#[]⟩, .slice none 0 0] 99)).heap.size = w.heap.size + 1 by simp] at D1
    have b2 := below_alloc b0 (.cells #[.string s, .int .i64 0, .bool true] 151)
    go_wp2_with fail
    go_meet
    case rel => exact ⟨_, rfl, by omega, R1, D1, b2⟩
  case rest =>
    obtain ⟨p, rfl, hp, R1, D1, b1⟩ := hcut
    rename World => W1
    clear R0 b0
    have RG0 : RG W1 p (s.data.toList, 0) W1 := ⟨D1, ⟨rfl, rfl, rfl, Nat.le_refl _, fun _ _ _ => rfl⟩⟩
    have hpw := D1.lt
    have hne2 : w.heap.size ≠ p := by omega
    go_upto_region 2 with fail
    go_cut [5] from 8 (fun s5 wx => ∃ g : Nat, s5 = .pointer (some ⟨g, 0, none⟩) ∧ W1.heap.size ≤ g ∧ Row wx g #[.int .u8 (k : Int), .int .u64 0, .bool false, .string ⟨#[]⟩, .int .i64 0, .string ⟨#[]⟩, .slice none 0 0] ∧ Row wx w.heap.size #[.int .u8 0, .int .u64 0, .bool false, .string ⟨#[]⟩, .int .i64 0, .string ⟨#[]⟩, .slice none 0 0] ∧ RG W1 p st wx)
    case first =>
      go_wp2_with fail
      refine (G1.out _ p D1).mono ?_
      rintro e w3 ⟨rfl, hr3, hg3⟩
      have R3 := RG0.step hr3 hg3
      have Z3 := R1.grown hne2 hg3
      have b3 := below_one w3 (.cells #[.int .u8 (k : Int), .int .u64 0, .bool false, .string ⟨#[]⟩, .int .i64 0, .string ⟨#[]⟩, .slice none 0 0] 99)
      have R4 := R3.below b3
      have Z4 := Z3.below b3
      have C4 := row_new w3 #[.int .u8 (k : Int), .int .u64 0, .bool false, .string ⟨#[]⟩, .int .i64 0, .string ⟨#[]⟩, .slice none 0 0]
      have hle := R3.2.size
      go_wp2_with fail
      go_meet
      case rel => exact ⟨w3.heap.size, rfl, hle, C4, Z4, R4⟩
    case rest =>
      obtain ⟨g, rfl, hg, C1, Z1, R2⟩ := hcut
      have hgp : g ≠ p := by omega
      clear R1 D1 RG0 G1
      go_upto_region 3 with fail
      go_cut [15] from 8 (fun s15 wx => s15 = .int .u8 (k : Int) ∧ wx = wc)
      case first =>
        obtain ⟨p0, p1, p2, p3, p4, p5, p6⟩ := C1.c
        go_wp2_with fail
        go_meet
        case rel => exact ⟨rfl, rfl⟩
      case rest =>
        obtain ⟨rfl, rfl⟩ := hcut
        obtain ⟨p0, p1, p2, p3, p4, p5, p6⟩ := C1.c
        have f1 := C1.f 1
        have f2 := C1.f 2
        have f3 := C1.f 3
        have f4 := C1.f 4
        have f5 := C1.f 5
        have f6 := C1.f 6
        have hgl := C1.lt
        have hg0 : W1.heap.size ≤ g := hg
        have hgw : g ≠ w.heap.size := by omega
        have hpl : p < wc.heap.size := R2.1.lt
        rename (∀ (a : Act) (w : World), Code.wp _ (Code.block _ _) _ a w → _) => hk
        refine hk _ _ ?_
        clear hk
        go_cut [] from 8 (fun wx => ∃ (A : Option Addr) (cp : Nat), Row wx g (cvs cf.1 A cp) ∧ PcsAt wx A cf.1.body.pcs ∧ (∀ ad, A = some ad → g < ad.block) ∧ Row wx w.heap.size #[.int .u8 0, .int .u64 0, .bool false, .string ⟨#[]⟩, .int .i64 0, .string ⟨#[]⟩, .slice none 0 0] ∧ RG W1 p cf.2 wx)
        case first =>
          have qc := QC.out
          unfold cellR2 at qc
          clear QF QC HCN
          by_cases k4 : k = 4
          · subst k4
            rw [if_pos rfl] at qc
            have G4 := Lib.hid (fun (W : World) (h : RdAt W p st) => text_calls p 200 st W h (by omega) (by omega))
            obtain ⟨u4, qu4⟩ : ∃ x, x = textR 200 st := ⟨_, rfl⟩
            rw [← qu4] at qc G4
            clear qu4
            obtain ⟨tt, su⟩ := u4
            simp only at qc G4
            have QQ := Lib.hid qc
            clear qc
            go_wp2_with fail
            refine (G4.out _ R2.1).mono ?_
            rintro e w5 ⟨rfl, hr5, hg5⟩
            have R5 := R2.step hr5 hg5
            have C5 := C1.grown hgp hg5
            have Z5 := Z1.grown hne2 hg5
            have R6 := R5.set ⟨g, 3, none⟩ hg0 hgp (.string (bs tt))
            have Z6 := Z5.other ⟨g, 3, none⟩ hgw (.string (bs tt))
            have C6 : Row (w5.setCell ⟨g, 3, none⟩ (.string (bs tt))) g #[.int .u8 4, .int .u64 0, .bool false, .string (bs tt), .int .i64 0, .string ⟨#[]⟩, .slice none 0 0] := by simpa using C5.set 3 (.string (bs tt))
            obtain ⟨x0, x1, x2, x3, x4, x5, x6⟩ := C5.c
            have h3 := C5.f 3
            go_wp2_with fail
            go_meet
            case rel => exact ⟨none, 0, by rw [QQ.out]; exact C6, by rw [QQ.out]; exact PcsAt.nil _ _, (fun ad h => by cases h), Z6, by rw [QQ.out]; exact R6⟩
          have n4 : ((k : Int) == 4) = false := by rw [beq_eq_false_iff_ne]; omega
          rw [if_neg k4] at qc
          by_cases k5 : k = 5
          · subst k5
            rw [if_pos rfl] at qc
            have G5 := Lib.hid (fun (W : World) (h : RdAt W p st) => unbody_calls p st W h (by omega))
            obtain ⟨u5, qu5⟩ : ∃ x, x = unbR st := ⟨_, rfl⟩
            rw [← qu5] at qc G5
            clear qu5
            obtain ⟨⟨bl, bi, bp⟩, su⟩ := u5
            simp only at qc G5
            have QQ := Lib.hid qc
            clear qc
            go_wp2_with fail
            refine (G5.out _ R2.1).mono ?_
            rintro e w5 ⟨A, cp, rfl, hPa, hAb, hRu⟩
            have R5 := R2.step hRu.1 hRu.2
            have C5 := C1.grown hgp hRu.2
            have Z5 := Z1.grown hne2 hRu.2
            simp only at hPa
            have hgA : ∀ ad, A = some ad → g < ad.block := fun ad h => Nat.lt_of_lt_of_le C1.lt (hAb ad h)
            have hgn : ∀ ad, A = some ad → ad.block ≠ g := fun ad h => by have := hgA ad h; omega
            have R6 := ((R5.set ⟨g, 4, none⟩ hg0 hgp (.int .i64 bl)).set ⟨g, 5, none⟩ hg0 hgp (.string bi)).set ⟨g, 6, none⟩ hg0 hgp (.slice A bp.length cp)
            have Z6 := ((Z5.other ⟨g, 4, none⟩ hgw (.int .i64 bl)).other ⟨g, 5, none⟩ hgw (.string bi)).other ⟨g, 6, none⟩ hgw (.slice A bp.length cp)
            have P6 := ((hPa.other ⟨g, 4, none⟩ hgn (.int .i64 bl)).other ⟨g, 5, none⟩ hgn (.string bi)).other ⟨g, 6, none⟩ hgn (.slice A bp.length cp)
            have C6 : Row (((w5.setCell ⟨g, 4, none⟩ (.int .i64 bl)).setCell ⟨g, 5, none⟩ (.string bi)).setCell ⟨g, 6, none⟩ (.slice A bp.length cp)) g #[.int .u8 5, .int .u64 0, .bool false, .string ⟨#[]⟩, .int .i64 bl, .string bi, .slice A bp.length cp] := by simpa using ((C5.set 4 (.int .i64 bl)).set 5 (.string bi)).set 6 (.slice A bp.length cp)
            obtain ⟨x0, x1, x2, x3, x4, x5, x6⟩ := C5.c
            have h4 := C5.f 4
            have h5 := C5.f 5
            have h6 := C5.f 6
            go_wp2_with fail
            go_meet
            case rel => exact ⟨A, cp, by rw [QQ.out]; exact C6, by rw [QQ.out]; exact P6, hgA, Z6, by rw [QQ.out]; exact R6⟩
          have n5 : ((k : Int) == 5) = false := by rw [beq_eq_false_iff_ne]; omega
          rw [if_neg k5] at qc
          by_cases k3 : k = 3
          · subst k3
            rw [if_pos rfl] at qc
            have lb := boolR_len st
            have G4 := Lib.hid (fun (W : World) (h : RdAt W p st) => boolR_calls p st W h (by omega))
            obtain ⟨u4, qu4⟩ : ∃ x, x = boolR st := ⟨_, rfl⟩
            rw [← qu4] at qc G4 lb
            clear qu4
            obtain ⟨gn, su⟩ := u4
            simp only at qc G4 lb
            cases gn
            · rw [if_neg (by decide)] at qc
              go_wp2_with fail
              refine (G4.out _ R2.1).mono ?_
              rintro e w4 ⟨rfl, hr4, hg4⟩
              have R3 := (R2.step hr4 hg4).set ⟨g, 2, none⟩ hg0 hgp (.bool false)
              have C2 := C1.grown hgp hg4
              have Z3 := (Z1.grown hne2 hg4).other ⟨g, 2, none⟩ hgw (.bool false)
              have C3 : Row (w4.setCell ⟨g, 2, none⟩ (.bool false)) g #[.int .u8 3, .int .u64 0, .bool false, .string ⟨#[]⟩, .int .i64 0, .string ⟨#[]⟩, .slice none 0 0] := by simpa using C2.set 2 (.bool false)
              obtain ⟨y0, y1, y2, y3, y4, y5, y6⟩ := C2.c
              have j2 := C2.f 2
              clear p0 p1 p2 p3 p4 p5 p6 f1 f2 f3 f4 f5 f6
              have G5 := Lib.hid (fun (W : World) (h : RdAt W p su) => unbody_calls p su W h (by omega))
              obtain ⟨u5, qu5⟩ : ∃ x, x = unbR su := ⟨_, rfl⟩
              rw [← qu5] at qc G5
              clear qu5
              obtain ⟨⟨bl, bi, bp⟩, su⟩ := u5
              simp only at qc G5
              have QQ := Lib.hid qc
              clear qc
              go_wp2_with fail
              refine (G5.out _ R3.1).mono ?_
              rintro e w5 ⟨A, cp, rfl, hPa, hAb, hRu⟩
              have R5 := R3.step hRu.1 hRu.2
              have C5 := C3.grown hgp hRu.2
              have Z5 := Z3.grown hne2 hRu.2
              simp only at hPa
              have hgA : ∀ ad, A = some ad → g < ad.block := fun ad h => Nat.lt_of_lt_of_le C3.lt (hAb ad h)
              have hgn : ∀ ad, A = some ad → ad.block ≠ g := fun ad h => by have := hgA ad h; omega
              have R6 := ((R5.set ⟨g, 4, none⟩ hg0 hgp (.int .i64 bl)).set ⟨g, 5, none⟩ hg0 hgp (.string bi)).set ⟨g, 6, none⟩ hg0 hgp (.slice A bp.length cp)
              have Z6 := ((Z5.other ⟨g, 4, none⟩ hgw (.int .i64 bl)).other ⟨g, 5, none⟩ hgw (.string bi)).other ⟨g, 6, none⟩ hgw (.slice A bp.length cp)
              have P6 := ((hPa.other ⟨g, 4, none⟩ hgn (.int .i64 bl)).other ⟨g, 5, none⟩ hgn (.string bi)).other ⟨g, 6, none⟩ hgn (.slice A bp.length cp)
              have C6 : Row (((w5.setCell ⟨g, 4, none⟩ (.int .i64 bl)).setCell ⟨g, 5, none⟩ (.string bi)).setCell ⟨g, 6, none⟩ (.slice A bp.length cp)) g #[.int .u8 3, .int .u64 0, .bool false, .string ⟨#[]⟩, .int .i64 bl, .string bi, .slice A bp.length cp] := by simpa using ((C5.set 4 (.int .i64 bl)).set 5 (.string bi)).set 6 (.slice A bp.length cp)
              obtain ⟨x0, x1, x2, x3, x4, x5, x6⟩ := C5.c
              have h4 := C5.f 4
              have h5 := C5.f 5
              have h6 := C5.f 6
              go_wp2_with fail
              go_meet
              case rel => exact ⟨A, cp, by rw [QQ.out]; exact C6, by rw [QQ.out]; exact P6, hgA, Z6, by rw [QQ.out]; exact R6⟩
            · rw [if_pos rfl] at qc
              have QQ := Lib.hid qc
              clear qc
              go_wp2_with fail
              refine (G4.out _ R2.1).mono ?_
              rintro e w4 ⟨rfl, hr4, hg4⟩
              have R3 := (R2.step hr4 hg4).set ⟨g, 2, none⟩ hg0 hgp (.bool true)
              have C2 := C1.grown hgp hg4
              have Z3 := (Z1.grown hne2 hg4).other ⟨g, 2, none⟩ hgw (.bool true)
              have C3 : Row (w4.setCell ⟨g, 2, none⟩ (.bool true)) g #[.int .u8 3, .int .u64 0, .bool true, .string ⟨#[]⟩, .int .i64 0, .string ⟨#[]⟩, .slice none 0 0] := by simpa using C2.set 2 (.bool true)
              obtain ⟨y0, y1, y2, y3, y4, y5, y6⟩ := C2.c
              have j2 := C2.f 2
              go_wp2_with fail
              go_meet
              case rel => exact ⟨none, 0, by rw [QQ.out]; exact C3, by rw [QQ.out]; exact PcsAt.nil _ _, (fun ad h => by cases h), Z3, by rw [QQ.out]; exact R3⟩
          have n3 : ((k : Int) == 3) = false := by rw [beq_eq_false_iff_ne]; omega
          rw [if_neg k3] at qc
          have G4 : Hid (∀ (W : World), RdAt W p st → Calls Tryd.prog 94 #[.pointer (some ⟨p, 0, none⟩), .int .u64 281474976710656] W fun r w' => r = .returned (.int .u64 ((numR big st).1 : Int)) ∧ RdAt w' p (numR big st).2 ∧ W.grownBy w' (some p)) := fun (W : World) (h : RdAt W p st) => num_calls p big st W h (by omega)
          obtain ⟨u4, qu4⟩ : ∃ x, x = numR big st := ⟨_, rfl⟩
          rw [← qu4] at qc G4
          clear qu4
          obtain ⟨nn, su⟩ := u4
          simp only at qc G4
          have QQ := Lib.hid qc
          clear qc
          go_wp2_with fail
          refine (G4.out _ R2.1).mono ?_
          rintro e w5 ⟨rfl, hr5, hg5⟩
          have R5 := R2.step hr5 hg5
          have C5 := C1.grown hgp hg5
          have Z5 := Z1.grown hne2 hg5
          have R6 := R5.set ⟨g, 1, none⟩ hg0 hgp (.int .u64 (nn : Int))
          have Z6 := Z5.other ⟨g, 1, none⟩ hgw (.int .u64 (nn : Int))
          have C6 : Row (w5.setCell ⟨g, 1, none⟩ (.int .u64 (nn : Int))) g #[.int .u8 (k : Int), .int .u64 (nn : Int), .bool false, .string ⟨#[]⟩, .int .i64 0, .string ⟨#[]⟩, .slice none 0 0] := by simpa using C5.set 1 (.int .u64 (nn : Int))
          obtain ⟨x0, x1, x2, x3, x4, x5, x6⟩ := C5.c
          have h1 := C5.f 1
          go_wp2_with fail
          go_meet
          case rel => exact ⟨none, 0, by rw [QQ.out]; exact C6, by rw [QQ.out]; exact PcsAt.nil _ _, (fun ad h => by cases h), Z6, by rw [QQ.out]; exact R6⟩
        case rest =>
          obtain ⟨A, cp, C2, P2, hgA, Z2, RK⟩ := hcut
          clear p0 p1 p2 p3 p4 p5 p6 f1 f2 f3 f4 f5 f6 C1 Z1 R2 hgl hpl QC hkw
          have hcn := HCN.out
          obtain ⟨c, sE⟩ := cf
          simp only at C2 P2 RK hcn
          have hqf := QF.out
          have GE := Lib.hid (fun W (h : RdAt W p sE) => end_calls p sE W h)
          have HM := fun (W : World) (h : PcsAt W A c.body.pcs) => mayC_calls c A cp W h (by omega) (by omega)
          have HE := fun (W : World) (h : PcsAt W A c.body.pcs) => encode_calls c A cp W h (by omega) (by omega)
          have hdo : decOk s.data.toList ↔ ((endR sE).2 = 0 ∧ mayCB c = true ∧ cellW c = s.data.toList) := by
            unfold decOk
            rw [← hqf, mayCB_iff]
          unfold encV at HE
          obtain ⟨eE, qe⟩ : ∃ x, x = (endR sE).2 := ⟨_, rfl⟩
          obtain ⟨mb, qm⟩ : ∃ x, x = mayCB c := ⟨_, rfl⟩
          obtain ⟨TB, qT⟩ : ∃ x, x = bs (cellW c) := ⟨_, rfl⟩
          have GE2 : Hid (∀ W, RdAt W p sE → Calls Tryd.prog 98 #[.pointer (some ⟨p, 0, none⟩)] W fun r w' => r = .returned (.int .i64 (eE : Int)) ∧ RdAt w' p (endR sE) ∧ W.grownBy w' (some p)) := by rw [qe]; exact GE
          rw [← qe, ← qm] at hdo
          rw [← qm] at HM
          rw [← qm, ← qT] at HE
          have hTs : cellW c = s.data.toList ↔ (TB.toList == s.toList) = true := by
            rw [qT, beq_iff_eq, ByteArray.toList_eq, ByteArray.toList_eq]; exact Iff.rfl
          rw [hTs] at hdo
          have hgA2 : ∀ ad, A = some ad → ad.block ≠ p := fun ad h => by have := hgA ad h; omega
          have hgA3 : ∀ ad, A = some ad → ad.block ≠ w.heap.size := fun ad h => by have := hgA ad h; omega
          have HDO := Lib.hid hdo
          have GM := Lib.hid HM
          have GC := Lib.hid HE
          have HQ := Lib.hid hqf
          clear GE HM HE hdo hTs qe qm qT hqf QF HCN hcn
          obtain ⟨ck, cn, cg, cm, ⟨cl, ci, cps⟩⟩ := c
          unfold cvs at C2 GM GC
          simp only at C2 P2 GM GC
          go_wp2_with fail
          refine (GE2.out _ RK.1).mono ?_
          rintro e w5 ⟨rfl, hr5, hg5⟩
          have RL := RK.step hr5 hg5
          have C3 := C2.grown hgp hg5
          have Z3 := Z2.grown hne2 hg5
          have P3 := P2.grown hgA2 hg5
          clear RK C2 Z2 P2 hr5 hg5 GE2
          by_cases he : eE = 0
          case neg =>
            have he' : ((eE : Int) != 0) = true := by rw [bne_iff_ne]; omega
            clear GM GC
            have HNO : Hid (¬ decOk s.data.toList) := fun h => he (HDO.out.1 h).1
            obtain ⟨z0, z1, z2, z3, z4, z5, z6⟩ := Z3.c
            have f0 := Z3.f 0
            have f1 := Z3.f 1
            have f2 := Z3.f 2
            have f3 := Z3.f 3
            have f4 := Z3.f 4
            have f5 := Z3.f 5
            have f6 := Z3.f 6
            have hG := Z3.setAll (.int .u8 0) (.int .u64 0) (.bool false) (.string ⟨#[]⟩) (.int .i64 0) (.string ⟨#[]⟩) (.slice none 0 0)
            have hbl := below_grown b1 (Nat.le_of_lt hp) RL.2
            go_wp2_with fail
            refine bodyPost_ret (results_cell2 rfl _ _ w.heap.size 99 _ (0, 0) _ rfl hG Tryd.underlying99 rfl (by kernel_rfl)) rfl ?_
            exact ⟨Cel.zero, none, 0, 8, rfl, PcsAt.nil _ _, .inr ⟨HNO.out, rfl, rfl⟩, below_all hbl _ (Nat.le_refl _) _ _ _ _ _ _ _⟩
          subst he
          obtain ⟨p0, p1, p2, p3, p4, p5, p6⟩ := C3.c
          go_wp2_with fail
          refine (GM.out _ P3).mono ?_
          rintro e w6 ⟨rfl, hb6⟩
          have RM := RL.below hb6
          have C4 := C3.below hb6
          have Z4 := Z3.below hb6
          have P4 := P3.below hb6
          clear p0 p1 p2 p3 p4 p5 p6 RL C3 Z3 P3 hb6 GM
          cases mb
          case false =>
            clear GC
            have HNO : Hid (¬ decOk s.data.toList) := fun h => by have := (HDO.out.1 h).2.1; cases this
            obtain ⟨z0, z1, z2, z3, z4, z5, z6⟩ := Z4.c
            have f0 := Z4.f 0
            have f1 := Z4.f 1
            have f2 := Z4.f 2
            have f3 := Z4.f 3
            have f4 := Z4.f 4
            have f5 := Z4.f 5
            have f6 := Z4.f 6
            have hG := Z4.setAll (.int .u8 0) (.int .u64 0) (.bool false) (.string ⟨#[]⟩) (.int .i64 0) (.string ⟨#[]⟩) (.slice none 0 0)
            have hbl := below_grown b1 (Nat.le_of_lt hp) RM.2
            go_wp2_with fail
            refine bodyPost_ret (results_cell2 rfl _ _ w.heap.size 99 _ (0, 0) _ rfl hG Tryd.underlying99 rfl (by kernel_rfl)) rfl ?_
            exact ⟨Cel.zero, none, 0, 8, rfl, PcsAt.nil _ _, .inr ⟨HNO.out, rfl, rfl⟩, below_all hbl _ (Nat.le_refl _) _ _ _ _ _ _ _⟩
          have GC2 := Lib.hid (GC.out _ P4)
          clear GC
          rw [if_pos rfl] at GC2
          obtain ⟨p0, p1, p2, p3, p4, p5, p6⟩ := C4.c
          go_wp2_with fail
          refine GC2.out.mono ?_
          rintro e w7 ⟨rfl, hb7⟩
          have RN := RM.below hb7
          have C5 := C4.below hb7
          have Z5 := Z4.below hb7
          have P5 := P4.below hb7
          clear p0 p1 p2 p3 p4 p5 p6 RM C4 Z4 P4 hb7 GC2
          obtain ⟨tq, qt⟩ : ∃ t, (TB.toList == s.toList) = t := ⟨_, rfl⟩
          cases tq
          case false =>
            have HNO : Hid (¬ decOk s.data.toList) := fun h => by have := (HDO.out.1 h).2.2; rw [qt] at this; cases this
            obtain ⟨z0, z1, z2, z3, z4, z5, z6⟩ := Z5.c
            have f0 := Z5.f 0
            have f1 := Z5.f 1
            have f2 := Z5.f 2
            have f3 := Z5.f 3
            have f4 := Z5.f 4
            have f5 := Z5.f 5
            have f6 := Z5.f 6
            have hG := Z5.setAll (.int .u8 0) (.int .u64 0) (.bool false) (.string ⟨#[]⟩) (.int .i64 0) (.string ⟨#[]⟩) (.slice none 0 0)
            have hbl := below_grown b1 (Nat.le_of_lt hp) RN.2
            go_wp2_with fail
            refine bodyPost_ret (results_cell2 rfl _ _ w.heap.size 99 _ (0, 0) _ rfl hG Tryd.underlying99 rfl (by kernel_rfl)) rfl ?_
            exact ⟨Cel.zero, none, 0, 8, rfl, PcsAt.nil _ _, .inr ⟨HNO.out, rfl, rfl⟩, below_all hbl _ (Nat.le_refl _) _ _ _ _ _ _ _⟩
          have HOK : Hid (decOk s.data.toList) := HDO.out.2 ⟨by trivial, by trivial, qt⟩
          obtain ⟨p0, p1, p2, p3, p4, p5, p6⟩ := C5.c
          obtain ⟨z0, z1, z2, z3, z4, z5, z6⟩ := Z5.c
          have f0 := Z5.f 0
          have f1 := Z5.f 1
          have f2 := Z5.f 2
          have f3 := Z5.f 3
          have f4 := Z5.f 4
          have f5 := Z5.f 5
          have f6 := Z5.f 6
          have hG := Z5.setAll (.int .u8 (ck : Int)) (.int .u64 (cn : Int)) (.bool cg) (.string cm) (.int .i64 cl) (.string ci) (.slice A cps.length cp)
          have hbl := below_grown b1 (Nat.le_of_lt hp) RN.2
          have P6 := ((((((P5.other ⟨w.heap.size, 0, none⟩ hgA3 (.int .u8 (ck : Int))).other ⟨w.heap.size, 1, none⟩ hgA3 (.int .u64 (cn : Int))).other ⟨w.heap.size, 2, none⟩ hgA3 (.bool cg)).other ⟨w.heap.size, 3, none⟩ hgA3 (.string cm)).other ⟨w.heap.size, 4, none⟩ hgA3 (.int .i64 cl)).other ⟨w.heap.size, 5, none⟩ hgA3 (.string ci)).other ⟨w.heap.size, 6, none⟩ hgA3 (.slice A cps.length cp)
          go_wp2_with fail
          refine bodyPost_ret (results_cell2 rfl _ _ w.heap.size 99 _ (0, 0) _ rfl hG Tryd.underlying99 rfl (by kernel_rfl)) rfl ?_
          exact ⟨⟨ck, cn, cg, cm, ⟨cl, ci, cps⟩⟩, A, cp, 0, rfl, P6, .inl ⟨HOK.out, by rw [← HQ.out], rfl⟩, below_all hbl _ (Nat.le_refl _) _ _ _ _ _ _ _⟩

end Go.Proofs.YtaeiahkomdpcoaaDoor.Cell
end

section
/- strings.Cut, strings.ReplaceAll at this translation, and what strings.Trim's contract asks: laid by the kit's own tools (lay-shelf, lay-plain). -/
namespace Go.Proofs
open Go.Shelf
def Tryd.lays145_ren : Go.Shelf.Ren := ⟨fun | 145 => 38 | 220 => 63 | 219 => 89 | 217 => 108 | 225 => 109 | 224 => 110 | 267 => 111 | 266 => 125 | 314 => 126 | n => n, fun | 9 => 9 | 4 => 4 | 59 => 74 | 3 => 3 | 5 => 5 | 46 => 86 | 146 => 168 | 51 => 167 | n => n, fun | 1 => 0 | n => n⟩
theorem Tryd.lays145 : Go.Proofs.Lays.n145 Tryd.prog Tryd.lays145_ren := {
  mixed := by kernel_rfl
  f145 := Tryd.func38.trans (congrArg some (by kernel_rfl))
  f217 := Tryd.func108.trans (congrArg some (by kernel_rfl))
  f219 := Tryd.func89.trans (congrArg some (by kernel_rfl))
  f220 := Tryd.func63.trans (congrArg some (by kernel_rfl))
  f224 := Tryd.func110.trans (congrArg some (by kernel_rfl))
  f225 := Tryd.func109.trans (congrArg some (by kernel_rfl))
  f266 := Tryd.func125.trans (congrArg some (by kernel_rfl))
  f267 := Tryd.func111.trans (congrArg some (by kernel_rfl))
  f314 := Tryd.func126.trans (congrArg some (by kernel_rfl))
  t3 := Tryd.underlying3
  a3 := Tryd.isAgg3
  z3 := Tryd.sizeOf3
  v3 := Tryd.zeroValue3
  t4 := Tryd.underlying4
  a4 := Tryd.isAgg4
  z4 := Tryd.sizeOf4
  v4 := Tryd.zeroValue4
  t5 := Tryd.underlying5
  a5 := Tryd.isAgg5
  z5 := Tryd.sizeOf5
  v5 := Tryd.zeroValue5
  t9 := Tryd.underlying9
  a9 := Tryd.isAgg9
  z9 := Tryd.sizeOf9
  v9 := Tryd.zeroValue9
  t46 := Tryd.underlying86
  a46 := Tryd.isAgg86
  z46 := Tryd.sizeOf86
  v46 := Tryd.zeroValue86
  t51 := Tryd.underlying167
  a51 := Tryd.isAgg167
  z51 := Tryd.sizeOf167
  v51 := Tryd.zeroValue167
  t59 := Tryd.underlying74
  a59 := Tryd.isAgg74
  z59 := Tryd.sizeOf74
  v59 := Tryd.zeroValue74
  t146 := Tryd.underlying168
  a146 := Tryd.isAgg168
  z146 := Tryd.sizeOf168
  v146 := Tryd.zeroValue168
  g1 := by kernel_rfl }
open Go.RowKit Go.Lib in
theorem Tryd.strings_Cut (s sep : ByteArray) (m : Int) (w : World) (hs : s.size < 4294967281) (hm : w.cell? ⟨0, 0, none⟩ = some (.int .i64 m)) :
    Calls Tryd.prog 38 #[.string s, .string sep] w fun e w' => e = .returned (.tuple #[.string ⟨(Lib.cut s.data.toList sep.data.toList).1.toArray⟩, .string ⟨(Lib.cut s.data.toList sep.data.toList).2.1.toArray⟩, .bool (Lib.cut s.data.toList sep.data.toList).2.2]) ∧ ∃ n, w' = w.drewN n := Any.strings_Cut Tryd.lays145 s sep m w hs hm
def Tryd.lays155_ren : Go.Shelf.Ren := ⟨fun | 155 => 36 | 154 => 62 | 138 => 83 | 165 => 84 | 143 => 85 | 166 => 86 | 197 => 87 | 169 => 88 | 195 => 103 | 218 => 104 | 240 => 105 | 241 => 106 | 219 => 89 | 260 => 107 | 276 => 123 | 277 => 124 | 217 => 108 | 225 => 109 | 224 => 110 | 267 => 111 | 266 => 125 | 314 => 126 | n => n, fun | 9 => 9 | 3 => 3 | 4 => 4 | 72 => 123 | 0 => 0 | 76 => 127 | 105 => 129 | 21 => 21 | 5 => 5 | 70 => 121 | 20 => 20 | 37 => 71 | 75 => 126 | 127 => 147 | 164 => 160 | 46 => 86 | 119 => 163 | 139 => 166 | 138 => 165 | 146 => 168 | 51 => 167 | 80 => 131 | n => n, fun | 1 => 0 | 3 => 1 | 4 => 2 | n => n⟩
theorem Tryd.lays155 : Go.Proofs.Lays.n155 Tryd.prog Tryd.lays155_ren := {
  mixed := by kernel_rfl
  f138 := Tryd.func83.trans (congrArg some (by kernel_rfl))
  f143 := Tryd.func85.trans (congrArg some (by kernel_rfl))
  f154 := Tryd.func62.trans (congrArg some (by kernel_rfl))
  f155 := Tryd.func36.trans (congrArg some (by kernel_rfl))
  f165 := Tryd.func84.trans (congrArg some (by kernel_rfl))
  f166 := Tryd.func86.trans (congrArg some (by kernel_rfl))
  f169 := Tryd.func88.trans (congrArg some (by kernel_rfl))
  f195 := Tryd.func103.trans (congrArg some (by kernel_rfl))
  f197 := Tryd.func87.trans (congrArg some (by kernel_rfl))
  f217 := Tryd.func108.trans (congrArg some (by kernel_rfl))
  f218 := Tryd.func104.trans (congrArg some (by kernel_rfl))
  f219 := Tryd.func89.trans (congrArg some (by kernel_rfl))
  f224 := Tryd.func110.trans (congrArg some (by kernel_rfl))
  f225 := Tryd.func109.trans (congrArg some (by kernel_rfl))
  f240 := Tryd.func105.trans (congrArg some (by kernel_rfl))
  f241 := Tryd.func106.trans (congrArg some (by kernel_rfl))
  f260 := Tryd.func107.trans (congrArg some (by kernel_rfl))
  f266 := Tryd.func125.trans (congrArg some (by kernel_rfl))
  f267 := Tryd.func111.trans (congrArg some (by kernel_rfl))
  f276 := Tryd.func123.trans (congrArg some (by kernel_rfl))
  f277 := Tryd.func124.trans (congrArg some (by kernel_rfl))
  f314 := Tryd.func126.trans (congrArg some (by kernel_rfl))
  t0 := Tryd.underlying0
  a0 := Tryd.isAgg0
  z0 := Tryd.sizeOf0
  v0 := Tryd.zeroValue0
  t3 := Tryd.underlying3
  a3 := Tryd.isAgg3
  z3 := Tryd.sizeOf3
  v3 := Tryd.zeroValue3
  t4 := Tryd.underlying4
  a4 := Tryd.isAgg4
  z4 := Tryd.sizeOf4
  v4 := Tryd.zeroValue4
  t5 := Tryd.underlying5
  a5 := Tryd.isAgg5
  z5 := Tryd.sizeOf5
  v5 := Tryd.zeroValue5
  t9 := Tryd.underlying9
  a9 := Tryd.isAgg9
  z9 := Tryd.sizeOf9
  v9 := Tryd.zeroValue9
  t20 := Tryd.underlying20
  a20 := Tryd.isAgg20
  z20 := Tryd.sizeOf20
  v20 := Tryd.zeroValue20
  t21 := Tryd.underlying21
  a21 := Tryd.isAgg21
  z21 := Tryd.sizeOf21
  v21 := Tryd.zeroValue21
  t37 := Tryd.underlying71
  a37 := Tryd.isAgg71
  z37 := Tryd.sizeOf71
  v37 := Tryd.zeroValue71
  t46 := Tryd.underlying86
  a46 := Tryd.isAgg86
  z46 := Tryd.sizeOf86
  v46 := Tryd.zeroValue86
  t51 := Tryd.underlying167
  a51 := Tryd.isAgg167
  z51 := Tryd.sizeOf167
  v51 := Tryd.zeroValue167
  t70 := Tryd.underlying121
  a70 := Tryd.isAgg121
  z70 := Tryd.sizeOf121
  v70 := Tryd.zeroValue121
  t72 := Tryd.underlying123
  a72 := Tryd.isAgg123
  z72 := Tryd.sizeOf123
  v72 := Tryd.zeroValue123
  t75 := Tryd.underlying126
  a75 := Tryd.isAgg126
  z75 := Tryd.sizeOf126
  v75 := Tryd.zeroValue126
  t76 := Tryd.underlying127
  a76 := Tryd.isAgg127
  z76 := Tryd.sizeOf127
  v76 := Tryd.zeroValue127
  t105 := Tryd.underlying129
  a105 := Tryd.isAgg129
  z105 := Tryd.sizeOf129
  v105 := Tryd.zeroValue129
  t119 := Tryd.underlying163
  a119 := Tryd.isAgg163
  z119 := Tryd.sizeOf163
  t127 := Tryd.underlying147
  a127 := Tryd.isAgg147
  z127 := Tryd.sizeOf147
  v127 := Tryd.zeroValue147
  t138 := Tryd.underlying165
  a138 := Tryd.isAgg165
  z138 := Tryd.sizeOf165
  v138 := Tryd.zeroValue165
  t139 := Tryd.underlying166
  a139 := Tryd.isAgg166
  z139 := Tryd.sizeOf166
  v139 := Tryd.zeroValue166
  t146 := Tryd.underlying168
  a146 := Tryd.isAgg168
  z146 := Tryd.sizeOf168
  v146 := Tryd.zeroValue168
  t164 := Tryd.underlying160
  a164 := Tryd.isAgg160
  z164 := Tryd.sizeOf160
  v164 := Tryd.zeroValue160
  g1 := by kernel_rfl
  g3 := by kernel_rfl
  g4 := by kernel_rfl }
theorem Tryd.Builder_Extra_155 : Builder.Extra Tryd.prog Tryd.lays155_ren := {
  sizeBuilder := by kernel_rfl
  liesBuilder := by kernel_rfl
  t5 := Tryd.underlying5
  a5 := Tryd.isAgg5
  z5 := Tryd.sizeOf5
  v5 := Tryd.zeroValue5
  infoByte := by kernel_rfl
  cellsByte := by kernel_rfl
  sizeByte := by kernel_rfl
  neB5 := by decide }
open Go.RowKit Go.Lib in
theorem Tryd.strings_ReplaceAll (s old new : ByteArray) (m : Int) (w : World) (hs : s.size < 4294967281) (hm : w.cell? ⟨0, 0, none⟩ = some (.int .i64 m)) (h1 : 1 ≤ old.size) (hlen : s.size + Lib.countB s old * new.size ≤ 140737488355328) :
    Calls Tryd.prog 36 #[.string s, .string old, .string new] w fun e w' =>
      e = .returned (.string ⟨(Lib.replaceAll s.data.toList old.data.toList new.data.toList).toArray⟩) ∧ Below w.heap.size w w' := Any.strings_ReplaceAll Tryd.lays155 Tryd.Builder_Extra_155 s old new m w hs hm h1 hlen
def Tryd.lays160_ren : Go.Shelf.Ren := ⟨fun | 160 => 52 | 232 => 69 | 231 => 68 | 227 => 70 | 234 => 72 | 233 => 71 | 236 => 74 | 235 => 73 | 228 => 90 | 271 => 92 | 151 => 91 | 197 => 87 | 120 => 113 | 152 => 112 | 260 => 107 | 137 => 127 | 119 => 128 | 224 => 110 | 225 => 109 | 217 => 108 | 266 => 125 | n => n, fun | 9 => 9 | 4 => 4 | 3 => 3 | 5 => 5 | 117 => 108 | 116 => 107 | 0 => 0 | 124 => 111 | 21 => 21 | 105 => 129 | 46 => 86 | 119 => 163 | 139 => 166 | 138 => 165 | n => n, fun | 3 => 1 | 4 => 2 | n => n⟩
theorem Tryd.lays160 : Go.Proofs.Lays.n160 Tryd.prog Tryd.lays160_ren := {
  mixed := by kernel_rfl
  f119 := Tryd.func128.trans (congrArg some (by kernel_rfl))
  f120 := Tryd.func113.trans (congrArg some (by kernel_rfl))
  f137 := Tryd.func127.trans (congrArg some (by kernel_rfl))
  f151 := Tryd.func91.trans (congrArg some (by kernel_rfl))
  f152 := Tryd.func112.trans (congrArg some (by kernel_rfl))
  f160 := Tryd.func52.trans (congrArg some (by kernel_rfl))
  f197 := Tryd.func87.trans (congrArg some (by kernel_rfl))
  f217 := Tryd.func108.trans (congrArg some (by kernel_rfl))
  f224 := Tryd.func110.trans (congrArg some (by kernel_rfl))
  f225 := Tryd.func109.trans (congrArg some (by kernel_rfl))
  f227 := Tryd.func70.trans (congrArg some (by kernel_rfl))
  f228 := Tryd.func90.trans (congrArg some (by kernel_rfl))
  f231 := Tryd.func68.trans (congrArg some (by kernel_rfl))
  f232 := Tryd.func69.trans (congrArg some (by kernel_rfl))
  f233 := Tryd.func71.trans (congrArg some (by kernel_rfl))
  f234 := Tryd.func72.trans (congrArg some (by kernel_rfl))
  f235 := Tryd.func73.trans (congrArg some (by kernel_rfl))
  f236 := Tryd.func74.trans (congrArg some (by kernel_rfl))
  f260 := Tryd.func107.trans (congrArg some (by kernel_rfl))
  f266 := Tryd.func125.trans (congrArg some (by kernel_rfl))
  f271 := Tryd.func92.trans (congrArg some (by kernel_rfl))
  t0 := Tryd.underlying0
  a0 := Tryd.isAgg0
  z0 := Tryd.sizeOf0
  v0 := Tryd.zeroValue0
  t3 := Tryd.underlying3
  a3 := Tryd.isAgg3
  z3 := Tryd.sizeOf3
  v3 := Tryd.zeroValue3
  t4 := Tryd.underlying4
  a4 := Tryd.isAgg4
  z4 := Tryd.sizeOf4
  v4 := Tryd.zeroValue4
  t5 := Tryd.underlying5
  a5 := Tryd.isAgg5
  z5 := Tryd.sizeOf5
  v5 := Tryd.zeroValue5
  t9 := Tryd.underlying9
  a9 := Tryd.isAgg9
  z9 := Tryd.sizeOf9
  v9 := Tryd.zeroValue9
  t21 := Tryd.underlying21
  a21 := Tryd.isAgg21
  z21 := Tryd.sizeOf21
  v21 := Tryd.zeroValue21
  t46 := Tryd.underlying86
  a46 := Tryd.isAgg86
  z46 := Tryd.sizeOf86
  v46 := Tryd.zeroValue86
  t105 := Tryd.underlying129
  a105 := Tryd.isAgg129
  z105 := Tryd.sizeOf129
  v105 := Tryd.zeroValue129
  t116 := Tryd.underlying107
  a116 := Tryd.isAgg107
  z116 := Tryd.sizeOf107
  t117 := Tryd.underlying108
  a117 := Tryd.isAgg108
  z117 := Tryd.sizeOf108
  v117 := Tryd.zeroValue108
  t119 := Tryd.underlying163
  a119 := Tryd.isAgg163
  z119 := Tryd.sizeOf163
  t124 := Tryd.underlying111
  a124 := Tryd.isAgg111
  z124 := Tryd.sizeOf111
  v124 := Tryd.zeroValue111
  t138 := Tryd.underlying165
  a138 := Tryd.isAgg165
  z138 := Tryd.sizeOf165
  v138 := Tryd.zeroValue165
  t139 := Tryd.underlying166
  a139 := Tryd.isAgg166
  z139 := Tryd.sizeOf166
  v139 := Tryd.zeroValue166
  g3 := by kernel_rfl
  g4 := by kernel_rfl }
end Go.Proofs
end

section
/- Keys' bytes: plain Lean, no program in sight. -/
namespace Go.Proofs.YtaeiahkomdpcoaaDoor.Name

abbrev Bs := List UInt8
structure Key where
  kind : Nat
  bucket : ByteArray
  name : ByteArray
  n : Nat
  part : Int

def wordB (c : Nat) : Bool := decide (97 ≤ c ∧ c ≤ 122) || decide (48 ≤ c ∧ c ≤ 57)
/-- The bytes that a bucket's name may have. -/
def okCs : Bs := [97, 98, 99, 100, 101, 102, 103, 104, 105, 106, 107, 108, 109, 110, 111, 112, 113, 114, 115, 116, 117, 118, 119, 120, 121, 122, 48, 49, 50, 51, 52, 53, 54, 55, 56, 57, 45, 46]
def bucketL (l : Bs) : Bool := decide (1 ≤ l.length ∧ l.length ≤ 63) && wordB (l.getD 0 0).toNat && wordB (l.getD (l.length - 1) 0).toNat && l.all (okCs.contains ·)
def objectL (l : Bs) : Bool := decide (1 ≤ l.length ∧ l.length ≤ 200)
def hasB (k : Nat) : Bool := decide (2 ≤ k ∧ k ≤ 5)
def hasN (k : Nat) : Bool := decide (3 ≤ k ∧ k ≤ 6)
def mayB (k : Key) : Bool :=
  decide (1 ≤ k.kind ∧ k.kind ≤ 6) && (if hasB k.kind then bucketL k.bucket.data.toList else decide (k.bucket = ⟨#[]⟩)) && (if k.kind = 3 then objectL k.name.data.toList else decide (k.name = ⟨#[]⟩)) &&
    (hasN k.kind || decide (k.n = 0)) && (if k.kind = 5 then decide (1 ≤ k.part ∧ k.part ≤ 1000) else decide (k.part = 0))

def esc : Bs → Bs
  | [] => []
  | c :: l => if c = 0 then 0 :: 255 :: esc l else c :: esc l
/-- A number in so many bytes, the highest first. -/
def be : Nat → Nat → Bs
  | 0, _ => []
  | k + 1, n => be k (n / 256) ++ [UInt8.ofNat (n % 256)]
def top : Nat := 18446744073709551615
def encL (k : Key) : Bs :=
  UInt8.ofNat k.kind :: ((if hasB k.kind then k.bucket.data.toList ++ [0] else []) ++ ((if k.kind = 3 then esc k.name.data.toList ++ [0, 1] ++ be 8 (top - k.n) else if hasN k.kind then be 8 k.n else []) ++ (if k.kind = 5 then be 2 k.part.toNat else [])))

theorem be_length (k n : Nat) : (be k n).length = k := by
  induction k generalizing n with
  | zero => rfl
  | succ k ih => simp [be, ih]
theorem be_inj (k : Nat) : ∀ a b, a < 256 ^ k → b < 256 ^ k → be k a = be k b → a = b := by
  induction k with
  | zero => intro a b ha hb _; simp at ha hb; omega
  | succ k ih =>
    intro a b ha hb h
    simp only [be] at h
    obtain ⟨h1, h2⟩ := List.append_inj h (by rw [be_length, be_length])
    rw [Nat.pow_succ] at ha hb
    have h3 := ih (a / 256) (b / 256) (by omega) (by omega) h1
    have h4 : a % 256 = b % 256 := by
      have h5 : UInt8.ofNat (a % 256) = UInt8.ofNat (b % 256) := by simpa using h2
      have h6 := congrArg UInt8.toNat h5
      simp [UInt8.toNat_ofNat'] at h6
      omega
    omega
theorem pre_same {a b r s : Bs} (hl : a.length = b.length) (h : a ++ r <+: b ++ s) : a = b ∧ r <+: s := by
  obtain ⟨t, ht⟩ := h
  rw [List.append_assoc] at ht
  obtain ⟨h1, h2⟩ := List.append_inj ht hl
  exact ⟨h1, ⟨t, h2⟩⟩
theorem pre_cons {c d : UInt8} {r s : Bs} (h : c :: r <+: d :: s) : c = d ∧ r <+: s := by
  obtain ⟨t, ht⟩ := h
  simp at ht
  exact ⟨ht.1, ⟨t, ht.2⟩⟩
theorem pre_bucket : ∀ {x y r s : Bs}, (∀ c ∈ x, c ≠ 0) → (∀ c ∈ y, c ≠ 0) → x ++ 0 :: r <+: y ++ 0 :: s → x = y ∧ r <+: s
  | [], [], _, _, _, _, h => ⟨rfl, (pre_cons h).2⟩
  | [], d :: y, _, _, _, hy, h => absurd (pre_cons h).1.symm (hy d (by simp))
  | c :: x, [], _, _, hx, _, h => absurd (pre_cons h).1 (hx c (by simp))
  | c :: x, d :: y, _, _, hx, hy, h => by
    obtain ⟨rfl, h2⟩ := pre_cons h
    obtain ⟨rfl, h3⟩ := pre_bucket (fun e he => hx e (List.mem_cons_of_mem _ he)) (fun e he => hy e (List.mem_cons_of_mem _ he)) h2
    exact ⟨rfl, h3⟩
theorem pre_esc : ∀ {x y r s : Bs}, esc x ++ 0 :: 1 :: r <+: esc y ++ 0 :: 1 :: s → x = y ∧ r <+: s
  | [], [], _, _, h => ⟨rfl, (pre_cons (pre_cons h).2).2⟩
  | [], d :: y, _, _, h => by
    unfold esc at h
    split at h
    · exact absurd (pre_cons (pre_cons h).2).1 (by decide)
    · rename_i hd; exact absurd (pre_cons h).1.symm hd
  | c :: x, [], _, _, h => by
    unfold esc at h
    split at h
    · exact absurd (pre_cons (pre_cons h).2).1 (by decide)
    · rename_i hc; exact absurd (pre_cons h).1 hc
  | c :: x, d :: y, _, _, h => by
    unfold esc at h
    split at h
    · rename_i hc
      split at h
      · rename_i hd
        obtain ⟨rfl, h3⟩ := pre_esc (pre_cons (pre_cons h).2).2
        exact ⟨by rw [hc, hd], h3⟩
      · rename_i hd; exact absurd (pre_cons h).1.symm hd
    · rename_i hc
      split at h
      · exact absurd (pre_cons h).1 hc
      · obtain ⟨rfl, h2⟩ := pre_cons h
        obtain ⟨rfl, h3⟩ := pre_esc h2
        exact ⟨rfl, h3⟩

theorem okCs_nz : ∀ c ∈ okCs, c ≠ 0 := by decide
theorem bucket_nz {l : Bs} (h : bucketL l = true) : ∀ c ∈ l, c ≠ 0 := fun c hc => by
  unfold bucketL at h
  simp only [Bool.and_eq_true] at h
  have := List.all_eq_true.1 h.2 c hc
  exact okCs_nz c (by simpa using this)

/-- What holds of a key that may be. -/
theorem may_facts {k : Key} (h : mayB k = true) : (1 ≤ k.kind ∧ k.kind ≤ 6) ∧ (hasB k.kind = true → bucketL k.bucket.data.toList = true) ∧ (hasB k.kind = false → k.bucket = ⟨#[]⟩) ∧ (k.kind = 3 → objectL k.name.data.toList = true) ∧ (k.kind ≠ 3 → k.name = ⟨#[]⟩) ∧
    (hasN k.kind = false → k.n = 0) ∧ (k.kind = 5 → 1 ≤ k.part ∧ k.part ≤ 1000) ∧ (k.kind ≠ 5 → k.part = 0) := by
  unfold mayB at h
  simp only [Bool.and_eq_true, decide_eq_true_eq, Bool.or_eq_true] at h
  obtain ⟨⟨⟨⟨h1, h2⟩, h3⟩, h4⟩, h5⟩ := h
  refine ⟨h1, fun e => ?_, fun e => ?_, fun e => ?_, fun e => ?_, fun e => ?_, fun e => ?_, fun e => ?_⟩
  · rw [if_pos e] at h2; exact h2
  · rw [if_neg (by simp [e])] at h2; simpa using h2
  · rw [if_pos e] at h3; exact h3
  · rw [if_neg e] at h3; simpa using h3
  · rcases h4 with h4 | h4
    · rw [e] at h4; cases h4
    · exact h4
  · rw [if_pos e] at h5; simpa using h5
  · rw [if_neg e] at h5; simpa using h5

theorem ba_ext {a b : ByteArray} (h : a.data.toList = b.data.toList) : a = b := ByteArray.ext (Array.toList_inj.1 h)

/-- No key's bytes are the beginning of another one's. -/
theorem enc_apart {a b : Key} (ha : mayB a = true) (hb : mayB b = true) (na : a.n ≤ top) (nb : b.n ≤ top) (h : encL a <+: encL b) : a = b := by
  obtain ⟨ka, a1, a2, _, a4, a5, a6, a7⟩ := may_facts ha
  obtain ⟨kb, b1, b2, _, b4, b5, b6, b7⟩ := may_facts hb
  obtain ⟨ak, ab, an, ann, ap⟩ := a
  obtain ⟨bk, bb, bn, bnn, bp⟩ := b
  simp only at *
  unfold encL at h
  obtain ⟨h0, h⟩ := pre_cons h
  have hk : ak = bk := by
    have := congrArg UInt8.toNat h0
    simp only [UInt8.toNat_ofNat'] at this
    omega
  subst hk
  simp only at h
  have e8 : (256 : Nat) ^ 8 = 18446744073709551616 := by decide
  have e2 : (256 : Nat) ^ 2 = 65536 := by decide
  have hB : ab = bb ∧ ((if ak = 3 then esc an.data.toList ++ [0, 1] ++ be 8 (top - ann) else if hasN ak then be 8 ann else []) ++ (if ak = 5 then be 2 ap.toNat else [])) <+: ((if ak = 3 then esc bn.data.toList ++ [0, 1] ++ be 8 (top - bnn) else if hasN ak then be 8 bnn else []) ++ (if ak = 5 then be 2 bp.toNat else [])) := by
    cases hh : hasB ak
    · rw [hh] at h a2 b2
      rw [a2 rfl, b2 rfl]
      exact ⟨rfl, by simpa using h⟩
    · rw [hh] at h a1 b1
      simp only [if_true, List.append_assoc, List.singleton_append] at h
      obtain ⟨h1, h2⟩ := pre_bucket (bucket_nz (a1 rfl)) (bucket_nz (b1 rfl)) h
      exact ⟨ba_ext h1, by simpa using h2⟩
  obtain ⟨eB, g⟩ := hB
  clear h h0 ha hb
  subst eB
  by_cases h3 : ak = 3
  · subst h3
    simp only [if_true, List.append_assoc, List.cons_append, List.nil_append] at g
    obtain ⟨h1, h2⟩ := pre_esc g
    obtain ⟨h3, _⟩ := pre_same (by rw [be_length, be_length]) h2
    have h4 := be_inj 8 _ _ (by unfold top; omega) (by unfold top; omega) h3
    have : ann = bnn := by unfold top at h4 na nb; omega
    rw [ba_ext h1, this, a7 (by decide), b7 (by decide)]
  · rw [if_neg h3, if_neg h3] at g
    rw [a4 h3, b4 h3]
    have hN : ann = bnn ∧ (if ak = 5 then be 2 ap.toNat else []) <+: (if ak = 5 then be 2 bp.toNat else []) := by
      cases hh : hasN ak
      · rw [hh] at g a5 b5
        rw [a5 rfl, b5 rfl]
        exact ⟨rfl, by simpa using g⟩
      · rw [hh] at g
        simp only [if_true] at g
        obtain ⟨h1, h2⟩ := pre_same (by rw [be_length, be_length]) g
        exact ⟨be_inj 8 _ _ (by unfold top at na; omega) (by unfold top at nb; omega) h1, h2⟩
    obtain ⟨eN, g2⟩ := hN
    clear g
    subst eN
    by_cases h5 : ak = 5
    · rw [if_pos h5, if_pos h5] at g2
      have h6 : be 2 ap.toNat ++ [] <+: be 2 bp.toNat ++ [] := by simpa using g2
      obtain ⟨h1, _⟩ := pre_same (by rw [be_length, be_length]) h6
      have h7 := a6 h5
      have h8 := b6 h5
      have h9 := be_inj 2 _ _ (by omega) (by omega) h1
      have : ap = bp := by omega
      rw [this]
    · rw [a7 h5, b7 h5]

end Go.Proofs.YtaeiahkomdpcoaaDoor.Name
end

section
/- The walks of package name: word, Object, Bucket, May. -/
namespace Go.Proofs.YtaeiahkomdpcoaaDoor.Name
open Go.RowKit Go.Shelf

def bs (l : List UInt8) : ByteArray := ⟨l.toArray⟩
theorem bs_size (l : List UInt8) : (bs l).size = l.length := by simp [bs, ByteArray.size]
theorem size_list (s : ByteArray) : s.data.toList.length = s.size := by simp
theorem bs_append (a b : List UInt8) : bs a ++ bs b = bs (a ++ b) := by
  apply ByteArray.ext
  apply Array.toList_inj.1
  simp [bs]
theorem bs_list (s : ByteArray) : bs s.data.toList = s := rfl
theorem byte_at (s : ByteArray) (i : Nat) (h : i < s.size) : s.data.toList[i]? = some s[i] := by
  rw [List.getElem?_eq_getElem (by simpa using h)]; rfl
theorem getD_at (s : ByteArray) (i : Nat) (h : i < s.size) : s.data.toList.getD i 0 = s[i] := by
  rw [List.getD, byte_at s i h]; rfl
theorem empty_iff (s : ByteArray) : s.toList.isEmpty = decide (s = ⟨#[]⟩) := by
  rw [ByteArray.toList_eq]
  by_cases h : s = ⟨#[]⟩
  · subst h; rfl
  · rw [decide_eq_false h]
    cases hl : s.data.toList with
    | nil => exact absurd (ByteArray.ext (Array.toList_inj.1 (by simpa using hl))) h
    | cons a l => rfl

def Key.val (k : Key) : Value := .agg #[.int .u8 (k.kind : Int), .string k.bucket, .string k.name, .int .u64 (k.n : Int), .int .i64 k.part]

set_option maxRecDepth 100000 in
theorem word_calls (c : Nat) (w : World) : Calls Tryd.prog 51 #[.int .u8 (c : Int)] w fun e w' => e = .returned (.bool (wordB c)) ∧ w' = w := by
  have h : (97 ≤ c ∧ c ≤ 122 ∧ wordB c = true) ∨ (97 ≤ c ∧ 122 < c ∧ wordB c = false) ∨ (c < 97 ∧ 57 < c ∧ wordB c = false) ∨ (48 ≤ c ∧ c ≤ 57 ∧ wordB c = true) ∨ (c < 48 ∧ wordB c = false) := by
    unfold wordB
    simp only [Bool.or_eq_true, decide_eq_true_eq, Bool.or_eq_false_iff, decide_eq_false_iff_not]
    omega
  rcases h with ⟨h1, h2, h3⟩ | ⟨h1, h2, h3⟩ | ⟨h1, h2, h3⟩ | ⟨h1, h2, h3⟩ | ⟨h1, h3⟩
  all_goals
    rw [h3]
    clear h3
    go_enter Tryd.func51, Tryd.ntmps51
    go_wp2
    go_ret
    exact ⟨by simp <;> omega, rfl⟩

set_option maxRecDepth 100000 in
theorem object_calls (s : ByteArray) (w : World) (hs : s.size ≤ 9223372036854775807) : Calls Tryd.prog 20 #[.string s] w fun e w' => e = .returned (.bool (objectL s.data.toList)) ∧ w' = w := by
  have h : (s.size < 1 ∧ objectL s.data.toList = false) ∨ (1 ≤ s.size ∧ s.size ≤ 200 ∧ objectL s.data.toList = true) ∨ (1 ≤ s.size ∧ 200 < s.size ∧ objectL s.data.toList = false) := by
    unfold objectL
    rw [size_list]
    simp only [decide_eq_true_eq, decide_eq_false_iff_not]
    omega
  rcases h with ⟨h1, h3⟩ | ⟨h1, h2, h3⟩ | ⟨h1, h2, h3⟩
  all_goals
    rw [h3]
    clear h3
    go_enter Tryd.func20, Tryd.ntmps20
    go_wp2
    go_ret
    exact ⟨by simp <;> omega, rfl⟩

end Go.Proofs.YtaeiahkomdpcoaaDoor.Name
end
