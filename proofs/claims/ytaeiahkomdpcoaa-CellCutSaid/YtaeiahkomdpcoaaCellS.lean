/- The walk of package cell's Rows at two pieces. -/
import Derived.Test.YtaeiahkomdpcoaaCellR
namespace Go.Proofs.Ytaeiahkomdpcoaa.Cell
open Go.RowKit Go.Maps Go.Sort Go.Shelf Go.Proofs.Ytaeiahkomdpcoaa.Num Go.Proofs.Ytaeiahkomdpcoaa.Wire

def psW : List Piece := [⟨7, 0, 1⟩, ⟨2, 0, 2⟩]
def cW : Cel := ⟨5, 0, false, ⟨#[]⟩, ⟨3, ⟨#[]⟩, psW⟩⟩
theorem zero_int (w : World) : (zeroValue 3).run Try.prog w = .ok (.int .i64 0) w := by kernel_rfl
/-- The map after so many rows. -/
def DK (k : Nat) (D : DataW Unit) : Prop := (k = 0 ∧ D = .map []) ∨ (k = 1 ∧ ∃ x : Int, D = (DataW.map []).put (.int .i64 7) (.lit (.int .i64 x))) ∨ (k = 2 ∧ ∃ x y : Int, D = ((DataW.map []).put (.int .i64 7) (.lit (.int .i64 x))).put (.int .i64 2) (.lit (.int .i64 y)))
theorem two_sorted (ss : List Int) (h : ss.Perm [2, 7]) : ss.mergeSort (fun x y => decide (x ≤ y)) = [2, 7] := by
  have h1 := (List.mergeSort_perm ss (fun x y => decide (x ≤ y))).trans h
  have h2 : (ss.mergeSort (fun x y => decide (x ≤ y))).Pairwise (fun x y => decide (x ≤ y) = true) :=
    List.pairwise_mergeSort (fun a b c hab hbc => by simp at hab hbc ⊢; omega) (fun a b => by simp; omega) ss
  obtain ⟨r, hr⟩ : ∃ r, r = ss.mergeSort (fun x y => decide (x ≤ y)) := ⟨_, rfl⟩
  rw [← hr] at h1 h2 ⊢
  clear hr
  have hl := h1.length_eq
  match r, hl, h1, h2 with
  | [x, y], _, h1, h2 =>
    have hx : x ∈ ([2, 7] : List Int) := h1.mem_iff.1 (by simp)
    have hy : y ∈ ([2, 7] : List Int) := h1.mem_iff.1 (by simp)
    have h3 : (2 : Int) ∈ [x, y] := h1.mem_iff.2 (by simp)
    have h7 : (7 : Int) ∈ [x, y] := h1.mem_iff.2 (by simp)
    simp at hx hy h3 h7 h2
    have : x = 2 ∧ y = 7 := by omega
    rw [this.1, this.2]
theorem keys_two (x y : Int) : intKeys (((DataW.map []).put (.int .i64 7) (.lit (.int .i64 x))).put (.int .i64 2) (.lit (.int .i64 y)) : DataW Unit) = [2, 7] ∧ Maps.size (((DataW.map []).put (.int .i64 7) (.lit (.int .i64 x))).put (.int .i64 2) (.lit (.int .i64 y)) : DataW Unit) = 2 := by
  constructor <;> rfl


set_option maxHeartbeats 3200000 in
set_option maxRecDepth 100000 in
theorem rows_calls (A : Option Addr) (cp : Nat) (w : World) (hP : PcsAt w A psW) :
    Calls Try.prog 42 #[.agg (cvs cW A cp)] w fun e w' => ∃ g cap, e = .returned (.slice (some ⟨g, 0, none⟩) 2 cap) ∧ w'.cell? ⟨g, 0, none⟩ = some (.int .i64 2) ∧ w'.cell? ⟨g, 1, none⟩ = some (.int .i64 7) ∧ Below w.heap.size w w' := by
  have hmm := @run_makeMap Try.prog
  have HAB : Hid (∀ ad, A = some ad → ad.block < w.heap.size) := fun ad h => by
    obtain ⟨ad', h1, h2, _⟩ := hP 0 ⟨7, 0, 1⟩ rfl
    rw [h] at h1; cases h1; exact h2
  rw [show cvs cW A cp = #[.int .u8 5, .int .u64 0, .bool false, .string ⟨#[]⟩, .int .i64 3, .string ⟨#[]⟩, .slice A 2 cp] from rfl]
  have b0 := below_one w (.cells #[.int .u8 5, .int .u64 0, .bool false, .string ⟨#[]⟩, .int .i64 3, .string ⟨#[]⟩, .slice A 2 cp] 50)
  have R0 := row_new w #[.int .u8 5, .int .u64 0, .bool false, .string ⟨#[]⟩, .int .i64 3, .string ⟨#[]⟩, .slice A 2 cp]
  have hs1 : (w.alloc (.cells #[.int .u8 5, .int .u64 0, .bool false, .string ⟨#[]⟩, .int .i64 3, .string ⟨#[]⟩, .slice A 2 cp] 50)).heap.size = w.heap.size + 1 := by simp
  have b1 := below_alloc b0 (.map #[] 0)
  have R1 : Row ((w.alloc (.cells #[.int .u8 5, .int .u64 0, .bool false, .string ⟨#[]⟩, .int .i64 3, .string ⟨#[]⟩, .slice A 2 cp] 50)).alloc (.map #[] 0)) w.heap.size #[.int .u8 5, .int .u64 0, .bool false, .string ⟨#[]⟩, .int .i64 3, .string ⟨#[]⟩, .slice A 2 cp] := R0.below (below_one _ _)
  have P1 := (hP.below b0).below (below_one _ (.map #[] 0))
  have M1 : ((w.alloc (.cells #[.int .u8 5, .int .u64 0, .bool false, .string ⟨#[]⟩, .int .i64 3, .string ⟨#[]⟩, .slice A 2 cp] 50)).alloc (.map #[] 0)).ownsMap Try.prog 3 (plainElem Try.prog 3) (w.heap.size + 1) 0 (DataW.map (H := Unit) []) := by
    have := World.ownsMap_made (H := Unit) (w.alloc (.cells #[.int .u8 5, .int .u64 0, .bool false, .string ⟨#[]⟩, .int .i64 3, .string ⟨#[]⟩, .slice A 2 cp] 50)) Try.prog 3 (plainElem Try.prog 3)
    rwa [hs1] at this
  have law : Keyed Try.prog 3 := int_keyed Try.underlying3
  clear hP b0 R0 hs1
  go_enter Try.func42, Try.ntmps42
  go_upto_region 2 with fail
  generalize (w.alloc (.cells #[.int .u8 5, .int .u64 0, .bool false, .string ⟨#[]⟩, .int .i64 3, .string ⟨#[]⟩, .slice A 2 cp] 50)).alloc (.map #[] 0) = W2 at b1 R1 P1 M1 ⊢
  obtain ⟨p0, p1, p2, p3, p4, p5, p6⟩ := R1.c
  clear hmm
  go_wp2_with fail
  go_loopw [11] (fun iv wr => ∃ (k : Nat) (D : DataW Unit), k ≤ 2 ∧ iv = .int .i64 (k : Int) ∧ PcsAt wr A psW ∧ DK k D ∧ wr.ownsMap Try.prog 3 (plainElem Try.prog 3) (w.heap.size + 1) k D ∧ Below w.heap.size w wr) (fun iv _ => 2 - (intOf iv).toNat)
  case atStart => exact ⟨0, .map [], by omega, rfl, P1, .inl ⟨rfl, rfl⟩, M1, b1⟩
  case round =>
    obtain ⟨k, D, hk, rfl, hPr, hD, hown, hb⟩ := hrel
    by_cases hlt : k < 2
    · have hkl : k < psW.length := hlt
      obtain ⟨ad, rfl, had, c0, c1, c2⟩ := hPr.at_ hkl
      obtain ⟨p, hp⟩ : ∃ p, p = psW[k]'hkl := ⟨_, rfl⟩
      rw [← hp] at c0 c1 c2
      have hrow : (Lit.int .i64 p.row).wf = true ∧ ∀ x : Int, DK (k + 1) (D.put (.int .i64 p.row) (.lit (.int .i64 x))) := by
        rcases hD with ⟨rfl, rfl⟩ | ⟨rfl, x, rfl⟩ | ⟨rfl, _⟩
        · rw [hp]; exact ⟨by show (Lit.int .i64 7).wf = true; decide, fun x => .inr (.inl ⟨rfl, x, rfl⟩)⟩
        · rw [hp]; exact ⟨by show (Lit.int .i64 2).wf = true; decide, fun y => .inr (.inr ⟨rfl, x, y, rfl⟩)⟩
        · omega
      clear hp hkl
      obtain ⟨hwf, hstep⟩ := hrow
      obtain ⟨r, st, ln⟩ := p
      simp only at c0 c1 c2 hwf hstep
      have hkey : keyOf Try.prog 3 (.int .i64 r) = some (.int .i64 r) := keyOf_int_mk Try.underlying3 hwf
      have HST := Lib.hid hstep
      have hown2 := hown.alloc (.cells #[.int .i64 r, .int .u64 (st : Int), .int .i64 ln] 75)
      have hb2 := below_alloc hb (.cells #[.int .i64 r, .int .u64 (st : Int), .int .i64 ln] 75)
      have hP2 := hPr.below (below_one wr (.cells #[.int .i64 r, .int .u64 (st : Int), .int .i64 ln] 75))
      have hmb : ∀ ad', some ad = some ad' → ad'.block ≠ w.heap.size + 1 := fun ad' e => by have := HAB.out ad' e; omega
      clear hD hstep hown
      go_wp2_with (first
        | (at_lookup; refine wpList_lookup_own_int _ rfl _ _ 82 rfl 3 3 .i64 law Try.underlying82 Try.underlying3 (zero_int _) (w.heap.size + 1) k _ rfl hown2 _ _ rfl hkey ?_; intro c hat hwc)
        | (at_mapUpdate; refine wpList_mapUpdate_own _ rfl _ _ _ 82 rfl 3 3 law Try.underlying82 _ (w.heap.size + 1) k _ rfl hown2 (by unfold maxLen; omega) _ _ _ rfl rfl hkey _ [] (plainElem_int Try.underlying3 (wrap64_wf _)) ?_; intro w1 hown1 hgrow1))
      have hP3 := hP2.grown hmb hgrow1
      have hb3 := hb2.grown hgrow1 hb2.size (fun j hj => by cases hj; omega)
      go_roundw
      case rel => exact ⟨k + 1, _, by omega, by go_num, hP3, HST.out _, hown1, hb3⟩
      case measure => simp [intOf]; omega
    · obtain rfl : k = 2 := by omega
      obtain ⟨x, y, rfl⟩ : ∃ x y : Int, D = ((DataW.map []).put (.int .i64 7) (.lit (.int .i64 x))).put (.int .i64 2) (.lit (.int .i64 y)) := by
        rcases hD with ⟨h, _⟩ | ⟨h, _⟩ | ⟨_, h⟩
        · omega
        · omega
        · exact h
      obtain ⟨hk2, hsz⟩ := keys_two x y
      have hS := sorted_calls (w.heap.size + 1) 2 wr.heap.size _ (plainElem Try.prog 3) (wr.alloc (.cells #[.map (some (w.heap.size + 1))] 82)) (by simp) (by simp) (hown.alloc (.cells #[.map (some (w.heap.size + 1))] 82)) (by rw [hsz]; decide) (by rw [hsz]; decide)
      rw [hk2] at hS
      have HS := Lib.hid hS
      clear hS hown hD hk2 hsz
      go_wp2_with fail
      refine (keys_calls _ _).mono ?_
      rintro e w3 ⟨rfl, rfl⟩
      go_wp2_with fail
      refine HS.out.mono ?_
      rintro e w4 ⟨v, ss, rfl, hperm, hrow, hnil, hb4⟩
      have hso := two_sorted ss hperm
      have hlen : ss.length = 2 := hperm.length_eq
      rw [hso, hlen] at hrow
      have hb5 := below_of (below_alloc hb (.cells #[.map (some (w.heap.size + 1))] 82)) hb4
      have hform : ∃ g cap, v = .slice (some ⟨g, 0, none⟩) 2 cap ∧ w4.cell? ⟨g, 0, none⟩ = some (.int .i64 2) ∧ w4.cell? ⟨g, 1, none⟩ = some (.int .i64 7) := by
        rcases hrow.2 with ⟨_, h0⟩ | ⟨g, cap, cur, rfl, _⟩
        · exact absurd h0 (by decide)
        · refine ⟨g, cap, rfl, ?_, ?_⟩
          · have := hrow.cells (g := g) rfl 0 (.int .i64 2) rfl
            rwa [show (⟨g, 0, none⟩ : Addr).add 0 = ⟨g, 0, none⟩ by unfold Addr.add; split <;> simp_all] at this
          · have := hrow.cells (g := g) rfl 1 (.int .i64 7) rfl
            rwa [show (⟨g, 0, none⟩ : Addr).add 1 = ⟨g, 1, none⟩ by unfold Addr.add; split <;> simp_all] at this
      obtain ⟨g, cap, rfl, h0, h1⟩ := hform
      go_wp2_with fail
      go_ret
      exact ⟨g, cap, rfl, h0, h1, hb5⟩

end Go.Proofs.Ytaeiahkomdpcoaa.Cell
