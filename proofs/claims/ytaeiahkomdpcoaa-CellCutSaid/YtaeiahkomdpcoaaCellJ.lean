/- The walk of package cell's Decode. -/
import Derived.Test.YtaeiahkomdpcoaaCellI
namespace Go.Proofs.Ytaeiahkomdpcoaa.Cell
open Go.RowKit Go.Proofs.Ytaeiahkomdpcoaa.Num Go.Proofs.Ytaeiahkomdpcoaa.Wire

theorem new_calls (s : ByteArray) (w : World) : Calls Try.prog 15 #[.string s] w fun e w' => e = .returned (.pointer (some ⟨w.heap.size, 0, none⟩)) ∧ w' = w.alloc (.cells #[.string s, .int .i64 0, .bool true] 42) := by
  go_enter Try.func15, Try.ntmps15
  go_wp2
  go_ret
  exact ⟨rfl, rfl⟩
theorem rd_new (s : ByteArray) (w : World) : RdAt (w.alloc (.cells #[.string s, .int .i64 0, .bool true] 42)) w.heap.size (s.data.toList, 0) := (MapKept.heap_alloc w _).1
theorem Row.grown {w w' : World} {b p : Nat} {cs : Array Value} (h : Row w b cs) (hne : b ≠ p) (hg : w.grownBy w' (some p)) : Row w' b cs := (hg.block _ h.lt (by simpa using hne)).trans h
theorem below_grown {w W1 wx : World} {p : Nat} (h : Below w.heap.size w W1) (hp : w.heap.size ≤ p) (hg : W1.grownBy wx (some p)) : Below w.heap.size w wx :=
  ⟨hg.os.trans h.os, hg.tape.trans h.tape, hg.output.trans h.output, Nat.le_trans h.size hg.size, fun k hk => (hg.block k (Nat.lt_of_lt_of_le hk h.size) (by simp; omega)).trans (h.block k hk)⟩

/-- The reader's words of a cell, once the kind is read. -/
def decOk (s : Bs) : Prop := (endR (cellR s).2).2 = 0 ∧ mayC (cellR s).1 ∧ cellW (cellR s).1 = s
def DecOf (s : Bs) (w : World) (e : Ending) (w' : World) : Prop := ∃ (c : Cel) (A : Option Addr) (cp : Nat) (E : Int), e = .returned (.tuple #[.agg (cvs c A cp), .int .i64 E]) ∧ PcsAt w' A c.body.pcs ∧ ((decOk s ∧ c = (cellR s).1 ∧ E = 0) ∨ (¬ decOk s ∧ c = Cel.zero ∧ E = 8)) ∧ Below w.heap.size w w'

theorem unbR_len (st : St) : (unbR st).2.1.length ≤ st.1.length := by
  have hp : ∀ (n : Nat) (st : St), (pcsR n st).2.1.length ≤ st.1.length := fun n => by
    induction n with
    | zero => intro st; exact Nat.le_refl _
    | succ n ih =>
      intro st
      unfold pcsR
      split
      · exact Nat.le_refl _
      · have h1 := (numR_len 4096 st).1
        have h2 := (numR_len big (numR 4096 st).2).1
        have h3 := (numR_len 32768 (numR big (numR 4096 st).2).2).1
        have h4 := ih (numR 32768 (numR big (numR 4096 st).2).2).2
        simp only
        omega
  have h1 := (numR_len 32768 st).1
  have h2 := boolR_len (numR 32768 st).2
  unfold unbR
  split
  · have h3 := (textR_len 64 (boolR (numR 32768 st).2).2).1
    simp only; omega
  · have h3 := (numR_len 512 (boolR (numR 32768 st).2).2).1
    have h4 := hp (numR 512 (boolR (numR 32768 st).2).2).1 (numR 512 (boolR (numR 32768 st).2).2).2
    simp only; omega

theorem pcsR_count : ∀ (n : Nat) (st : St), (pcsR n st).1.length ≤ n
  | 0, _ => Nat.le_refl _
  | n + 1, st => by
    unfold pcsR
    split
    · exact Nat.zero_le _
    · simp only [List.length_cons]
      have := pcsR_count n (numR 32768 (numR big (numR 4096 st).2).2).2
      omega
theorem unbR_count (st : St) : (unbR st).1.pcs.length ≤ 512 := by
  unfold unbR
  split
  · exact Nat.zero_le _
  · have h1 := pcsR_count (numR 512 (boolR (numR 32768 st).2).2).1 (numR 512 (boolR (numR 32768 st).2).2).2
    have h2 := (numR_len 512 (boolR (numR 32768 st).2).2).2
    simp only; omega
theorem cellR2_count (k : Nat) (st : St) : (cellR2 k st).1.body.pcs.length ≤ 512 ∧ (cellR2 k st).1.kind = k := by
  unfold cellR2
  split
  · exact ⟨Nat.zero_le _, rfl⟩
  · split
    · exact ⟨unbR_count _, rfl⟩
    · split
      · split
        · exact ⟨Nat.zero_le _, rfl⟩
        · exact ⟨unbR_count _, rfl⟩
      · exact ⟨Nat.zero_le _, rfl⟩
theorem results_cell2 {P : Program} {fn : Func} {p u : Tmp} {ty : TypeId} (h : fn.results = #[.cell p ty, .tmp u]) (tmps : Array Value) (w : World) (g : Nat) (t : TypeId) (cs : Array Value) (fr : Nat × Nat) (d : TypeDesc)
    (hp : tmps.getD p undef = .pointer (some ⟨g, 0, none⟩)) (hg : w.heap[g]? = some (.cells cs t fr))
    (hu : P.underlying ty = some d) (hd : (match d with | .struct _ | .array _ _ => true | _ => false) = true) (hi : (P.info? ty).map (·.size) = some cs.size) :
    (results fn tmps).run P w = .ok (.tuple #[.agg cs, tmps.getD u undef]) w := by
  rw [results_cell_tmp h, hp]
  have e : (asAddr (.pointer (some ⟨g, 0, none⟩))).run P w = .ok ⟨g, 0, none⟩ w := rfl
  rw [e]
  simp only [Result.andThen, run_loadVar_row w g t ty cs fr d hg hu hd hi]

set_option maxHeartbeats 3200000 in
set_option maxRecDepth 100000 in
theorem decode_calls (s : ByteArray) (w : World) (hs : s.size ≤ 50000) : Calls Try.prog 27 #[.string s] w fun e w' => DecOf s.data.toList w e w' := by
  have hsl := size_list s
  obtain ⟨cf, qcf⟩ : ∃ x, x = cellR s.data.toList := ⟨_, rfl⟩
  have QF := Lib.hid qcf
  unfold cellR at qcf
  have l1 := numR_len 6 (s.data.toList, 0)
  have N1 := fun (W : World) (p : Nat) (h : RdAt W p (s.data.toList, 0)) => num_calls p 6 (s.data.toList, 0) W h (by simp only; omega)
  obtain ⟨a1, qa1⟩ : ∃ x, x = numR 6 (s.data.toList, 0) := ⟨_, rfl⟩
  rw [← qa1] at qcf N1 l1
  clear qa1
  obtain ⟨k, st⟩ := a1
  simp only at qcf N1 l1
  have hk6 := l1.2
  have hst : st.1.length ≤ 50000 := by omega
  have QC := Lib.hid qcf
  have hcnt := cellR2_count k st
  rw [← qcf] at hcnt
  have HCN := Lib.hid hcnt
  clear hcnt
  have G1 := Lib.hid N1
  have hkw : IntKind.u8.wrap (k : Int) = (k : Int) := IntWalk.u8_in _ (by omega)
  have b0 := below_one w (.cells #[.int .u8 0, .int .u64 0, .bool false, .string ⟨#[]⟩, .int .i64 0, .string ⟨#[]⟩, .slice none 0 0] 50)
  have R0 := row_new w #[.int .u8 0, .int .u64 0, .bool false, .string ⟨#[]⟩, .int .i64 0, .string ⟨#[]⟩, .slice none 0 0]
  clear qcf N1 l1 hs hsl
  go_enter Try.func27, Try.ntmps27
  go_upto_region 1 with fail
  go_cut [4] from 8 (fun s4 wx => ∃ p : Nat, s4 = .pointer (some ⟨p, 0, none⟩) ∧ w.heap.size < p ∧ Row wx w.heap.size #[.int .u8 0, .int .u64 0, .bool false, .string ⟨#[]⟩, .int .i64 0, .string ⟨#[]⟩, .slice none 0 0] ∧ RdAt wx p (s.data.toList, 0) ∧ Below w.heap.size w wx)
  case first =>
    go_wp2_with fail
    refine (new_calls s _).mono ?_
    rintro e w2 ⟨rfl, rfl⟩
    have R1 := R0.below (below_one _ (.cells #[.string s, .int .i64 0, .bool true] 42))
    have D1 := rd_new s (w.alloc (.cells #[.int .u8 0, .int .u64 0, .bool false, .string ⟨#[]⟩, .int .i64 0, .string ⟨#[]⟩, .slice none 0 0] 50))
    rw [show (w.alloc (.cells #[.int .u8 0, .int .u64 0, .bool false, .string ⟨#[]⟩, .int .i64 0, .string ⟨#[]⟩, .slice none 0 0] 50)).heap.size = w.heap.size + 1 by simp] at D1
    have b2 := below_alloc b0 (.cells #[.string s, .int .i64 0, .bool true] 42)
    go_wp2_with fail
    go_meet
    case rel => exact ⟨_, rfl, by omega, R1, D1, b2⟩
  case rest =>
    obtain ⟨p, rfl, hp, R1, D1, b1⟩ := hcut
    rename World => W1
    clear R0 b0
    have RG0 : RG W1 p (s.data.toList, 0) W1 := ⟨D1, ⟨rfl, rfl, rfl, Nat.le_refl _, fun _ _ _ => rfl⟩⟩
    have hpw := D1.lt
    have hne2 : w.heap.size ≠ p := by omega
    go_upto_region 2 with fail
    go_cut [5] from 8 (fun s5 wx => ∃ g : Nat, s5 = .pointer (some ⟨g, 0, none⟩) ∧ W1.heap.size ≤ g ∧ Row wx g #[.int .u8 (k : Int), .int .u64 0, .bool false, .string ⟨#[]⟩, .int .i64 0, .string ⟨#[]⟩, .slice none 0 0] ∧ Row wx w.heap.size #[.int .u8 0, .int .u64 0, .bool false, .string ⟨#[]⟩, .int .i64 0, .string ⟨#[]⟩, .slice none 0 0] ∧ RG W1 p st wx)
    case first =>
      go_wp2_with fail
      refine (G1.out _ p D1).mono ?_
      rintro e w3 ⟨rfl, hr3, hg3⟩
      have R3 := RG0.step hr3 hg3
      have Z3 := R1.grown hne2 hg3
      have b3 := below_one w3 (.cells #[.int .u8 (k : Int), .int .u64 0, .bool false, .string ⟨#[]⟩, .int .i64 0, .string ⟨#[]⟩, .slice none 0 0] 50)
      have R4 := R3.below b3
      have Z4 := Z3.below b3
      have C4 := row_new w3 #[.int .u8 (k : Int), .int .u64 0, .bool false, .string ⟨#[]⟩, .int .i64 0, .string ⟨#[]⟩, .slice none 0 0]
      have hle := R3.2.size
      go_wp2_with fail
      go_meet
      case rel => exact ⟨w3.heap.size, rfl, hle, C4, Z4, R4⟩
    case rest =>
      obtain ⟨g, rfl, hg, C1, Z1, R2⟩ := hcut
      have hgp : g ≠ p := by omega
      clear R1 D1 RG0 G1
      go_upto_region 3 with fail
      go_cut [15] from 8 (fun s15 wx => s15 = .int .u8 (k : Int) ∧ wx = wc)
      case first =>
        obtain ⟨p0, p1, p2, p3, p4, p5, p6⟩ := C1.c
        go_wp2_with fail
        go_meet
        case rel => exact ⟨rfl, rfl⟩
      case rest =>
        obtain ⟨rfl, rfl⟩ := hcut
        obtain ⟨p0, p1, p2, p3, p4, p5, p6⟩ := C1.c
        have f1 := C1.f 1
        have f2 := C1.f 2
        have f3 := C1.f 3
        have f4 := C1.f 4
        have f5 := C1.f 5
        have f6 := C1.f 6
        have hgl := C1.lt
        have hg0 : W1.heap.size ≤ g := hg
        have hgw : g ≠ w.heap.size := by omega
        have hpl : p < wc.heap.size := R2.1.lt
        rename (∀ (a : Act) (w : World), Code.wp _ (Code.block _ _) _ a w → _) => hk
        refine hk _ _ ?_
        clear hk
        go_cut [] from 8 (fun wx => ∃ (A : Option Addr) (cp : Nat), Row wx g (cvs cf.1 A cp) ∧ PcsAt wx A cf.1.body.pcs ∧ (∀ ad, A = some ad → g < ad.block) ∧ Row wx w.heap.size #[.int .u8 0, .int .u64 0, .bool false, .string ⟨#[]⟩, .int .i64 0, .string ⟨#[]⟩, .slice none 0 0] ∧ RG W1 p cf.2 wx)
        case first =>
          have qc := QC.out
          unfold cellR2 at qc
          clear QF QC HCN
          by_cases k4 : k = 4
          · subst k4
            rw [if_pos rfl] at qc
            have G4 := Lib.hid (fun (W : World) (h : RdAt W p st) => text_calls p 200 st W h (by omega) (by omega))
            obtain ⟨u4, qu4⟩ : ∃ x, x = textR 200 st := ⟨_, rfl⟩
            rw [← qu4] at qc G4
            clear qu4
            obtain ⟨tt, su⟩ := u4
            simp only at qc G4
            have QQ := Lib.hid qc
            clear qc
            go_wp2_with fail
            refine (G4.out _ R2.1).mono ?_
            rintro e w5 ⟨rfl, hr5, hg5⟩
            have R5 := R2.step hr5 hg5
            have C5 := C1.grown hgp hg5
            have Z5 := Z1.grown hne2 hg5
            have R6 := R5.set ⟨g, 3, none⟩ hg0 hgp (.string (bs tt))
            have Z6 := Z5.other ⟨g, 3, none⟩ hgw (.string (bs tt))
            have C6 : Row (w5.setCell ⟨g, 3, none⟩ (.string (bs tt))) g #[.int .u8 4, .int .u64 0, .bool false, .string (bs tt), .int .i64 0, .string ⟨#[]⟩, .slice none 0 0] := by simpa using C5.set 3 (.string (bs tt))
            obtain ⟨x0, x1, x2, x3, x4, x5, x6⟩ := C5.c
            have h3 := C5.f 3
            go_wp2_with fail
            go_meet
            case rel => exact ⟨none, 0, by rw [QQ.out]; exact C6, by rw [QQ.out]; exact PcsAt.nil _ _, (fun ad h => by cases h), Z6, by rw [QQ.out]; exact R6⟩
          have n4 : ((k : Int) == 4) = false := by rw [beq_eq_false_iff_ne]; omega
          rw [if_neg k4] at qc
          by_cases k5 : k = 5
          · subst k5
            rw [if_pos rfl] at qc
            have G5 := Lib.hid (fun (W : World) (h : RdAt W p st) => unbody_calls p st W h (by omega))
            obtain ⟨u5, qu5⟩ : ∃ x, x = unbR st := ⟨_, rfl⟩
            rw [← qu5] at qc G5
            clear qu5
            obtain ⟨⟨bl, bi, bp⟩, su⟩ := u5
            simp only at qc G5
            have QQ := Lib.hid qc
            clear qc
            go_wp2_with fail
            refine (G5.out _ R2.1).mono ?_
            rintro e w5 ⟨A, cp, rfl, hPa, hAb, hRu⟩
            have R5 := R2.step hRu.1 hRu.2
            have C5 := C1.grown hgp hRu.2
            have Z5 := Z1.grown hne2 hRu.2
            simp only at hPa
            have hgA : ∀ ad, A = some ad → g < ad.block := fun ad h => Nat.lt_of_lt_of_le C1.lt (hAb ad h)
            have hgn : ∀ ad, A = some ad → ad.block ≠ g := fun ad h => by have := hgA ad h; omega
            have R6 := ((R5.set ⟨g, 4, none⟩ hg0 hgp (.int .i64 bl)).set ⟨g, 5, none⟩ hg0 hgp (.string bi)).set ⟨g, 6, none⟩ hg0 hgp (.slice A bp.length cp)
            have Z6 := ((Z5.other ⟨g, 4, none⟩ hgw (.int .i64 bl)).other ⟨g, 5, none⟩ hgw (.string bi)).other ⟨g, 6, none⟩ hgw (.slice A bp.length cp)
            have P6 := ((hPa.other ⟨g, 4, none⟩ hgn (.int .i64 bl)).other ⟨g, 5, none⟩ hgn (.string bi)).other ⟨g, 6, none⟩ hgn (.slice A bp.length cp)
            have C6 : Row (((w5.setCell ⟨g, 4, none⟩ (.int .i64 bl)).setCell ⟨g, 5, none⟩ (.string bi)).setCell ⟨g, 6, none⟩ (.slice A bp.length cp)) g #[.int .u8 5, .int .u64 0, .bool false, .string ⟨#[]⟩, .int .i64 bl, .string bi, .slice A bp.length cp] := by simpa using ((C5.set 4 (.int .i64 bl)).set 5 (.string bi)).set 6 (.slice A bp.length cp)
            obtain ⟨x0, x1, x2, x3, x4, x5, x6⟩ := C5.c
            have h4 := C5.f 4
            have h5 := C5.f 5
            have h6 := C5.f 6
            go_wp2_with fail
            go_meet
            case rel => exact ⟨A, cp, by rw [QQ.out]; exact C6, by rw [QQ.out]; exact P6, hgA, Z6, by rw [QQ.out]; exact R6⟩
          have n5 : ((k : Int) == 5) = false := by rw [beq_eq_false_iff_ne]; omega
          rw [if_neg k5] at qc
          by_cases k3 : k = 3
          · subst k3
            rw [if_pos rfl] at qc
            have lb := boolR_len st
            have G4 := Lib.hid (fun (W : World) (h : RdAt W p st) => boolR_calls p st W h (by omega))
            obtain ⟨u4, qu4⟩ : ∃ x, x = boolR st := ⟨_, rfl⟩
            rw [← qu4] at qc G4 lb
            clear qu4
            obtain ⟨gn, su⟩ := u4
            simp only at qc G4 lb
            cases gn
            · rw [if_neg (by decide)] at qc
              go_wp2_with fail
              refine (G4.out _ R2.1).mono ?_
              rintro e w4 ⟨rfl, hr4, hg4⟩
              have R3 := (R2.step hr4 hg4).set ⟨g, 2, none⟩ hg0 hgp (.bool false)
              have C2 := C1.grown hgp hg4
              have Z3 := (Z1.grown hne2 hg4).other ⟨g, 2, none⟩ hgw (.bool false)
              have C3 : Row (w4.setCell ⟨g, 2, none⟩ (.bool false)) g #[.int .u8 3, .int .u64 0, .bool false, .string ⟨#[]⟩, .int .i64 0, .string ⟨#[]⟩, .slice none 0 0] := by simpa using C2.set 2 (.bool false)
              obtain ⟨y0, y1, y2, y3, y4, y5, y6⟩ := C2.c
              have j2 := C2.f 2
              clear p0 p1 p2 p3 p4 p5 p6 f1 f2 f3 f4 f5 f6
              have G5 := Lib.hid (fun (W : World) (h : RdAt W p su) => unbody_calls p su W h (by omega))
              obtain ⟨u5, qu5⟩ : ∃ x, x = unbR su := ⟨_, rfl⟩
              rw [← qu5] at qc G5
              clear qu5
              obtain ⟨⟨bl, bi, bp⟩, su⟩ := u5
              simp only at qc G5
              have QQ := Lib.hid qc
              clear qc
              go_wp2_with fail
              refine (G5.out _ R3.1).mono ?_
              rintro e w5 ⟨A, cp, rfl, hPa, hAb, hRu⟩
              have R5 := R3.step hRu.1 hRu.2
              have C5 := C3.grown hgp hRu.2
              have Z5 := Z3.grown hne2 hRu.2
              simp only at hPa
              have hgA : ∀ ad, A = some ad → g < ad.block := fun ad h => Nat.lt_of_lt_of_le C3.lt (hAb ad h)
              have hgn : ∀ ad, A = some ad → ad.block ≠ g := fun ad h => by have := hgA ad h; omega
              have R6 := ((R5.set ⟨g, 4, none⟩ hg0 hgp (.int .i64 bl)).set ⟨g, 5, none⟩ hg0 hgp (.string bi)).set ⟨g, 6, none⟩ hg0 hgp (.slice A bp.length cp)
              have Z6 := ((Z5.other ⟨g, 4, none⟩ hgw (.int .i64 bl)).other ⟨g, 5, none⟩ hgw (.string bi)).other ⟨g, 6, none⟩ hgw (.slice A bp.length cp)
              have P6 := ((hPa.other ⟨g, 4, none⟩ hgn (.int .i64 bl)).other ⟨g, 5, none⟩ hgn (.string bi)).other ⟨g, 6, none⟩ hgn (.slice A bp.length cp)
              have C6 : Row (((w5.setCell ⟨g, 4, none⟩ (.int .i64 bl)).setCell ⟨g, 5, none⟩ (.string bi)).setCell ⟨g, 6, none⟩ (.slice A bp.length cp)) g #[.int .u8 3, .int .u64 0, .bool false, .string ⟨#[]⟩, .int .i64 bl, .string bi, .slice A bp.length cp] := by simpa using ((C5.set 4 (.int .i64 bl)).set 5 (.string bi)).set 6 (.slice A bp.length cp)
              obtain ⟨x0, x1, x2, x3, x4, x5, x6⟩ := C5.c
              have h4 := C5.f 4
              have h5 := C5.f 5
              have h6 := C5.f 6
              go_wp2_with fail
              go_meet
              case rel => exact ⟨A, cp, by rw [QQ.out]; exact C6, by rw [QQ.out]; exact P6, hgA, Z6, by rw [QQ.out]; exact R6⟩
            · rw [if_pos rfl] at qc
              have QQ := Lib.hid qc
              clear qc
              go_wp2_with fail
              refine (G4.out _ R2.1).mono ?_
              rintro e w4 ⟨rfl, hr4, hg4⟩
              have R3 := (R2.step hr4 hg4).set ⟨g, 2, none⟩ hg0 hgp (.bool true)
              have C2 := C1.grown hgp hg4
              have Z3 := (Z1.grown hne2 hg4).other ⟨g, 2, none⟩ hgw (.bool true)
              have C3 : Row (w4.setCell ⟨g, 2, none⟩ (.bool true)) g #[.int .u8 3, .int .u64 0, .bool true, .string ⟨#[]⟩, .int .i64 0, .string ⟨#[]⟩, .slice none 0 0] := by simpa using C2.set 2 (.bool true)
              obtain ⟨y0, y1, y2, y3, y4, y5, y6⟩ := C2.c
              have j2 := C2.f 2
              go_wp2_with fail
              go_meet
              case rel => exact ⟨none, 0, by rw [QQ.out]; exact C3, by rw [QQ.out]; exact PcsAt.nil _ _, (fun ad h => by cases h), Z3, by rw [QQ.out]; exact R3⟩
          have n3 : ((k : Int) == 3) = false := by rw [beq_eq_false_iff_ne]; omega
          rw [if_neg k3] at qc
          have G4 : Hid (∀ (W : World), RdAt W p st → Calls Try.prog 16 #[.pointer (some ⟨p, 0, none⟩), .int .u64 281474976710656] W fun r w' => r = .returned (.int .u64 ((numR big st).1 : Int)) ∧ RdAt w' p (numR big st).2 ∧ W.grownBy w' (some p)) := fun (W : World) (h : RdAt W p st) => num_calls p big st W h (by omega)
          obtain ⟨u4, qu4⟩ : ∃ x, x = numR big st := ⟨_, rfl⟩
          rw [← qu4] at qc G4
          clear qu4
          obtain ⟨nn, su⟩ := u4
          simp only at qc G4
          have QQ := Lib.hid qc
          clear qc
          go_wp2_with fail
          refine (G4.out _ R2.1).mono ?_
          rintro e w5 ⟨rfl, hr5, hg5⟩
          have R5 := R2.step hr5 hg5
          have C5 := C1.grown hgp hg5
          have Z5 := Z1.grown hne2 hg5
          have R6 := R5.set ⟨g, 1, none⟩ hg0 hgp (.int .u64 (nn : Int))
          have Z6 := Z5.other ⟨g, 1, none⟩ hgw (.int .u64 (nn : Int))
          have C6 : Row (w5.setCell ⟨g, 1, none⟩ (.int .u64 (nn : Int))) g #[.int .u8 (k : Int), .int .u64 (nn : Int), .bool false, .string ⟨#[]⟩, .int .i64 0, .string ⟨#[]⟩, .slice none 0 0] := by simpa using C5.set 1 (.int .u64 (nn : Int))
          obtain ⟨x0, x1, x2, x3, x4, x5, x6⟩ := C5.c
          have h1 := C5.f 1
          go_wp2_with fail
          go_meet
          case rel => exact ⟨none, 0, by rw [QQ.out]; exact C6, by rw [QQ.out]; exact PcsAt.nil _ _, (fun ad h => by cases h), Z6, by rw [QQ.out]; exact R6⟩
        case rest =>
          obtain ⟨A, cp, C2, P2, hgA, Z2, RK⟩ := hcut
          clear p0 p1 p2 p3 p4 p5 p6 f1 f2 f3 f4 f5 f6 C1 Z1 R2 hgl hpl QC hkw
          have hcn := HCN.out
          obtain ⟨c, sE⟩ := cf
          simp only at C2 P2 RK hcn
          have hqf := QF.out
          have GE := Lib.hid (fun W (h : RdAt W p sE) => end_calls p sE W h)
          have HM := fun (W : World) (h : PcsAt W A c.body.pcs) => mayC_calls c A cp W h (by omega) (by omega)
          have HE := fun (W : World) (h : PcsAt W A c.body.pcs) => encode_calls c A cp W h (by omega) (by omega)
          have hdo : decOk s.data.toList ↔ ((endR sE).2 = 0 ∧ mayCB c = true ∧ cellW c = s.data.toList) := by
            unfold decOk
            rw [← hqf, mayCB_iff]
          unfold encV at HE
          obtain ⟨eE, qe⟩ : ∃ x, x = (endR sE).2 := ⟨_, rfl⟩
          obtain ⟨mb, qm⟩ : ∃ x, x = mayCB c := ⟨_, rfl⟩
          obtain ⟨TB, qT⟩ : ∃ x, x = bs (cellW c) := ⟨_, rfl⟩
          have GE2 : Hid (∀ W, RdAt W p sE → Calls Try.prog 19 #[.pointer (some ⟨p, 0, none⟩)] W fun r w' => r = .returned (.int .i64 (eE : Int)) ∧ RdAt w' p (endR sE) ∧ W.grownBy w' (some p)) := by rw [qe]; exact GE
          rw [← qe, ← qm] at hdo
          rw [← qm] at HM
          rw [← qm, ← qT] at HE
          have hTs : cellW c = s.data.toList ↔ (TB.toList == s.toList) = true := by
            rw [qT, beq_iff_eq, ByteArray.toList_eq, ByteArray.toList_eq]; exact Iff.rfl
          rw [hTs] at hdo
          have hgA2 : ∀ ad, A = some ad → ad.block ≠ p := fun ad h => by have := hgA ad h; omega
          have hgA3 : ∀ ad, A = some ad → ad.block ≠ w.heap.size := fun ad h => by have := hgA ad h; omega
          have HDO := Lib.hid hdo
          have GM := Lib.hid HM
          have GC := Lib.hid HE
          have HQ := Lib.hid hqf
          clear GE HM HE hdo hTs qe qm qT hqf QF HCN hcn
          obtain ⟨ck, cn, cg, cm, ⟨cl, ci, cps⟩⟩ := c
          unfold cvs at C2 GM GC
          simp only at C2 P2 GM GC
          go_wp2_with fail
          refine (GE2.out _ RK.1).mono ?_
          rintro e w5 ⟨rfl, hr5, hg5⟩
          have RL := RK.step hr5 hg5
          have C3 := C2.grown hgp hg5
          have Z3 := Z2.grown hne2 hg5
          have P3 := P2.grown hgA2 hg5
          clear RK C2 Z2 P2 hr5 hg5 GE2
          by_cases he : eE = 0
          case neg =>
            have he' : ((eE : Int) != 0) = true := by rw [bne_iff_ne]; omega
            clear GM GC
            have HNO : Hid (¬ decOk s.data.toList) := fun h => he (HDO.out.1 h).1
            obtain ⟨z0, z1, z2, z3, z4, z5, z6⟩ := Z3.c
            have f0 := Z3.f 0
            have f1 := Z3.f 1
            have f2 := Z3.f 2
            have f3 := Z3.f 3
            have f4 := Z3.f 4
            have f5 := Z3.f 5
            have f6 := Z3.f 6
            have hG := Z3.setAll (.int .u8 0) (.int .u64 0) (.bool false) (.string ⟨#[]⟩) (.int .i64 0) (.string ⟨#[]⟩) (.slice none 0 0)
            have hbl := below_grown b1 (Nat.le_of_lt hp) RL.2
            go_wp2_with fail
            refine bodyPost_ret (results_cell2 rfl _ _ w.heap.size 50 _ (0, 0) _ rfl hG Try.underlying50 rfl (by kernel_rfl)) rfl ?_
            exact ⟨Cel.zero, none, 0, 8, rfl, PcsAt.nil _ _, .inr ⟨HNO.out, rfl, rfl⟩, below_all hbl _ (Nat.le_refl _) _ _ _ _ _ _ _⟩
          subst he
          obtain ⟨p0, p1, p2, p3, p4, p5, p6⟩ := C3.c
          go_wp2_with fail
          refine (GM.out _ P3).mono ?_
          rintro e w6 ⟨rfl, hb6⟩
          have RM := RL.below hb6
          have C4 := C3.below hb6
          have Z4 := Z3.below hb6
          have P4 := P3.below hb6
          clear p0 p1 p2 p3 p4 p5 p6 RL C3 Z3 P3 hb6 GM
          cases mb
          case false =>
            clear GC
            have HNO : Hid (¬ decOk s.data.toList) := fun h => by have := (HDO.out.1 h).2.1; cases this
            obtain ⟨z0, z1, z2, z3, z4, z5, z6⟩ := Z4.c
            have f0 := Z4.f 0
            have f1 := Z4.f 1
            have f2 := Z4.f 2
            have f3 := Z4.f 3
            have f4 := Z4.f 4
            have f5 := Z4.f 5
            have f6 := Z4.f 6
            have hG := Z4.setAll (.int .u8 0) (.int .u64 0) (.bool false) (.string ⟨#[]⟩) (.int .i64 0) (.string ⟨#[]⟩) (.slice none 0 0)
            have hbl := below_grown b1 (Nat.le_of_lt hp) RM.2
            go_wp2_with fail
            refine bodyPost_ret (results_cell2 rfl _ _ w.heap.size 50 _ (0, 0) _ rfl hG Try.underlying50 rfl (by kernel_rfl)) rfl ?_
            exact ⟨Cel.zero, none, 0, 8, rfl, PcsAt.nil _ _, .inr ⟨HNO.out, rfl, rfl⟩, below_all hbl _ (Nat.le_refl _) _ _ _ _ _ _ _⟩
          have GC2 := Lib.hid (GC.out _ P4)
          clear GC
          rw [if_pos rfl] at GC2
          obtain ⟨p0, p1, p2, p3, p4, p5, p6⟩ := C4.c
          go_wp2_with fail
          refine GC2.out.mono ?_
          rintro e w7 ⟨rfl, hb7⟩
          have RN := RM.below hb7
          have C5 := C4.below hb7
          have Z5 := Z4.below hb7
          have P5 := P4.below hb7
          clear p0 p1 p2 p3 p4 p5 p6 RM C4 Z4 P4 hb7 GC2
          obtain ⟨tq, qt⟩ : ∃ t, (TB.toList == s.toList) = t := ⟨_, rfl⟩
          cases tq
          case false =>
            have HNO : Hid (¬ decOk s.data.toList) := fun h => by have := (HDO.out.1 h).2.2; rw [qt] at this; cases this
            obtain ⟨z0, z1, z2, z3, z4, z5, z6⟩ := Z5.c
            have f0 := Z5.f 0
            have f1 := Z5.f 1
            have f2 := Z5.f 2
            have f3 := Z5.f 3
            have f4 := Z5.f 4
            have f5 := Z5.f 5
            have f6 := Z5.f 6
            have hG := Z5.setAll (.int .u8 0) (.int .u64 0) (.bool false) (.string ⟨#[]⟩) (.int .i64 0) (.string ⟨#[]⟩) (.slice none 0 0)
            have hbl := below_grown b1 (Nat.le_of_lt hp) RN.2
            go_wp2_with fail
            refine bodyPost_ret (results_cell2 rfl _ _ w.heap.size 50 _ (0, 0) _ rfl hG Try.underlying50 rfl (by kernel_rfl)) rfl ?_
            exact ⟨Cel.zero, none, 0, 8, rfl, PcsAt.nil _ _, .inr ⟨HNO.out, rfl, rfl⟩, below_all hbl _ (Nat.le_refl _) _ _ _ _ _ _ _⟩
          have HOK : Hid (decOk s.data.toList) := HDO.out.2 ⟨by trivial, by trivial, qt⟩
          obtain ⟨p0, p1, p2, p3, p4, p5, p6⟩ := C5.c
          obtain ⟨z0, z1, z2, z3, z4, z5, z6⟩ := Z5.c
          have f0 := Z5.f 0
          have f1 := Z5.f 1
          have f2 := Z5.f 2
          have f3 := Z5.f 3
          have f4 := Z5.f 4
          have f5 := Z5.f 5
          have f6 := Z5.f 6
          have hG := Z5.setAll (.int .u8 (ck : Int)) (.int .u64 (cn : Int)) (.bool cg) (.string cm) (.int .i64 cl) (.string ci) (.slice A cps.length cp)
          have hbl := below_grown b1 (Nat.le_of_lt hp) RN.2
          have P6 := ((((((P5.other ⟨w.heap.size, 0, none⟩ hgA3 (.int .u8 (ck : Int))).other ⟨w.heap.size, 1, none⟩ hgA3 (.int .u64 (cn : Int))).other ⟨w.heap.size, 2, none⟩ hgA3 (.bool cg)).other ⟨w.heap.size, 3, none⟩ hgA3 (.string cm)).other ⟨w.heap.size, 4, none⟩ hgA3 (.int .i64 cl)).other ⟨w.heap.size, 5, none⟩ hgA3 (.string ci)).other ⟨w.heap.size, 6, none⟩ hgA3 (.slice A cps.length cp)
          go_wp2_with fail
          refine bodyPost_ret (results_cell2 rfl _ _ w.heap.size 50 _ (0, 0) _ rfl hG Try.underlying50 rfl (by kernel_rfl)) rfl ?_
          exact ⟨⟨ck, cn, cg, cm, ⟨cl, ci, cps⟩⟩, A, cp, 0, rfl, P6, .inl ⟨HOK.out, by rw [← HQ.out], rfl⟩, below_all hbl _ (Nat.le_refl _) _ _ _ _ _ _ _⟩

end Go.Proofs.Ytaeiahkomdpcoaa.Cell
