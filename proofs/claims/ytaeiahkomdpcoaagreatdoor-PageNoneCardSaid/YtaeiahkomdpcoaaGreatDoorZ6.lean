/- Texts merged into one: part 6 of 11. -/
import Derived.WalkMore
import Derived.Deep.RegionHeld3
import Derived.Laws.ResultCell
import Derived.Laws.Rows
import Derived.Deep.Cut
import Derived.Test.YtaeiahkomdpcoaaGreatDoorZ5

section
/- The walk of package name's unname. -/
namespace Go.Proofs.YtaeiahkomdpcoaaGreatDoor.Name
open Go.RowKit Go.Shelf

def unV : Option (Bs × Bs) → Value
  | some p => .tuple #[.string (bs p.1), .string (bs p.2), .bool true]
  | none => .tuple #[.string ⟨#[]⟩, .string ⟨#[]⟩, .bool false]
def cellsOf (l : Bs) : List Value := l.map fun c => .int .u8 (c.toNat : Int)

theorem own_row {w : World} {B : Nat} {v : Value} {acc : Bs} (h : w.ownsRow B 5 1 v acc.length (cellsOf acc)) (hne : acc ≠ []) : ∃ g cap, v = .slice (some ⟨g, 0, none⟩) acc.length cap ∧ acc.length ≤ cap ∧ RowAt w g acc := by
  rcases h.2 with ⟨_, h0⟩ | ⟨g, cap, cur, rfl, hB, hg, hc, hm, hs, ht⟩
  · exact absurd (List.length_eq_zero_iff.1 h0) hne
  · refine ⟨g, cap, rfl, hc, fun i c hi => ⟨?_, Lib.frozen_of_heap hg i⟩⟩
    have := h.cells (g := g) rfl i (.int .u8 (c.toNat : Int)) (by simp [cellsOf, hi])
    have e : (⟨g, 0, none⟩ : Addr).add i = ⟨g, i, none⟩ := by unfold Addr.add; split <;> simp_all
    rwa [e] at this
theorem RowAt.take {w : World} {B : Nat} {l : Bs} (h : RowAt w B l) (k : Nat) : RowAt w B (l.take k) := fun i c hi => by
  rw [List.getElem?_take] at hi
  split at hi
  · exact h i c hi
  · cases hi
theorem RowAt.drew {w : World} {B : Nat} {l : Bs} (h : RowAt w B l) : RowAt w.drew B l := h

theorem str_drop (s : ByteArray) (n : Nat) : s.extract n s.size = bs (s.data.toList.drop n) := by
  apply ByteArray.ext
  apply Array.toList_inj.1
  rw [Lib.extract_data]
  show (s.data.toList.drop n).take (s.size - n) = s.data.toList.drop n
  rw [List.take_of_length_le]
  rw [List.length_drop, size_list]; exact Nat.le_refl _
theorem str_take (s : ByteArray) (n : Nat) : s.extract 0 n = bs (s.data.toList.take n) := by
  apply ByteArray.ext
  apply Array.toList_inj.1
  rw [Lib.extract_data]
  rfl

theorem un_step (s : Bs) (k : Nat) (h : k + 1 < s.length) : un (s.drop k) = if s[k] ≠ 0 then (un (s.drop (k + 1))).map fun p => (s[k] :: p.1, p.2) else if s[k + 1] = 255 then (un (s.drop (k + 2))).map fun p => (0 :: p.1, p.2) else if s[k + 1] = 1 then some ([], s.drop (k + 2)) else none := by
  rw [List.drop_eq_getElem_cons (show k < s.length by omega), List.drop_eq_getElem_cons h, un]
theorem un_end (s : Bs) (k : Nat) (h : s.length ≤ k + 1) : un (s.drop k) = none := by
  rcases Nat.lt_or_ge k s.length with h1 | h1
  · rw [List.drop_eq_getElem_cons h1, List.drop_eq_nil_of_le (by omega)]; rfl
  · rw [List.drop_eq_nil_of_le h1]; rfl

def withP (acc : Bs) (o : Option (Bs × Bs)) : Option (Bs × Bs) := o.map fun p => (acc ++ p.1, p.2)

set_option maxHeartbeats 3200000 in
set_option maxRecDepth 100000 in
theorem unname_calls (s : ByteArray) (w : World) (hs : s.size ≤ 10000) : Calls Tryz.prog 52 #[.string s] w fun e w' => e = .returned (unV (un s.data.toList)) ∧ Below w.heap.size w w' := by
  obtain ⟨i0, hi, hz0, hz1, hz2⟩ := info_parts infoByte
  go_enter Tryz.func52, Tryz.ntmps52
  go_wp2
  go_step3
  go_wp2
  go_step3
  go_wp2
  go_loopw [5, 6] (fun v iv wr => ∃ (k : Nat) (acc : Bs), k ≤ s.size ∧ acc.length ≤ k ∧ iv = .int .i64 k ∧ wr.ownsRow w.heap.size 5 1 v acc.length (cellsOf acc) ∧ Hid (un s.data.toList = withP acc (un (s.data.toList.drop k))) ∧ Below w.heap.size w wr) (fun _ iv _ => s.size - (intOf iv).toNat)
  case atStart => exact ⟨0, [], by omega, by simp, rfl, World.ownsRow_nil _ _ _ _, (by show _ = _; simp [withP]), Below.refl _ _⟩
  case round =>
    obtain ⟨k, acc, hk, hacc, rfl, hown, hU, hb⟩ := hrel
    by_cases hlt : k + 1 < s.size
    · have hlt1 : k < s.size := by omega
      have hst := un_step s.data.toList k (by rw [size_list]; exact hlt)
      obtain ⟨c, hc⟩ : ∃ c, c = s[k].toNat := ⟨_, rfl⟩
      obtain ⟨d, hd⟩ : ∃ d, d = s[k + 1].toNat := ⟨_, rfl⟩
      have hck : s.data.toList[k]'(by rw [size_list]; exact hlt1) = UInt8.ofNat c := by rw [hc]; simp; rfl
      have hdk : s.data.toList[k + 1]'(by rw [size_list]; exact hlt) = UInt8.ofNat d := by rw [hd]; simp; rfl
      have hc8 : c < 256 := by rw [hc]; exact s[k].toNat_lt
      have hd8 : d < 256 := by rw [hd]; exact s[k + 1].toNat_lt
      rw [hck, hdk] at hst
      have HST := Lib.hid hst
      have hbs := hb.size
      have hcc : Hid ((.int .u8 (c : Int) : Value) = .int .u8 ((UInt8.ofNat c).toNat : Int)) := by
        show _ = _
        rw [UInt8.toNat_ofNat', Nat.mod_eq_of_lt hc8]
      clear hst hck hdk
      go_wp2_with (at_builtin; refine wpList_append_own _ rfl _ _ 82 rfl w.heap.size 5 i0 (.int .u8 0) 1 1 Tryz.underlying82 hi hz0 hz1 hz2 rfl (by decide) _ _ _ rfl (hown.alloc _) ⟨wr.heap.size, 0, none⟩ 1 1 [.int .u8 (s[k].toNat : Int)] rfl rfl (World.news_of_block (MapKept.heap_alloc wr _).1) ?c2 ?c3 ?c4 ?c5 ?_)
      case c2 => intro u hu; simp at hu; subst hu; rfl
      case c3 => unfold maxLen; omega
      case c4 => omega
      case c5 => simp; omega
      intro v' wn hown' hgrow _
      have hbn : Below w.heap.size w wn := (hb.alloc hbs _).grown hgrow (by simp; omega) (fun g hg => (hown.lt _ hg).1)
      have hlen : (acc ++ [UInt8.ofNat c]).length = acc.length + 1 := by simp
      have hown2 : wn.ownsRow w.heap.size 5 1 v' (acc ++ [UInt8.ofNat c]).length (cellsOf (acc ++ [UInt8.ofNat c])) := by
        rw [hlen]
        have e : cellsOf (acc ++ [UInt8.ofNat c]) = cellsOf acc ++ [.int .u8 (c : Int)] := by simp only [cellsOf, List.map_append, List.map_cons, List.map_nil, hcc.out]
        rw [e, hc]; exact hown'
      clear hown'
      have hC0 : c = 0 → UInt8.ofNat c = 0 := fun e => by rw [e]; rfl
      have hC1 : c ≠ 0 → UInt8.ofNat c ≠ 0 := fun h e => h (by have := congrArg UInt8.toNat e; rw [UInt8.toNat_ofNat', Nat.mod_eq_of_lt hc8] at this; exact this)
      have hD255 : d ≠ 255 → UInt8.ofNat d ≠ 255 := fun h e => h (by have := congrArg UInt8.toNat e; rw [UInt8.toNat_ofNat', Nat.mod_eq_of_lt hd8] at this; exact this)
      have hD1 : d ≠ 1 → UInt8.ofNat d ≠ 1 := fun h e => h (by have := congrArg UInt8.toNat e; rw [UInt8.toNat_ofNat', Nat.mod_eq_of_lt hd8] at this; exact this)
      have HC0 := Lib.hid hC0
      have HC1 := Lib.hid hC1
      have HD255 := Lib.hid hD255
      have HD1 := Lib.hid hD1
      clear hC0 hC1 hD255 hD1 hcc hgrow hown
      by_cases hc0 : c = 0
      · have hcB : ((s[k].toNat : Int) == 0) = true := by rw [← hc, hc0]; rfl
        have hkw : IntKind.i64.wrap ((k : Int) + 1) = (k : Int) + 1 := IntWalk.i64_in _ (by omega)
        have hk2 : ((k : Int) + 1).toNat = k + 1 := by omega
        have hk3 : (0 : Int) ≤ (k : Int) + 1 := by omega
        by_cases hd255 : d = 255
        · have hdB : ((s[k + 1].toNat : Int) == 255) = true := by rw [← hd, hd255]; rfl
          have HU2 := Lib.hid (show un s.data.toList = withP (acc ++ [UInt8.ofNat c]) (un (s.data.toList.drop (k + 2))) by
            rw [hU.out, HST.out, if_neg (by rw [HC0.out hc0]; simp), if_pos (by rw [hd255]; rfl), HC0.out hc0]
            simp [withP, Function.comp_def])
          have HL := Lib.hid hlen
          clear hc hd hlen hc0 hd255
          go_wp2
          go_roundw
          case rel => exact ⟨k + 2, acc ++ [UInt8.ofNat c], by omega, by rw [HL.out]; omega, by go_num, hown2, HU2.out, hbn⟩
          case measure => simp [intOf]; omega
        · have hdB : ((s[k + 1].toNat : Int) == 255) = false := by rw [← hd, beq_eq_false_iff_ne]; omega
          by_cases hd1 : d = 1
          · have hdB1 : ((s[k + 1].toNat : Int) == 1) = true := by rw [← hd, hd1]; rfl
            have HU2 := Lib.hid (show un s.data.toList = some (acc, s.data.toList.drop (k + 2)) by
              rw [hU.out, HST.out, if_neg (by rw [HC0.out hc0]; simp), if_neg (HD255.out hd255), if_pos (by rw [hd1]; rfl)]
              simp [withP])
            obtain ⟨g, cap, rfl, hcap, hrow⟩ := own_row hown2 (by simp)
            rw [hlen] at hcap
            have hrow2 : RowAt wn g acc := by
              have := hrow.take acc.length
              rwa [List.take_left' rfl] at this
            have hcv := conv_row wn g acc acc.length cap rfl hrow2
            have hcv2 := conv_row wn.drew g acc acc.length cap rfl hrow2.drew
            have hl1 : IntKind.i64.wrap ((acc.length : Int) + 1 - 1) = (acc.length : Int) := by rw [show (acc.length : Int) + 1 - 1 = (acc.length : Int) by omega]; exact IntWalk.i64_in _ (by omega)
            have hk4 : IntKind.i64.wrap ((k : Int) + 2) = (k : Int) + 2 := IntWalk.i64_in _ (by omega)
            have hk5 : ((k : Int) + 2).toNat = k + 2 := by omega
            have hk6 : (0 : Int) ≤ (k : Int) + 2 := by omega
            have hk7 : k + 2 ≤ s.size := by omega
            have hk8 : (k : Int) + 2 ≤ (s.size : Int) := by omega
            have hl2 : IntKind.i64.wrap (acc.length : Int) = (acc.length : Int) := IntWalk.i64_in _ (by omega)
            have hl3 : acc.length ≤ cap := by omega
            have hl4 : (0 : Int) ≤ (acc.length : Int) := by omega
            have hl5 : (acc.length : Int) ≤ (cap : Int) := by omega
            have hl6 : acc.length ≤ acc.length + 1 := by omega
            have hn2 : decide ((k : Int) + 2 < 0) = false := by rw [decide_eq_false_iff_not]; omega
            have hn3 : decide (s.size < k + 2) = false := by rw [decide_eq_false_iff_not]; omega
            simp only [hlen]
            clear hc hd hc0 hd255 hd1 hown2 hrow hrow2 hlen
            go_wp2
            go_region_held3 (fun w' => (convert 82 9 (.slice (some ⟨g, 0, none⟩) acc.length cap)).run Tryz.prog w' = .ok (.string (bs acc)) w') (first | exact hcv2) (first | fail)
            all_goals
              go_wp2
              rw [Exit.noGoto_ret]
              go_ret3
              rw [HU2.out]
              refine ⟨?_, below_drew hbn⟩
              rw [str_drop]
              rfl
          · have hdB1 : ((s[k + 1].toNat : Int) == 1) = false := by rw [← hd, beq_eq_false_iff_ne]; omega
            have HU2 := Lib.hid (show un s.data.toList = none by
              rw [hU.out, HST.out, if_neg (by rw [HC0.out hc0]; simp), if_neg (HD255.out hd255), if_neg (HD1.out hd1)]
              rfl)
            clear hc hd hlen hc0 hd255 hd1
            go_wp2
            rw [Exit.noGoto_ret]
            go_ret3
            rw [HU2.out]
            exact ⟨rfl, hbn⟩
      · have hcB : ((s[k].toNat : Int) == 0) = false := by rw [← hc, beq_eq_false_iff_ne]; omega
        have HU2 := Lib.hid (show un s.data.toList = withP (acc ++ [UInt8.ofNat c]) (un (s.data.toList.drop (k + 1))) by
          rw [hU.out, HST.out, if_pos (HC1.out hc0)]
          simp [withP, Function.comp_def])
        have HL := Lib.hid hlen
        clear hc hd hlen hc0
        go_wp2
        go_roundw
        case rel => exact ⟨k + 1, acc ++ [UInt8.ofNat c], by omega, by rw [HL.out]; omega, by go_num, hown2, HU2.out, hbn⟩
        case measure => simp [intOf]; omega
    · have HE := Lib.hid (un_end s.data.toList k (by rw [size_list]; omega))
      go_wp2
      rw [Exit.noGoto_ret]
      go_ret3
      refine ⟨?_, hb⟩
      rw [hU.out, HE.out]
      rfl

end Go.Proofs.YtaeiahkomdpcoaaGreatDoor.Name
end

section
/- The walk of package name's Decode. -/
namespace Go.Proofs.YtaeiahkomdpcoaaGreatDoor.Name
open Go.RowKit Go.Shelf

theorem cut_calls (s : ByteArray) (w : World) (hv : Var0 w) (hs : s.size ≤ 10000) : Calls Tryz.prog 51 #[.string s, .string ⟨#[0]⟩] w fun e w' => e = .returned (.tuple #[.string (bs (Lib.cut s.data.toList [0]).1), .string (bs (Lib.cut s.data.toList [0]).2.1), .bool (Lib.cut s.data.toList [0]).2.2]) ∧ Below w.heap.size w w' := by
  obtain ⟨m, hm, _⟩ := hv
  refine (Tryz.strings_Cut s ⟨#[0]⟩ m w (by omega) hm).mono ?_
  rintro e w' ⟨rfl, n, rfl⟩
  exact ⟨rfl, below_drewN (Below.refl _ _) n⟩

def Key.cells (k : Key) : Array Value := #[.int .u8 (k.kind : Int), .string k.bucket, .string k.name, .int .u64 (k.n : Int), .int .i64 k.part]
/-- A key in a block. -/
def KeyAt (w : World) (b : Nat) (k : Key) : Prop := w.heap[b]? = some (.cells k.cells 60 (0, 0))
def zeroK : Key := ⟨0, ⟨#[]⟩, ⟨#[]⟩, 0, 0⟩
theorem KeyAt.lt {w : World} {b : Nat} {k : Key} (h : KeyAt w b k) : b < w.heap.size := (Array.getElem?_eq_some_iff.1 h).1
theorem KeyAt.below {w w' : World} {b : Nat} {k : Key} (h : KeyAt w b k) (hb : Below w.heap.size w w') : KeyAt w' b k := (hb.block _ h.lt).trans h
theorem KeyAt.drew {w : World} {b : Nat} {k : Key} (h : KeyAt w b k) : KeyAt w.drew b k := h
theorem KeyAt.c {w : World} {b : Nat} {k : Key} (h : KeyAt w b k) : w.cell? ⟨b, 0, none⟩ = some (.int .u8 (k.kind : Int)) ∧ w.cell? ⟨b, 1, none⟩ = some (.string k.bucket) ∧ w.cell? ⟨b, 2, none⟩ = some (.string k.name) ∧ w.cell? ⟨b, 3, none⟩ = some (.int .u64 (k.n : Int)) ∧ w.cell? ⟨b, 4, none⟩ = some (.int .i64 k.part) := by
  refine ⟨?_, ?_, ?_, ?_, ?_⟩ <;> (rw [Joins.cell_of_block h]; rfl)
theorem KeyAt.f {w : World} {b : Nat} {k : Key} (h : KeyAt w b k) (i : Nat) : w.frozen? ⟨b, i, none⟩ = false := Lib.frozen_of_heap h i
theorem KeyAt.set1 {w : World} {b : Nat} {k : Key} (h : KeyAt w b k) (x : ByteArray) : KeyAt (w.setCell ⟨b, 1, none⟩ (.string x)) b { k with bucket := x } := by
  unfold KeyAt at h ⊢; simp [World.setCell, Array.getElem?_modify, h, Key.cells]
theorem KeyAt.set2 {w : World} {b : Nat} {k : Key} (h : KeyAt w b k) (x : ByteArray) : KeyAt (w.setCell ⟨b, 2, none⟩ (.string x)) b { k with name := x } := by
  unfold KeyAt at h ⊢; simp [World.setCell, Array.getElem?_modify, h, Key.cells]
theorem KeyAt.set3 {w : World} {b : Nat} {k : Key} (h : KeyAt w b k) (x : Nat) : KeyAt (w.setCell ⟨b, 3, none⟩ (.int .u64 (x : Int))) b { k with n := x } := by
  unfold KeyAt at h ⊢; simp [World.setCell, Array.getElem?_modify, h, Key.cells]
theorem KeyAt.set4 {w : World} {b : Nat} {k : Key} (h : KeyAt w b k) (x : Int) : KeyAt (w.setCell ⟨b, 4, none⟩ (.int .i64 x)) b { k with part := x } := by
  unfold KeyAt at h ⊢; simp [World.setCell, Array.getElem?_modify, h, Key.cells]
theorem KeyAt.set0 {w : World} {b : Nat} {k : Key} (h : KeyAt w b k) (x : Nat) : KeyAt (w.setCell ⟨b, 0, none⟩ (.int .u8 (x : Int))) b { k with kind := x } := by
  unfold KeyAt at h ⊢; simp [World.setCell, Array.getElem?_modify, h, Key.cells]
theorem KeyAt.setAll {w : World} {b : Nat} {k : Key} (h : KeyAt w b k) (K : Key) : KeyAt (((((w.setCell ⟨b, 0, none⟩ (.int .u8 (K.kind : Int))).setCell ⟨b, 1, none⟩ (.string K.bucket)).setCell ⟨b, 2, none⟩ (.string K.name)).setCell ⟨b, 3, none⟩ (.int .u64 (K.n : Int))).setCell ⟨b, 4, none⟩ (.int .i64 K.part)) b K :=
  ((((h.set0 K.kind).set1 K.bucket).set2 K.name).set3 K.n).set4 K.part
theorem KeyAt.other {w : World} {b : Nat} {k : Key} (h : KeyAt w b k) (a : Addr) (ha : a.block ≠ b) (v : Value) : KeyAt (w.setCell a v) b k :=
  (Below.heap_setCell _ _ _ _ (fun e => ha e.symm)).trans h

theorem Var0.set {w : World} (h : Var0 w) (a : Addr) (ha : a.block ≠ 2) (v : Value) : Var0 (w.setCell a v) := by
  obtain ⟨m, h1, h2⟩ := h
  exact ⟨m, (World.cell?_setCell_other _ _ _ _ (fun e => ha (by rw [e]))).trans h1, by simpa [World.setCell] using h2⟩
theorem Var0.ne {w : World} (h : Var0 w) {k : Nat} (hk : w.heap.size ≤ k) : k ≠ 2 := fun e => by
  obtain ⟨_, _, h0⟩ := h
  omega
theorem Var0.drew {w : World} (h : Var0 w) : Var0 w.drew := h
theorem below_key {w w1 : World} (hb : Below w.heap.size w w1) (a : Addr) (ha : w.heap.size ≤ a.block) (v : Value) : Below w.heap.size w (w1.setCell a v) := below_set hb ha v

/-- What Decode answers of a key that it has read. -/
def decEnd (k : Key) (s : Bs) : Value := if mayB k = true ∧ encL k = s then .tuple #[k.val, .int .i64 0] else .tuple #[zeroK.val, .int .i64 8]

theorem results_key {P : Program} {fn : Func} {p u : Tmp} {ty : TypeId} (h : fn.results = #[.cell p ty, .tmp u]) (tmps : Array Value) (w : World) (g : Nat) (t : TypeId) (cs : Array Value) (fr : Nat × Nat) (d : TypeDesc)
    (hp : tmps.getD p undef = .pointer (some ⟨g, 0, none⟩)) (hg : w.heap[g]? = some (.cells cs t fr))
    (hu : P.underlying ty = some d) (hd : (match d with | .struct _ | .array _ _ => true | _ => false) = true) (hi : (P.info? ty).map (·.size) = some cs.size) :
    (results fn tmps).run P w = .ok (.tuple #[.agg cs, tmps.getD u undef]) w := by
  rw [results_cell_tmp h, hp]
  have e : (asAddr (.pointer (some ⟨g, 0, none⟩))).run P w = .ok ⟨g, 0, none⟩ w := rfl
  rw [e]
  simp only [Result.andThen, run_loadVar_row w g t ty cs fr d hg hu hd hi]

set_option maxHeartbeats 3200000 in
set_option maxRecDepth 100000 in
theorem decode3 (s : ByteArray) (qb qr nm r2 : Bs) (w : World) (hv : Var0 w) (hs : s.size ≤ 4096) (h0 : 0 < s.size) (hc : s[0].toNat = 3) (hq : Lib.cut (s.data.toList.drop 1) [0] = (qb, qr, true)) (hun : un qr = some (nm, r2)) (h8 : 8 ≤ r2.length)
    (hqb : qb.length ≤ 4096) (hqr : qr.length ≤ 4096) (hnm : nm.length ≤ 4096) (hr2 : r2.length ≤ 4096) :
    Calls Tryz.prog 30 #[.string s] w fun e w' => e = .returned (decEnd ⟨3, bs qb, bs nm, top - val (r2.take 8), 0⟩ s.data.toList) ∧ Below w.heap.size w w' := by
  have hne : s.toList.isEmpty = false := by rw [empty_iff, decide_eq_false_iff_not]; intro e; rw [e] at h0; exact absurd h0 (by decide)
  obtain ⟨R, hR⟩ : ∃ R, R = s.extract 1 s.size := ⟨_, rfl⟩
  have hRd : R.data.toList = s.data.toList.drop 1 := by rw [hR, str_drop]; rfl
  have HC := Lib.hid (fun W (h : Var0 W) => cut_calls R W h (by rw [← size_list, hRd, List.length_drop, size_list]; omega))
  rw [hRd, hq] at HC
  have HU := Lib.hid (fun W => unname_calls (bs qr) W (by rw [bs_size]; omega))
  rw [show (bs qr).data.toList = qr from rfl, hun] at HU
  obtain ⟨Y, hY⟩ : ∃ Y, Y = bs r2 := ⟨_, rfl⟩
  have hYz : 8 ≤ Y.size := by rw [hY, bs_size]; exact h8
  have hYz2 : Y.size ≤ 4096 := by rw [hY, bs_size]; exact hr2
  have HN := Lib.hid (fun W => number_calls (Y.extract 0 8) W (by rw [str_take, bs_size, List.length_take]; omega))
  rw [show (Y.extract 0 8).data.toList = r2.take 8 by rw [str_take, hY]; rfl] at HN
  have hN0 : val (r2.take 8) ≤ top := by
    have h1 := val_lt (r2.take 8)
    rw [List.length_take, Nat.min_eq_left h8] at h1
    have : (256 : Nat) ^ 8 = 18446744073709551616 := by decide
    unfold top; omega
  have hx := comp_u64 _ hN0
  have HEnc := Lib.hid (fun W (h : Var0 W) => encode_calls ⟨3, bs qb, bs nm, top - val (r2.take 8), 0⟩ W h ⟨by show (bs qb).size ≤ _; rw [bs_size]; exact hqb, by show (bs nm).size ≤ _; rw [bs_size]; exact hnm, by show 3 < 256; decide, Nat.sub_le _ _⟩)
  obtain ⟨N0, hN⟩ : ∃ N0, N0 = val (r2.take 8) := ⟨_, rfl⟩
  obtain ⟨N1, hN1⟩ : ∃ N1, N1 = top - N0 := ⟨_, rfl⟩
  rw [← hN] at HN hx HEnc
  rw [← hN]
  rw [← hN1] at hx HEnc
  rw [← hN1]
  unfold unV at HU
  simp only [← hY] at HU
  obtain ⟨zb, hzb⟩ : ∃ z, z = bs qb := ⟨_, rfl⟩
  obtain ⟨zr, hzr⟩ : ∃ z, z = bs qr := ⟨_, rfl⟩
  obtain ⟨zn, hzn⟩ : ∃ z, z = bs nm := ⟨_, rfl⟩
  rw [← hzb] at HEnc
  rw [← hzn] at HEnc
  rw [← hzb, ← hzn]
  simp only [← hzr, ← hzn] at HU
  simp only [← hzb, ← hzr] at HC
  have hRs : s.extract 1 s.size = R := hR.symm
  unfold encR at HEnc
  have hcase : ∃ (T : ByteArray) (E : Int) (out : Value), decEnd ⟨3, zb, zn, N1, 0⟩ s.data.toList = out ∧ Hid (∀ W, Var0 W → Calls Tryz.prog 24 #[(Key.mk 3 zb zn N1 0).val] W fun e w' => e = .returned (.tuple #[.string T, .int .i64 E]) ∧ Below W.heap.size W w') ∧
      ((E = 2 ∧ out = .tuple #[zeroK.val, .int .i64 8]) ∨ (E = 0 ∧ (T.toList == s.toList) = false ∧ out = .tuple #[zeroK.val, .int .i64 8]) ∨ (E = 0 ∧ (T.toList == s.toList) = true ∧ out = .tuple #[(Key.mk 3 zb zn N1 0).val, .int .i64 0])) := by
    unfold decEnd
    cases hm : mayB ⟨3, zb, zn, N1, 0⟩
    · rw [hm] at HEnc
      exact ⟨_, _, _, if_neg (by simp), HEnc, .inl ⟨rfl, rfl⟩⟩
    · rw [hm] at HEnc
      by_cases he : encL ⟨3, zb, zn, N1, 0⟩ = s.data.toList
      · exact ⟨_, _, _, if_pos ⟨rfl, he⟩, HEnc, .inr (.inr ⟨rfl, by rw [he, bs_list]; simp, rfl⟩)⟩
      · exact ⟨_, _, _, if_neg (fun h => he h.2), HEnc, .inr (.inl ⟨rfl, by
          rw [beq_eq_false_iff_ne, ByteArray.toList_eq, ByteArray.toList_eq]
          exact he, rfl⟩)⟩
  obtain ⟨T, E, out, hout, HEn2, hcase⟩ := hcase
  rw [hout]
  clear hN hN1 hzb hzr hzn hY hRd hq hun h8 hqb hqr hnm hr2 hN0 HEnc hout
  clear hR
  have HH : Hid (∀ W, Calls Tryz.prog 36 #[.int .u8 3] W fun e w' => e = .returned (.tuple #[.bool true, .bool true, .bool true, .bool false]) ∧ w' = W) := has_calls 3
  have hK0 : KeyAt ((w.alloc (.cells zeroK.cells 60)).alloc (.cells (Key.mk 3 ⟨#[]⟩ ⟨#[]⟩ 0 0).cells 60)) w.heap.size zeroK := KeyAt.below (w := w.alloc (.cells zeroK.cells 60)) (MapKept.heap_alloc w _).1 (below_one _ _)
  have hK1 : KeyAt ((w.alloc (.cells zeroK.cells 60)).alloc (.cells (Key.mk 3 ⟨#[]⟩ ⟨#[]⟩ 0 0).cells 60)) (w.heap.size + 1) (Key.mk 3 ⟨#[]⟩ ⟨#[]⟩ 0 0) := by
    have := (MapKept.heap_alloc (w.alloc (.cells zeroK.cells 60)) (.cells (Key.mk 3 ⟨#[]⟩ ⟨#[]⟩ 0 0).cells 60)).1
    rw [show (w.alloc (.cells zeroK.cells 60)).heap.size = w.heap.size + 1 by simp] at this
    exact this
  have hv1 := (hv.below (below_one w (.cells zeroK.cells 60))).below (below_one _ (.cells (Key.mk 3 ⟨#[]⟩ ⟨#[]⟩ 0 0).cells 60))
  have b1 := below_alloc (below_one w (.cells zeroK.cells 60)) (.cells (Key.mk 3 ⟨#[]⟩ ⟨#[]⟩ 0 0).cells 60)
  rcases hcase with ⟨rfl, rfl⟩ | ⟨rfl, hTs, rfl⟩ | ⟨rfl, hTs, rfl⟩
  · go_enter Tryz.func30, Tryz.ntmps30
    go_wp2_with fail
    refine (HH.out _).mono ?_
    rintro e w1 ⟨rfl, hw1⟩
    subst hw1
    go_wp2_with fail
    refine (HC.out _ hv1).mono ?_
    rintro e w2 ⟨rfl, hb2⟩
    have hA0 := hK0.below hb2
    have hA1 := hK1.below hb2
    have hv2 := hv1.below hb2
    have b2 := below_of b1 hb2
    obtain ⟨p0, p1, p2, p3, p4⟩ := hA1.c
    have f1 := hA1.f 1
    have hne1 : w.heap.size + 1 ≠ w.heap.size := by omega
    have hB1 := hA1.set1 zb
    have hB0 := hA0.other ⟨w.heap.size + 1, 1, none⟩ hne1 (.string zb)
    have hvB := hv2.set ⟨w.heap.size + 1, 1, none⟩ (hv.ne (Nat.le_succ _)) (.string zb)
    have bB := below_key b2 ⟨w.heap.size + 1, 1, none⟩ (by simp) (.string zb)
    clear hK0 hK1 hv1 b1 hb2
    go_wp2_with fail
    refine (HU.out _).mono ?_
    rintro e w3 ⟨rfl, hb3⟩
    have hC0 := hB0.below hb3
    have hC1 := hB1.below hb3
    have hv3 := hvB.below hb3
    have b3 := below_of bB hb3
    clear p0 p1 p2 p3 p4 f1 hA0 hA1 hB0 hB1 hvB bB hb3 hv2 b2
    obtain ⟨p0, p1, p2, p3, p4⟩ := hC1.c
    have f2 := hC1.f 2
    have f3 := hC1.f 3
    have hd1 : decide (Y.size < 8) = false := by rw [decide_eq_false_iff_not]; omega
    have hD1 := ((hC1.set2 zn).set3 N0).set3 N1
    have hD0 := ((hC0.other ⟨w.heap.size + 1, 2, none⟩ hne1 (.string zn)).other ⟨w.heap.size + 1, 3, none⟩ hne1 (.int .u64 (N0 : Int))).other ⟨w.heap.size + 1, 3, none⟩ hne1 (.int .u64 (N1 : Int))
    have hvD := ((hv3.set ⟨w.heap.size + 1, 2, none⟩ (hv.ne (Nat.le_succ _)) (.string zn)).set ⟨w.heap.size + 1, 3, none⟩ (hv.ne (Nat.le_succ _)) (.int .u64 (N0 : Int))).set ⟨w.heap.size + 1, 3, none⟩ (hv.ne (Nat.le_succ _)) (.int .u64 (N1 : Int))
    have bD := below_drew (below_key (below_key (below_key b3 ⟨w.heap.size + 1, 2, none⟩ (by simp) (.string zn)) ⟨w.heap.size + 1, 3, none⟩ (by simp) (.int .u64 (N0 : Int))) ⟨w.heap.size + 1, 3, none⟩ (by simp) (.int .u64 (N1 : Int)))
    obtain ⟨r0, r1, r2, r3, r4⟩ := hD1.c
    have hE1 := hD1.drew
    have hE0 := hD0.drew
    have hvE := hvD.drew
    clear hC0 hC1 hv3 hD0 hvD b3
    go_wp2_with fail
    go_region_held3 (fun _ => True) (first | trivial) (first | (go_at_call 53; refine (HN.out _).mono ?_; rintro e wN ⟨rfl, hwN⟩; subst hwN))
    all_goals
      go_wp2_with fail
      refine (HEn2.out _ hvE).mono ?_
      rintro e w4 ⟨rfl, hb4⟩
      have hF1 := hE1.below hb4
      have hF0 := hE0.below hb4
      have b4 := below_of bD hb4
      clear p0 p1 p2 p3 p4 r0 r1 r2 r3 r4 f2 f3 hE1 hE0 hvE bD hb4 HEn2 HC HU HN
      obtain ⟨p0, p1, p2, p3, p4⟩ := hF1.c
      obtain ⟨z0, z1, z2, z3, z4⟩ := hF0.c
      have g0 := hF0.f 0
      have g1 := hF0.f 1
      have g2 := hF0.f 2
      have g3 := hF0.f 3
      have g4 := hF0.f 4
      have hG := hF0.setAll zeroK
      go_wp2
      refine bodyPost_ret (results_key rfl _ _ w.heap.size 60 (Key.cells zeroK) (0, 0) _ rfl hG Tryz.underlying60 rfl (by kernel_rfl)) rfl ?_
      exact ⟨rfl, below_key (below_key (below_key (below_key (below_key b4 ⟨w.heap.size, 0, none⟩ (Nat.le_refl _) _) ⟨w.heap.size, 1, none⟩ (Nat.le_refl _) _) ⟨w.heap.size, 2, none⟩ (Nat.le_refl _) _) ⟨w.heap.size, 3, none⟩ (Nat.le_refl _) _) ⟨w.heap.size, 4, none⟩ (Nat.le_refl _) _⟩
  · go_enter Tryz.func30, Tryz.ntmps30
    go_wp2_with fail
    refine (HH.out _).mono ?_
    rintro e w1 ⟨rfl, hw1⟩
    subst hw1
    go_wp2_with fail
    refine (HC.out _ hv1).mono ?_
    rintro e w2 ⟨rfl, hb2⟩
    have hA0 := hK0.below hb2
    have hA1 := hK1.below hb2
    have hv2 := hv1.below hb2
    have b2 := below_of b1 hb2
    obtain ⟨p0, p1, p2, p3, p4⟩ := hA1.c
    have f1 := hA1.f 1
    have hne1 : w.heap.size + 1 ≠ w.heap.size := by omega
    have hB1 := hA1.set1 zb
    have hB0 := hA0.other ⟨w.heap.size + 1, 1, none⟩ hne1 (.string zb)
    have hvB := hv2.set ⟨w.heap.size + 1, 1, none⟩ (hv.ne (Nat.le_succ _)) (.string zb)
    have bB := below_key b2 ⟨w.heap.size + 1, 1, none⟩ (by simp) (.string zb)
    clear hK0 hK1 hv1 b1 hb2
    go_wp2_with fail
    refine (HU.out _).mono ?_
    rintro e w3 ⟨rfl, hb3⟩
    have hC0 := hB0.below hb3
    have hC1 := hB1.below hb3
    have hv3 := hvB.below hb3
    have b3 := below_of bB hb3
    clear p0 p1 p2 p3 p4 f1 hA0 hA1 hB0 hB1 hvB bB hb3 hv2 b2
    obtain ⟨p0, p1, p2, p3, p4⟩ := hC1.c
    have f2 := hC1.f 2
    have f3 := hC1.f 3
    have hd1 : decide (Y.size < 8) = false := by rw [decide_eq_false_iff_not]; omega
    have hD1 := ((hC1.set2 zn).set3 N0).set3 N1
    have hD0 := ((hC0.other ⟨w.heap.size + 1, 2, none⟩ hne1 (.string zn)).other ⟨w.heap.size + 1, 3, none⟩ hne1 (.int .u64 (N0 : Int))).other ⟨w.heap.size + 1, 3, none⟩ hne1 (.int .u64 (N1 : Int))
    have hvD := ((hv3.set ⟨w.heap.size + 1, 2, none⟩ (hv.ne (Nat.le_succ _)) (.string zn)).set ⟨w.heap.size + 1, 3, none⟩ (hv.ne (Nat.le_succ _)) (.int .u64 (N0 : Int))).set ⟨w.heap.size + 1, 3, none⟩ (hv.ne (Nat.le_succ _)) (.int .u64 (N1 : Int))
    have bD := below_drew (below_key (below_key (below_key b3 ⟨w.heap.size + 1, 2, none⟩ (by simp) (.string zn)) ⟨w.heap.size + 1, 3, none⟩ (by simp) (.int .u64 (N0 : Int))) ⟨w.heap.size + 1, 3, none⟩ (by simp) (.int .u64 (N1 : Int)))
    obtain ⟨r0, r1, r2, r3, r4⟩ := hD1.c
    have hE1 := hD1.drew
    have hE0 := hD0.drew
    have hvE := hvD.drew
    clear hC0 hC1 hv3 hD0 hvD b3
    go_wp2_with fail
    go_region_held3 (fun _ => True) (first | trivial) (first | (go_at_call 53; refine (HN.out _).mono ?_; rintro e wN ⟨rfl, hwN⟩; subst hwN))
    all_goals
      go_wp2_with fail
      refine (HEn2.out _ hvE).mono ?_
      rintro e w4 ⟨rfl, hb4⟩
      have hF1 := hE1.below hb4
      have hF0 := hE0.below hb4
      have b4 := below_of bD hb4
      clear p0 p1 p2 p3 p4 r0 r1 r2 r3 r4 f2 f3 hE1 hE0 hvE bD hb4 HEn2 HC HU HN
      obtain ⟨p0, p1, p2, p3, p4⟩ := hF1.c
      obtain ⟨z0, z1, z2, z3, z4⟩ := hF0.c
      have g0 := hF0.f 0
      have g1 := hF0.f 1
      have g2 := hF0.f 2
      have g3 := hF0.f 3
      have g4 := hF0.f 4
      have hG := hF0.setAll zeroK
      go_wp2
      refine bodyPost_ret (results_key rfl _ _ w.heap.size 60 (Key.cells zeroK) (0, 0) _ rfl hG Tryz.underlying60 rfl (by kernel_rfl)) rfl ?_
      exact ⟨rfl, below_key (below_key (below_key (below_key (below_key b4 ⟨w.heap.size, 0, none⟩ (Nat.le_refl _) _) ⟨w.heap.size, 1, none⟩ (Nat.le_refl _) _) ⟨w.heap.size, 2, none⟩ (Nat.le_refl _) _) ⟨w.heap.size, 3, none⟩ (Nat.le_refl _) _) ⟨w.heap.size, 4, none⟩ (Nat.le_refl _) _⟩
  · go_enter Tryz.func30, Tryz.ntmps30
    go_wp2_with fail
    refine (HH.out _).mono ?_
    rintro e w1 ⟨rfl, hw1⟩
    subst hw1
    go_wp2_with fail
    refine (HC.out _ hv1).mono ?_
    rintro e w2 ⟨rfl, hb2⟩
    have hA0 := hK0.below hb2
    have hA1 := hK1.below hb2
    have hv2 := hv1.below hb2
    have b2 := below_of b1 hb2
    obtain ⟨p0, p1, p2, p3, p4⟩ := hA1.c
    have f1 := hA1.f 1
    have hne1 : w.heap.size + 1 ≠ w.heap.size := by omega
    have hB1 := hA1.set1 zb
    have hB0 := hA0.other ⟨w.heap.size + 1, 1, none⟩ hne1 (.string zb)
    have hvB := hv2.set ⟨w.heap.size + 1, 1, none⟩ (hv.ne (Nat.le_succ _)) (.string zb)
    have bB := below_key b2 ⟨w.heap.size + 1, 1, none⟩ (by simp) (.string zb)
    clear hK0 hK1 hv1 b1 hb2
    go_wp2_with fail
    refine (HU.out _).mono ?_
    rintro e w3 ⟨rfl, hb3⟩
    have hC0 := hB0.below hb3
    have hC1 := hB1.below hb3
    have hv3 := hvB.below hb3
    have b3 := below_of bB hb3
    clear p0 p1 p2 p3 p4 f1 hA0 hA1 hB0 hB1 hvB bB hb3 hv2 b2
    obtain ⟨p0, p1, p2, p3, p4⟩ := hC1.c
    have f2 := hC1.f 2
    have f3 := hC1.f 3
    have hd1 : decide (Y.size < 8) = false := by rw [decide_eq_false_iff_not]; omega
    have hD1 := ((hC1.set2 zn).set3 N0).set3 N1
    have hD0 := ((hC0.other ⟨w.heap.size + 1, 2, none⟩ hne1 (.string zn)).other ⟨w.heap.size + 1, 3, none⟩ hne1 (.int .u64 (N0 : Int))).other ⟨w.heap.size + 1, 3, none⟩ hne1 (.int .u64 (N1 : Int))
    have hvD := ((hv3.set ⟨w.heap.size + 1, 2, none⟩ (hv.ne (Nat.le_succ _)) (.string zn)).set ⟨w.heap.size + 1, 3, none⟩ (hv.ne (Nat.le_succ _)) (.int .u64 (N0 : Int))).set ⟨w.heap.size + 1, 3, none⟩ (hv.ne (Nat.le_succ _)) (.int .u64 (N1 : Int))
    have bD := below_drew (below_key (below_key (below_key b3 ⟨w.heap.size + 1, 2, none⟩ (by simp) (.string zn)) ⟨w.heap.size + 1, 3, none⟩ (by simp) (.int .u64 (N0 : Int))) ⟨w.heap.size + 1, 3, none⟩ (by simp) (.int .u64 (N1 : Int)))
    obtain ⟨r0, r1, r2, r3, r4⟩ := hD1.c
    have hE1 := hD1.drew
    have hE0 := hD0.drew
    have hvE := hvD.drew
    clear hC0 hC1 hv3 hD0 hvD b3
    go_wp2_with fail
    go_region_held3 (fun _ => True) (first | trivial) (first | (go_at_call 53; refine (HN.out _).mono ?_; rintro e wN ⟨rfl, hwN⟩; subst hwN))
    all_goals
      go_wp2_with fail
      refine (HEn2.out _ hvE).mono ?_
      rintro e w4 ⟨rfl, hb4⟩
      have hF1 := hE1.below hb4
      have hF0 := hE0.below hb4
      have b4 := below_of bD hb4
      clear p0 p1 p2 p3 p4 r0 r1 r2 r3 r4 f2 f3 hE1 hE0 hvE bD hb4 HEn2 HC HU HN
      obtain ⟨p0, p1, p2, p3, p4⟩ := hF1.c
      obtain ⟨z0, z1, z2, z3, z4⟩ := hF0.c
      have g0 := hF0.f 0
      have g1 := hF0.f 1
      have g2 := hF0.f 2
      have g3 := hF0.f 3
      have g4 := hF0.f 4
      have hG := hF0.setAll ⟨3, zb, zn, N1, 0⟩
      go_wp2
      refine bodyPost_ret (results_key rfl _ _ w.heap.size 60 (Key.cells ⟨3, zb, zn, N1, 0⟩) (0, 0) _ rfl hG Tryz.underlying60 rfl (by kernel_rfl)) rfl ?_
      exact ⟨rfl, below_key (below_key (below_key (below_key (below_key b4 ⟨w.heap.size, 0, none⟩ (Nat.le_refl _) _) ⟨w.heap.size, 1, none⟩ (Nat.le_refl _) _) ⟨w.heap.size, 2, none⟩ (Nat.le_refl _) _) ⟨w.heap.size, 3, none⟩ (Nat.le_refl _) _) ⟨w.heap.size, 4, none⟩ (Nat.le_refl _) _⟩

end Go.Proofs.YtaeiahkomdpcoaaGreatDoor.Name
end

section
/- The walks of package name's Behind, of hoardlaw13's long and works. -/
namespace Go.Proofs.YtaeiahkomdpcoaaGreatDoor.Name
open Go.RowKit Go.Shelf

/-- What is behind all that begins with these bytes (the bytes from the end on). -/
def behindR : Bs → Bs
  | [] => []
  | c :: r => if c = 255 then behindR r else r.reverse ++ [c + 1]
def behindL (l : Bs) : Bs := behindR l.reverse
theorem behind_end (s : Bs) (k : Nat) (h : k < s.length) : behindR (s.take (k + 1)).reverse = if s[k] = 255 then behindR (s.take k).reverse else s.take k ++ [s[k] + 1] := by
  rw [List.take_succ_eq_append_getElem h, List.reverse_append]
  simp only [List.reverse_cons, List.reverse_nil, List.nil_append, List.singleton_append, behindR, List.reverse_reverse]

theorem conv_one_drew (w : World) (n : Int) (c : UInt8) (hn : n = (c.toNat : Int)) (t : TypeId) :
    (convert 82 9 (.slice (some ⟨w.heap.size, 0, none⟩) 1 1)).run Tryz.prog (w.alloc (.cells #[.int .u8 n] t)).drew = .ok (.string (bs [c])) (w.alloc (.cells #[.int .u8 n] t)).drew := by
  subst hn
  have h : RowAt (w.alloc (.cells #[.int .u8 (c.toNat : Int)] t)) w.heap.size [c] := by
    intro i d hd
    cases i with
    | zero =>
      simp at hd; subst hd
      exact ⟨by simp, by simp⟩
    | succ i => simp at hd
  exact conv_row _ _ [c] 1 1 rfl h.drew

/-- A list of texts at an address, nil let in. -/
def ListAt (w : World) (A : Option Addr) (vs : List Value) : Prop := 0 < vs.length → ∃ ad, A = some ad ∧ ad.block < w.heap.size ∧ ∀ i v, vs[i]? = some v → w.cell? (ad.add i) = some v
theorem listAt_lit (w : World) (vs : List Value) (t : TypeId) : ListAt (w.alloc (.cells vs.toArray t)) (some ⟨w.heap.size, 0, none⟩) vs := fun _ => by
  refine ⟨_, rfl, by simp, fun i v hv => ?_⟩
  have hb := (MapKept.heap_alloc w (.cells vs.toArray t)).1
  have e : (⟨w.heap.size, 0, none⟩ : Addr).add i = ⟨w.heap.size, i, none⟩ := by unfold Addr.add; split <;> simp_all
  rw [e, Joins.cell_of_block hb]
  simpa using hv

def LongR (t : List ByteArray) (w : World) (e : Ending) (w' : World) : Prop := ∃ b, e = .returned (.bool b) ∧ (b = false → ∀ s ∈ t, s.size ≤ 2048) ∧ w' = w


end Go.Proofs.YtaeiahkomdpcoaaGreatDoor.Name
end

section
/- The walk of hoardlaw13.works. -/
namespace Go.Proofs.YtaeiahkomdpcoaaGreatDoor.Name
open Go.RowKit Go.Shelf

def keyW : Key := ⟨3, ⟨#[97]⟩, ⟨#[120]⟩, 2, 0⟩
set_option maxRecDepth 100000 in
theorem enc_w : encR keyW = .tuple #[.string ⟨#[3, 97, 0, 120, 0, 1, 255, 255, 255, 255, 255, 255, 255, 253]⟩, .int .i64 0] := by kernel_rfl
set_option maxRecDepth 100000 in
theorem enc_w2 : encR ⟨2, ⟨#[45, 97]⟩, ⟨#[]⟩, 0, 0⟩ = .tuple #[.string ⟨#[]⟩, .int .i64 2] := by kernel_rfl
set_option maxRecDepth 100000 in
theorem dec_w : decEnd ⟨3, bs [97], bs [120], top - val [255, 255, 255, 255, 255, 255, 255, 253], 0⟩ [3, 97, 0, 120, 0, 1, 255, 255, 255, 255, 255, 255, 255, 253] = .tuple #[keyW.val, .int .i64 0] := by kernel_rfl
set_option maxRecDepth 100000 in
theorem dec_w2 : decEnd ⟨3, bs [97], bs [120], top - val [255, 255, 255, 255, 255, 255, 255, 253], 0⟩ [3, 97, 0, 120, 0, 1, 255, 255, 255, 255, 255, 255, 255, 253, 120] = .tuple #[zeroK.val, .int .i64 8] := by kernel_rfl


end Go.Proofs.YtaeiahkomdpcoaaGreatDoor.Name
end

section
/- The walk of package name's Prefix (printed by genpre.py). -/
namespace Go.Proofs.YtaeiahkomdpcoaaGreatDoor.Name
open Go.RowKit Go.Shelf

/-- What keys begin with, so deep. -/
def prefL (k : Key) (d : Int) : Option Bs :=
  if d < 1 ∨ 4 < d ∨ k.kind < 1 ∨ 6 < k.kind then none
  else if d = 1 then some [UInt8.ofNat k.kind]
  else if hasB k.kind = false ∨ bucketL k.bucket.data.toList = false then none
  else if d = 2 then some (UInt8.ofNat k.kind :: (k.bucket.data.toList ++ [0]))
  else if d = 4 ∧ k.kind = 5 then some (UInt8.ofNat k.kind :: (k.bucket.data.toList ++ [0]) ++ be 8 k.n)
  else if k.kind ≠ 3 ∨ 200 < k.name.size ∨ (d = 4 ∧ k.name = ⟨#[]⟩) then none
  else if d = 4 then some (UInt8.ofNat k.kind :: (k.bucket.data.toList ++ [0]) ++ esc k.name.data.toList ++ [0, 1])
  else some (UInt8.ofNat k.kind :: (k.bucket.data.toList ++ [0]) ++ esc k.name.data.toList)
def prefR (k : Key) (d : Int) : Value := match prefL k d with
  | some l => .tuple #[.string (bs l), .int .i64 0]
  | none => .tuple #[.string ⟨#[]⟩, .int .i64 2]
theorem kind_byte (k : Nat) (h : k < 256) : (k : Int) = ((UInt8.ofNat k).toNat : Int) := by
  rw [UInt8.toNat_ofNat', Nat.mod_eq_of_lt h]


end Go.Proofs.YtaeiahkomdpcoaaGreatDoor.Name
end

section
/- The walk of package name's Decode, of any bytes. -/
namespace Go.Proofs.YtaeiahkomdpcoaaGreatDoor.Name
open Go.RowKit Go.Shelf

structure Dec where
  key : Key
  rest : Bs
  is : Bool
def dec1 (c : Nat) (r : Bs) : Dec := if hasB c then ⟨⟨c, bs (Lib.cut r [0]).1, ⟨#[]⟩, 0, 0⟩, (Lib.cut r [0]).2.1, (Lib.cut r [0]).2.2⟩ else ⟨⟨c, ⟨#[]⟩, ⟨#[]⟩, 0, 0⟩, r, true⟩
def dec2 (d : Dec) : Dec := if d.is && decide (d.key.kind = 3) then (match un d.rest with
  | some p => ⟨{ d.key with name := bs p.1 }, p.2, true⟩
  | none => ⟨{ d.key with name := ⟨#[]⟩ }, [], false⟩) else d
def dec3 (d : Dec) : Dec := if d.is && hasN d.key.kind && decide (8 ≤ d.rest.length) then ⟨{ d.key with n := if d.key.kind = 3 then top - val (d.rest.take 8) else val (d.rest.take 8) }, d.rest.drop 8, d.is⟩ else d
def dec4 (d : Dec) : Dec := if d.is && decide (d.key.kind = 5) && decide (d.rest.length = 2) then ⟨{ d.key with part := (val d.rest : Int) }, d.rest, d.is⟩ else d
/-- What Decode reads of these bytes. -/
def decD (s : Bs) : Dec := dec4 (dec3 (dec2 (dec1 (s.getD 0 0).toNat (s.drop 1))))
def decR (s : Bs) : Value := if s ≠ [] ∧ (decD s).is = true ∧ mayB (decD s).key = true ∧ encL (decD s).key = s then .tuple #[(decD s).key.val, .int .i64 0] else .tuple #[zeroK.val, .int .i64 8]

theorem cut_len (r : Bs) : (Lib.cut r [0]).1.length ≤ r.length ∧ (Lib.cut r [0]).2.1.length ≤ r.length := by
  unfold Lib.cut
  split
  · simp only [List.length_take, List.length_drop]; omega
  · simp
theorem un_len : ∀ (r : Bs) (p : Bs × Bs), un r = some p → p.1.length ≤ r.length ∧ p.2.length ≤ r.length
  | [], p, h => by simp [un] at h
  | [_], p, h => by simp [un] at h
  | c :: d :: r, p, h => by
    unfold un at h
    split at h
    · cases hu : un (d :: r) with
      | none => rw [hu] at h; cases h
      | some q =>
        rw [hu] at h
        obtain rfl := (Option.some.inj h).symm
        have := un_len (d :: r) q hu
        simp only [List.length_cons] at this ⊢
        omega
    · split at h
      · cases hu : un r with
        | none => rw [hu] at h; cases h
        | some q =>
          rw [hu] at h
          obtain rfl := (Option.some.inj h).symm
          have := un_len r q hu
          simp only [List.length_cons] at this ⊢
          omega
      · split at h
        · obtain rfl := (Option.some.inj h).symm
          simp only [List.length_cons, List.length_nil]
          omega
        · cases h

/-- The state while a key is read. -/
def St (w : World) (K : Key) (w' : World) : Prop := KeyAt w' w.heap.size zeroK ∧ KeyAt w' (w.heap.size + 1) K ∧ Var0 w' ∧ Below w.heap.size w w'
section
variable {w w1 : World} {K : Key}
theorem St.below (h : St w K w1) {w2 : World} (hb : Below w1.heap.size w1 w2) : St w K w2 := ⟨h.1.below hb, h.2.1.below hb, h.2.2.1.below hb, below_of h.2.2.2 hb⟩
theorem St.drew (h : St w K w1) : St w K w1.drew := ⟨h.1.drew, h.2.1.drew, h.2.2.1.drew, below_drew h.2.2.2⟩
theorem St.ne (h : St w K w1) : w.heap.size + 1 ≠ 2 := fun e => by
  obtain ⟨m, hm, _⟩ := h.2.2.1
  have h1 := h.2.1.c.1
  rw [e, hm] at h1
  cases h1
theorem St.put (h : St w K w1) (i : Nat) (v : Value) {K' : Key} (h2 : KeyAt (w1.setCell ⟨w.heap.size + 1, i, none⟩ v) (w.heap.size + 1) K') : St w K' (w1.setCell ⟨w.heap.size + 1, i, none⟩ v) :=
  ⟨h.1.other ⟨w.heap.size + 1, i, none⟩ (by show w.heap.size + 1 ≠ w.heap.size; omega) v, h2, h.2.2.1.set ⟨w.heap.size + 1, i, none⟩ h.ne v, below_key h.2.2.2 ⟨w.heap.size + 1, i, none⟩ (by show w.heap.size ≤ w.heap.size + 1; omega) v⟩
theorem St.set1 (h : St w K w1) (x : ByteArray) : St w { K with bucket := x } (w1.setCell ⟨w.heap.size + 1, 1, none⟩ (.string x)) := h.put 1 _ (h.2.1.set1 x)
theorem St.set2 (h : St w K w1) (x : ByteArray) : St w { K with name := x } (w1.setCell ⟨w.heap.size + 1, 2, none⟩ (.string x)) := h.put 2 _ (h.2.1.set2 x)
theorem St.set3 (h : St w K w1) (x : Nat) : St w { K with n := x } (w1.setCell ⟨w.heap.size + 1, 3, none⟩ (.int .u64 (x : Int))) := h.put 3 _ (h.2.1.set3 x)
theorem St.set4 (h : St w K w1) (x : Int) : St w { K with part := x } (w1.setCell ⟨w.heap.size + 1, 4, none⟩ (.int .i64 x)) := h.put 4 _ (h.2.1.set4 x)
end

def K0 (c : Nat) : Key := ⟨c, ⟨#[]⟩, ⟨#[]⟩, 0, 0⟩
def Plan1 (c : Nat) (R : ByteArray) (K1 : Key) (y1 : ByteArray) (i1 : Bool) : Prop :=
  (hasB c = true ∧ ∃ zb, K1 = { K0 c with bucket := zb } ∧ Hid (∀ W, Var0 W → Calls Tryz.prog 51 #[.string R, .string ⟨#[0]⟩] W fun e w' => e = .returned (.tuple #[.string zb, .string y1, .bool i1]) ∧ Below W.heap.size W w')) ∨
  (hasB c = false ∧ K1 = K0 c ∧ y1 = R ∧ i1 = true)
def Plan2 (c : Nat) (K1 : Key) (y1 : ByteArray) (i1 : Bool) (K2 : Key) (y2 : ByteArray) (i2 : Bool) : Prop :=
  (i1 = true ∧ c = 3 ∧ ∃ zn, K2 = { K1 with name := zn } ∧ Hid (∀ W, Calls Tryz.prog 52 #[.string y1] W fun e w' => e = .returned (.tuple #[.string zn, .string y2, .bool i2]) ∧ Below W.heap.size W w')) ∨
  ((i1 && decide (c = 3)) = false ∧ K2 = K1 ∧ y2 = y1 ∧ i2 = i1)
def Plan3 (c : Nat) (K2 : Key) (y2 : ByteArray) (i2 : Bool) (K3 : Key) (y3 : ByteArray) : Prop :=
  ((i2 = true ∧ hasN c = true ∧ 8 ≤ y2.size) ∧ ∃ N0, N0 ≤ top ∧ K3 = { K2 with n := if c = 3 then top - N0 else N0 } ∧ y3 = y2.extract 8 y2.size ∧ Hid (∀ W, Calls Tryz.prog 53 #[.string (y2.extract 0 8)] W fun e w' => e = .returned (.int .u64 (N0 : Int)) ∧ w' = W)) ∨
  ((i2 && (hasN c && decide (8 ≤ y2.size))) = false ∧ K3 = K2 ∧ y3 = y2)
def Plan4 (c : Nat) (K3 : Key) (y3 : ByteArray) (i2 : Bool) (K4 : Key) : Prop :=
  ((i2 = true ∧ c = 5 ∧ y3.size = 2) ∧ ∃ N0 : Nat, N0 < 65536 ∧ K4 = { K3 with part := (N0 : Int) } ∧ Hid (∀ W, Calls Tryz.prog 53 #[.string y3] W fun e w' => e = .returned (.int .u64 (N0 : Int)) ∧ w' = W)) ∨
  ((i2 && (decide (c = 5) && decide (y3.size = 2))) = false ∧ K4 = K3)
def Plan5 (s : ByteArray) (K4 : Key) (i2 : Bool) : Prop := ∃ (T : ByteArray) (E : Int), Hid (∀ W, Var0 W → Calls Tryz.prog 24 #[K4.val] W fun e w' => e = .returned (.tuple #[.string T, .int .i64 E]) ∧ Below W.heap.size W w') ∧
  ((i2 = false ∧ decR s.data.toList = .tuple #[zeroK.val, .int .i64 8]) ∨ (i2 = true ∧ (E == 0) = false ∧ decR s.data.toList = .tuple #[zeroK.val, .int .i64 8]) ∨
    (i2 = true ∧ E = 0 ∧ (T.toList == s.toList) = false ∧ decR s.data.toList = .tuple #[zeroK.val, .int .i64 8]) ∨ (i2 = true ∧ E = 0 ∧ (T.toList == s.toList) = true ∧ decR s.data.toList = .tuple #[K4.val, .int .i64 0]))

theorem plan (s : ByteArray) (hs : s.size ≤ 4096) (h0 : 0 < s.size) :
    ∃ (K1 : Key) (y1 : ByteArray) (i1 : Bool) (K2 : Key) (y2 : ByteArray) (i2 : Bool) (K3 : Key) (y3 : ByteArray) (K4 : Key),
      y1.size ≤ 4096 ∧ y2.size ≤ 4096 ∧ y3.size ≤ 4096 ∧ Plan1 s[0].toNat (s.extract 1 s.size) K1 y1 i1 ∧ Plan2 s[0].toNat K1 y1 i1 K2 y2 i2 ∧ Plan3 s[0].toNat K2 y2 i2 K3 y3 ∧ Plan4 s[0].toNat K3 y3 i2 K4 ∧ Plan5 s K4 i2 := by
  have hRd : (s.extract 1 s.size).data.toList = s.data.toList.drop 1 := by rw [str_drop]; rfl
  have hg : s.data.toList.getD 0 0 = s[0] := getD_at s 0 h0
  have hcc := s[0].toNat_lt
  obtain ⟨c, hc⟩ : ∃ c, c = s[0].toNat := ⟨_, rfl⟩
  rw [← hc] at hcc
  rw [← hc]
  obtain ⟨d1, hd1⟩ : ∃ d, d = dec1 c (s.data.toList.drop 1) := ⟨_, rfl⟩
  obtain ⟨d2, hd2⟩ : ∃ d, d = dec2 d1 := ⟨_, rfl⟩
  obtain ⟨d3, hd3⟩ : ∃ d, d = dec3 d2 := ⟨_, rfl⟩
  obtain ⟨d4, hd4⟩ : ∃ d, d = dec4 d3 := ⟨_, rfl⟩
  have hD : decD s.data.toList = d4 := by unfold decD; rw [hg, hd4, hd3, hd2, hd1, hc]
  have hl1 : (s.data.toList.drop 1).length ≤ 4096 := by rw [List.length_drop, size_list]; omega
  have f1 : d1.key.kind = c ∧ d1.key.bucket.size ≤ 4096 ∧ d1.key.name.size ≤ 4096 ∧ d1.key.n ≤ top ∧ d1.rest.length ≤ 4096 := by
    rw [hd1]; unfold dec1
    have h1 := cut_len (s.data.toList.drop 1)
    split
    · exact ⟨rfl, by show (bs _).size ≤ _; rw [bs_size]; omega, by show 0 ≤ 4096; omega, Nat.zero_le _, Nat.le_trans h1.2 hl1⟩
    · exact ⟨rfl, by show 0 ≤ 4096; omega, by show 0 ≤ 4096; omega, Nat.zero_le _, hl1⟩
  have p1 : Plan1 c (s.extract 1 s.size) d1.key (bs d1.rest) d1.is := by
    rw [hd1]
    unfold Plan1 dec1
    cases hb : hasB c
    · exact .inr ⟨rfl, rfl, by show bs (s.data.toList.drop 1) = _; rw [str_drop], rfl⟩
    · refine .inl ⟨rfl, bs (Lib.cut (s.data.toList.drop 1) [0]).1, rfl, Lib.hid (fun W hv => ?_)⟩
      have := cut_calls (s.extract 1 s.size) W hv (by rw [← size_list, hRd]; omega)
      rw [hRd] at this
      exact this
  have f2 : d2.key.kind = c ∧ d2.key.bucket.size ≤ 4096 ∧ d2.key.name.size ≤ 4096 ∧ d2.key.n ≤ top ∧ d2.rest.length ≤ 4096 := by
    rw [hd2]; unfold dec2
    split
    · cases hu : un d1.rest with
      | none => exact ⟨f1.1, f1.2.1, by show 0 ≤ 4096; omega, f1.2.2.2.1, by show 0 ≤ 4096; omega⟩
      | some p =>
        have := un_len _ _ hu
        exact ⟨f1.1, f1.2.1, by show (bs _).size ≤ _; rw [bs_size]; omega, f1.2.2.2.1, Nat.le_trans this.2 f1.2.2.2.2⟩
    · exact f1
  have p2 : Plan2 c d1.key (bs d1.rest) d1.is d2.key (bs d2.rest) d2.is := by
    rw [hd2]
    unfold Plan2 dec2
    rw [show decide (d1.key.kind = 3) = decide (c = 3) by rw [f1.1]]
    have hU := fun W => unname_calls (bs d1.rest) W (by rw [bs_size]; omega)
    simp only [show (bs d1.rest).data.toList = d1.rest from rfl] at hU
    cases hi : (d1.is && decide (c = 3))
    · exact .inr ⟨rfl, rfl, rfl, rfl⟩
    · simp only [Bool.and_eq_true, decide_eq_true_eq] at hi
      refine .inl ⟨hi.1, hi.2, ?_⟩
      rw [if_pos rfl]
      cases hu : un d1.rest with
      | none =>
        rw [hu] at hU
        exact ⟨⟨#[]⟩, rfl, hU⟩
      | some p =>
        rw [hu] at hU
        exact ⟨bs p.1, rfl, hU⟩
  have e8 : (256 : Nat) ^ 8 = 18446744073709551616 := by decide
  have e2 : (256 : Nat) ^ 2 = 65536 := by decide
  have hv8 : 8 ≤ d2.rest.length → val (d2.rest.take 8) ≤ top := fun h => by
    have h1 := val_lt (d2.rest.take 8)
    rw [List.length_take, Nat.min_eq_left h, e8] at h1
    unfold top; omega
  have f3 : d3.key.kind = c ∧ d3.key.bucket.size ≤ 4096 ∧ d3.key.name.size ≤ 4096 ∧ d3.key.n ≤ top ∧ d3.rest.length ≤ 4096 ∧ d3.is = d2.is := by
    rw [hd3]; unfold dec3
    split
    · rename_i h
      simp only [Bool.and_eq_true, decide_eq_true_eq] at h
      refine ⟨f2.1, f2.2.1, f2.2.2.1, ?_, by show List.length _ ≤ _; rw [List.length_drop]; omega, rfl⟩
      show (if _ then _ else _) ≤ top
      split
      · exact Nat.sub_le _ _
      · exact hv8 h.2
    · exact ⟨f2.1, f2.2.1, f2.2.2.1, f2.2.2.2.1, f2.2.2.2.2, rfl⟩
  have p3 : Plan3 c d2.key (bs d2.rest) d2.is d3.key (bs d3.rest) := by
    rw [hd3]
    unfold Plan3 dec3
    rw [show (d2.is && hasN d2.key.kind && decide (8 ≤ d2.rest.length)) = (d2.is && hasN c && decide (8 ≤ d2.rest.length)) by rw [f2.1], bs_size]
    by_cases h : d2.is = true ∧ hasN c = true ∧ 8 ≤ d2.rest.length
    · refine .inl ⟨h, val (d2.rest.take 8), hv8 h.2.2, ?_, ?_, Lib.hid (fun W => ?_)⟩
      · rw [if_pos (by simp [h.1, h.2.1, h.2.2])]
        simp only [f2.1]
      · rw [if_pos (by simp [h.1, h.2.1, h.2.2]), ← bs_size, str_drop]; rfl
      · have := number_calls ((bs d2.rest).extract 0 8) W (by rw [str_take, bs_size, List.length_take]; omega)
        rw [show ((bs d2.rest).extract 0 8).data.toList = d2.rest.take 8 by rw [str_take]; rfl] at this
        exact this
    · have hf : (d2.is && (hasN c && decide (8 ≤ d2.rest.length))) = false := by
        rw [Bool.eq_false_iff]; intro hh; simp only [Bool.and_eq_true, decide_eq_true_eq] at hh; exact h hh
      refine .inr ⟨hf, ?_, ?_⟩ <;> rw [if_neg (by rw [Bool.and_assoc, hf]; decide)]
  have f4 : d4.key.kind = c ∧ d4.key.bucket.size ≤ 4096 ∧ d4.key.name.size ≤ 4096 ∧ d4.key.n ≤ top ∧ d4.is = d2.is := by
    rw [hd4]; unfold dec4
    split
    · exact ⟨f3.1, f3.2.1, f3.2.2.1, f3.2.2.2.1, f3.2.2.2.2.2⟩
    · exact ⟨f3.1, f3.2.1, f3.2.2.1, f3.2.2.2.1, f3.2.2.2.2.2⟩
  have p4 : Plan4 c d3.key (bs d3.rest) d2.is d4.key := by
    rw [hd4]
    unfold Plan4 dec4
    rw [show (d3.is && decide (d3.key.kind = 5) && decide (d3.rest.length = 2)) = (d2.is && decide (c = 5) && decide (d3.rest.length = 2)) by rw [f3.1, f3.2.2.2.2.2], bs_size]
    by_cases h : d2.is = true ∧ c = 5 ∧ d3.rest.length = 2
    · refine .inl ⟨h, val d3.rest, ?_, ?_, Lib.hid (fun W => ?_)⟩
      · have h1 := val_lt d3.rest
        rw [h.2.2, e2] at h1; exact h1
      · rw [if_pos (by simp [h.1, h.2.1, h.2.2])]
      · exact number_calls (bs d3.rest) W (by rw [bs_size, h.2.2]; omega)
    · have hf : (d2.is && (decide (c = 5) && decide (d3.rest.length = 2))) = false := by
        rw [Bool.eq_false_iff]; intro hh; simp only [Bool.and_eq_true, decide_eq_true_eq] at hh; exact h hh
      exact .inr ⟨hf, by rw [if_neg (by rw [Bool.and_assoc, hf]; decide)]⟩
  have hne : s.data.toList ≠ [] := fun e => by have := size_list s; rw [e] at this; simp at this; omega
  have p5 : Plan5 s d4.key d2.is := by
    have HEnc := fun W (h : Var0 W) => encode_calls d4.key W h ⟨f4.2.1, f4.2.2.1, by rw [f4.1]; exact hcc, f4.2.2.2.1⟩
    unfold encR at HEnc
    unfold Plan5 decR
    rw [hD, f4.2.2.2.2]
    cases hm : mayB d4.key
    · rw [hm] at HEnc
      refine ⟨_, _, HEnc, ?_⟩
      rw [if_neg (fun h => by cases h.2.2.1)]
      cases d2.is
      · exact .inl ⟨rfl, rfl⟩
      · exact .inr (.inl ⟨rfl, rfl, rfl⟩)
    · rw [hm] at HEnc
      refine ⟨_, _, HEnc, ?_⟩
      cases d2.is
      · rw [if_neg (fun h => by cases h.2.1)]
        exact .inl ⟨rfl, rfl⟩
      · by_cases he : encL d4.key = s.data.toList
        · rw [if_pos ⟨hne, rfl, rfl, he⟩]
          exact .inr (.inr (.inr ⟨rfl, rfl, by rw [he, bs_list]; simp, rfl⟩))
        · rw [if_neg (fun h => he h.2.2.2)]
          refine .inr (.inr (.inl ⟨rfl, rfl, ?_, rfl⟩))
          rw [beq_eq_false_iff_ne, ByteArray.toList_eq, ByteArray.toList_eq]
          exact he
  exact ⟨d1.key, bs d1.rest, d1.is, d2.key, bs d2.rest, d2.is, d3.key, bs d3.rest, d4.key, by rw [bs_size]; omega, by rw [bs_size]; omega, by rw [bs_size]; omega, p1, p2, p3, p4, p5⟩

end Go.Proofs.YtaeiahkomdpcoaaGreatDoor.Name
end

section
/- The walk of package name's Decode, of any bytes. -/
namespace Go.Proofs.YtaeiahkomdpcoaaGreatDoor.Name
open Go.RowKit Go.Shelf

set_option maxHeartbeats 1000000 in
set_option maxRecDepth 100000 in
theorem decode_none (w : World) : Calls Tryz.prog 30 #[.string ⟨#[]⟩] w fun e w' => e = .returned (.tuple #[zeroK.val, .int .i64 8]) ∧ Below w.heap.size w w' := by
  go_enter Tryz.func30, Tryz.ntmps30
  go_upto_region 1 with fail
  go_cut [14] from 13 (fun s14 wx => s14 = .bool true ∧ KeyAt wx w.heap.size zeroK ∧ Below w.heap.size w wx)
  case first =>
    go_wp2_with fail
    go_meet
    case rel => exact ⟨rfl, (MapKept.heap_alloc w _).1, below_one _ _⟩
  case rest =>
    obtain ⟨rfl, hA, hb⟩ := hcut
    have g0 := hA.f 0
    have g1 := hA.f 1
    have g2 := hA.f 2
    have g3 := hA.f 3
    have g4 := hA.f 4
    obtain ⟨q0, q1, q2, q3, q4⟩ := hA.c
    have hG := hA.setAll zeroK
    go_wp2
    refine bodyPost_ret (results_key rfl _ _ w.heap.size 60 (Key.cells zeroK) (0, 0) _ rfl hG Tryz.underlying60 rfl (by kernel_rfl)) rfl ?_
    exact ⟨rfl, below_key (below_key (below_key (below_key (below_key hb ⟨w.heap.size, 0, none⟩ (Nat.le_refl _) _) ⟨w.heap.size, 1, none⟩ (Nat.le_refl _) _) ⟨w.heap.size, 2, none⟩ (Nat.le_refl _) _) ⟨w.heap.size, 3, none⟩ (Nat.le_refl _) _) ⟨w.heap.size, 4, none⟩ (Nat.le_refl _) _⟩

theorem k0_val (c : Nat) : (K0 c).val = .agg #[.int .u8 (c : Int), .string ⟨#[]⟩, .string ⟨#[]⟩, .int .u64 0, .int .i64 0] := rfl

set_option maxHeartbeats 2000000 in
set_option maxRecDepth 100000 in
theorem decode_calls (s : ByteArray) (w : World) (hv : Var0 w) (hs : s.size ≤ 4096) : Calls Tryz.prog 30 #[.string s] w fun e w' => e = .returned (decR s.data.toList) ∧ Below w.heap.size w w' := by
  by_cases hse : s = ⟨#[]⟩
  · subst hse
    exact decode_none w
  have h0 : 0 < s.size := by
    rcases Nat.eq_zero_or_pos s.size with h | h
    · exact absurd (ba_ext (List.eq_nil_of_length_eq_zero (by rw [size_list]; exact h))) hse
    · exact h
  have hne : s.toList.isEmpty = false := by rw [empty_iff, decide_eq_false hse]
  clear hse
  obtain ⟨K1, y1, i1, K2, y2, i2, K3, y3, K4, z1, z2, z3, p1, p2, p3, p4, p5⟩ := plan s hs h0
  have HH := has_calls s[0].toNat
  obtain ⟨c, hc⟩ : ∃ c, s[0].toNat = c := ⟨_, rfl⟩
  rw [hc] at p1 p2 p3 p4 HH
  unfold hasV at HH
  obtain ⟨hB, hBe⟩ : ∃ x, x = hasB c := ⟨_, rfl⟩
  obtain ⟨h3, h3e⟩ : ∃ x, x = decide (c = 3) := ⟨_, rfl⟩
  obtain ⟨hN, hNe⟩ : ∃ x, x = hasN c := ⟨_, rfl⟩
  obtain ⟨h5, h5e⟩ : ∃ x, x = decide (c = 5) := ⟨_, rfl⟩
  rw [← hBe, ← h3e, ← hNe, ← h5e] at HH
  unfold Plan1 at p1
  rw [← hBe] at p1
  unfold Plan2 at p2
  rw [← h3e] at p2
  unfold Plan3 at p3
  rw [← hNe] at p3
  unfold Plan4 at p4
  rw [← h5e] at p4
  obtain ⟨t40, q40⟩ : ∃ t, t = (i1 && h3) := ⟨_, rfl⟩
  rw [← q40] at p2
  obtain ⟨t56, q56⟩ : ∃ t, t = (i2 && (hN && decide (8 ≤ y2.size))) := ⟨_, rfl⟩
  rw [← q56] at p3
  obtain ⟨t76, q76⟩ : ∃ t, t = (i2 && (h5 && decide (y3.size = 2))) := ⟨_, rfl⟩
  rw [← q76] at p4
  have Q40 := Lib.hid q40
  have Q56 := Lib.hid q56
  have Q76 := Lib.hid q76
  clear q40 q56 q76
  have e3 : c = 3 → h3 = true := fun e => by rw [h3e, decide_eq_true e]
  have e5 : c = 5 → h5 = true := fun e => by rw [h5e, decide_eq_true e]
  have P1 := Lib.hid p1
  have P2 := Lib.hid p2
  have P3 := Lib.hid p3
  have P4 := Lib.hid p4
  have P5 := Lib.hid p5
  have HHH := Lib.hid HH
  have E3 := Lib.hid e3
  have E5 := Lib.hid e5
  have N3 := Lib.hid h3e
  clear p1 p2 p3 p4 p5 HH e3 e5 hBe h3e hNe h5e
  obtain ⟨R, hR⟩ : ∃ R, s.extract 1 s.size = R := ⟨_, rfl⟩
  rw [hR] at P1
  obtain ⟨out, hout⟩ : ∃ out, decR s.data.toList = out := ⟨_, rfl⟩
  rw [hout]
  unfold Plan5 at P5
  rw [hout] at P5
  clear hout
  have S0 : St w (K0 c) ((w.alloc (.cells zeroK.cells 60)).alloc (.cells (K0 c).cells 60)) := by
    refine ⟨KeyAt.below (w := w.alloc (.cells zeroK.cells 60)) (MapKept.heap_alloc w _).1 (below_one _ _), ?_, (hv.below (below_one w (.cells zeroK.cells 60))).below (below_one _ (.cells (K0 c).cells 60)), below_alloc (below_one w (.cells zeroK.cells 60)) (.cells (K0 c).cells 60)⟩
    have := (MapKept.heap_alloc (w.alloc (.cells zeroK.cells 60)) (.cells (K0 c).cells 60)).1
    rw [show (w.alloc (.cells zeroK.cells 60)).heap.size = w.heap.size + 1 by simp] at this
    exact this
  go_enter Tryz.func30, Tryz.ntmps30
  go_wp2_with fail
  refine (HHH.out _).mono ?_
  rintro e w1 ⟨rfl, hw1⟩
  subst hw1
  go_upto_if 29 with fail
  go_cut [9, 10] from 13 (fun s9 s10 wx => s9 = .string y1 ∧ s10 = .bool i1 ∧ St w K1 wx)
  case first =>
    rcases P1.out with ⟨he, zb, hK, HC⟩ | ⟨he, hK, hy, hi⟩
    · subst he hK
      obtain ⟨hA0, hA1, hv1, b1⟩ := S0
      clear P1 P2 P3 P4 P5 HHH E3 E5 N3
      go_wp2_with fail
      refine (HC.out _ hv1).mono ?_
      rintro e w2 ⟨rfl, hb2⟩
      have S1 : St w (K0 c) w2 := St.below ⟨hA0, hA1, hv1, b1⟩ hb2
      obtain ⟨p0, p1, p2, p3, p4⟩ := S1.2.1.c
      have f1 := S1.2.1.f 1
      go_wp2
      go_meet
      case rel => exact ⟨rfl, rfl, S1.set1 zb⟩
    · subst he hK hy hi
      clear P1 P2 P3 P4 P5 HHH E3 E5 N3
      go_wp2_with fail
      go_meet
      case rel => exact ⟨rfl, rfl, S0⟩
  case rest =>
    obtain ⟨rfl, rfl, S1⟩ := hcut
    clear hc
    clear S0 P1 HHH hR h0
    go_upto_region 8 with fail
    go_cut [40] from 13 (fun s40 wx => s40 = .bool t40 ∧ wx = wc)
    case first =>
      clear P2 P3 P4 P5 E3 E5 N3
      cases i1
      all_goals
        go_wp2_with fail
        go_meet
        case rel => exact ⟨by rw [Q40.out]; rfl, rfl⟩
    case rest =>
      obtain ⟨rfl, rfl⟩ := hcut
      go_upto_if 40 with fail
      go_cut [9, 10] from 13 (fun s9 s10 wx => s9 = .string y2 ∧ s10 = .bool i2 ∧ St w K2 wx)
      case first =>
        rcases P2.out with ⟨hi, hc3, zn, hK, HU⟩ | ⟨he, hK, hy, hi⟩
        · have ht := E3.out hc3
          have q := Q40.out
          rw [hi, ht] at q
          simp only [Bool.and_self] at q
          subst q hi hK ht
          clear Q40 P2 P3 P4 P5 E3 E5 N3 hc3
          go_wp2_with fail
          refine (HU.out _).mono ?_
          rintro e w2 ⟨rfl, hb2⟩
          have S2 := S1.below hb2
          obtain ⟨p0, p1, p2, p3, p4⟩ := S2.2.1.c
          have f1 := S2.2.1.f 2
          go_wp2
          go_meet
          case rel => exact ⟨rfl, rfl, S2.set2 zn⟩
        · subst he hK hy hi
          clear Q40 P2 P3 P4 P5 E3 E5 N3
          go_wp2_with fail
          go_meet
          case rel => exact ⟨rfl, rfl, S1⟩
      case rest =>
        obtain ⟨rfl, rfl, S2⟩ := hcut
        clear S1 P2
        go_upto_region 10 with fail
        go_cut [56] from 13 (fun s56 wx => s56 = .bool t56 ∧ wx = wc)
        case first =>
          clear P3 P4 P5 E3 E5 N3
          by_cases h8 : 8 ≤ y2.size
          · have h8' : (8 : Int) ≤ (y2.size : Int) := by omega
            cases i2 <;> cases hN
            all_goals
              go_wp2_with fail
              go_meet
              case rel => exact ⟨by rw [Q56.out]; simp [h8], rfl⟩
          · have h8' : ¬ (8 : Int) ≤ (y2.size : Int) := by omega
            cases i2 <;> cases hN
            all_goals
              go_wp2_with fail
              go_meet
              case rel => exact ⟨by rw [Q56.out]; simp [h8], rfl⟩
        case rest =>
          obtain ⟨rfl, rfl⟩ := hcut
          go_upto_if 56 with fail
          go_cut [9] from 13 (fun s9 wx => s9 = .string y3 ∧ St w K3 wx)
          case first =>
            rcases P3.out with ⟨⟨hi, hn, h8⟩, N0, hN0, hK, hy, HNum⟩ | ⟨he, hK, hy⟩
            · have q := Q56.out
              rw [hi, hn, decide_eq_true h8] at q
              simp only [Bool.and_self] at q
              subst q hi hn
              have HY := Lib.hid hy
              have h8i : (8 : Int) ≤ (y2.size : Int) := by omega
              have hd1 : decide (y2.size < 8) = false := by rw [decide_eq_false_iff_not]; omega
              obtain ⟨p0, p1, p2, p3, p4⟩ := S2.2.1.c
              have f3 := S2.2.1.f 3
              have SA := S2.set3 N0
              have n3 := N3.out
              clear Q56 P3 P4 P5 E3 E5 N3 hy
              cases h3
              · have hK' : K3 = { K2 with n := N0 } := by rw [hK, if_neg (by intro e; rw [decide_eq_true e] at n3; cases n3)]
                subst hK'
                clear hK n3
                go_wp2_with fail
                go_region_held3 (fun _ => True) (first | trivial) (first | (go_at_call 53; refine (HNum.out _).mono ?_; rintro e wN ⟨rfl, hwN⟩; subst hwN))
                all_goals
                  go_wp2_with fail
                  go_meet
                  case rel => exact ⟨by rw [HY.out], SA.drew⟩
              · have hx := comp_u64 N0 hN0
                obtain ⟨N1, hN1⟩ : ∃ N1, N1 = top - N0 := ⟨_, rfl⟩
                have hK' : K3 = { K2 with n := N1 } := by rw [hK, if_pos (by simpa using n3.symm), hN1]
                subst hK'
                rw [← hN1] at hx
                have SB := SA.set3 N1
                obtain ⟨r0, r1, r2, r3, r4⟩ := SA.2.1.c
                have f3b := SA.2.1.f 3
                clear hK n3 hN1
                go_wp2_with fail
                go_region_held3 (fun _ => True) (first | trivial) (first | (go_at_call 53; refine (HNum.out _).mono ?_; rintro e wN ⟨rfl, hwN⟩; subst hwN))
                all_goals
                  go_wp2_with fail
                  go_meet
                  case rel => exact ⟨by rw [HY.out], SB.drew⟩
            · subst he hK hy
              clear Q56 P3 P4 P5 E3 E5 N3
              go_wp2_with fail
              go_meet
              case rel => exact ⟨rfl, S2⟩
          case rest =>
            obtain ⟨rfl, S3⟩ := hcut
            clear S2 P3
            go_upto_region 14 with fail
            go_cut [76] from 13 (fun s76 wx => s76 = .bool t76 ∧ wx = wc)
            case first =>
              clear P4 P5 E3 E5 N3
              by_cases h2 : y3.size = 2
              · have h2' : ((y3.size : Int) == 2) = true := by rw [beq_iff_eq]; omega
                cases i2 <;> cases h5
                all_goals
                  go_wp2_with fail
                  go_meet
                  case rel => exact ⟨by rw [Q76.out]; simp [h2], rfl⟩
              · have h2' : ((y3.size : Int) == 2) = false := by rw [beq_eq_false_iff_ne]; omega
                cases i2 <;> cases h5
                all_goals
                  go_wp2_with fail
                  go_meet
                  case rel => exact ⟨by rw [Q76.out]; simp [h2], rfl⟩
            case rest =>
              obtain ⟨rfl, rfl⟩ := hcut
              go_upto_if 76 with fail
              go_cut [] from 13 (fun wx => St w K4 wx)
              case first =>
                rcases P4.out with ⟨⟨hi, hc5, h2⟩, N0, hN0, hK, HNum⟩ | ⟨he, hK⟩
                · have ht := E5.out hc5
                  have q := Q76.out
                  rw [hi, ht, decide_eq_true h2] at q
                  simp only [Bool.and_self] at q
                  subst q hi hK ht
                  have h2t : decide (y3.size = 2) = true := decide_eq_true h2
                  have hw0 : IntKind.i64.wrap (N0 : Int) = (N0 : Int) := IntWalk.i64_in _ (by omega)
                  obtain ⟨p0, p1, p2, p3, p4⟩ := S3.2.1.c
                  have f4 := S3.2.1.f 4
                  have S4 := S3.set4 (N0 : Int)
                  clear Q76 P4 P5 E3 E5 N3 hc5 h2
                  go_wp2_with fail
                  refine (HNum.out _).mono ?_
                  rintro e wN ⟨rfl, hwN⟩
                  subst hwN
                  go_wp2_with fail
                  go_meet
                  case rel => exact S4
                · subst he hK
                  clear Q76 P4 P5 E3 E5 N3
                  go_wp2_with fail
                  go_meet
                  case rel => exact S3
              case rest =>
                have S4 : St w K4 wc := hcut
                clear hcut S3 P4
                obtain ⟨T, E, HE, hcase⟩ := P5.out
                obtain ⟨k, kb, kn, kk, kp⟩ := K4
                unfold Key.val at HE
                have HC := Lib.hid hcase
                obtain ⟨p0, p1, p2, p3, p4⟩ := S4.2.1.c
                simp only at p0 p1 p2 p3 p4 HE
                clear P5 E3 E5 N3 hcase
                go_wp2_with fail
                refine (HE.out _ S4.2.2.1).mono ?_
                rintro e w5 ⟨rfl, hb5⟩
                have S5 := S4.below hb5
                clear p0 p1 p2 p3 p4 S4 hb5 HE
                obtain ⟨p0, p1, p2, p3, p4⟩ := S5.2.1.c
                obtain ⟨z0, z1, z2, z3, z4⟩ := S5.1.c
                have g0 := S5.1.f 0
                have g1 := S5.1.f 1
                have g2 := S5.1.f 2
                have g3 := S5.1.f 3
                have g4 := S5.1.f 4
                simp only at p0 p1 p2 p3 p4
                have b4 := S5.2.2.2
                rcases HC.out with ⟨rfl, rfl⟩ | ⟨rfl, hE0, rfl⟩ | ⟨rfl, rfl, hTs, rfl⟩ | ⟨rfl, rfl, hTs, rfl⟩
                iterate 3
                  · try (have hE1 : ¬ E = 0 := by intro e; rw [e] at hE0; exact absurd hE0 (by decide))
                    try clear hE0
                    have hG := S5.1.setAll zeroK
                    clear HC
                    go_wp2
                    refine bodyPost_ret (results_key rfl _ _ w.heap.size 60 (Key.cells zeroK) (0, 0) _ rfl hG Tryz.underlying60 rfl (by kernel_rfl)) rfl ?_
                    exact ⟨rfl, below_key (below_key (below_key (below_key (below_key b4 ⟨w.heap.size, 0, none⟩ (Nat.le_refl _) _) ⟨w.heap.size, 1, none⟩ (Nat.le_refl _) _) ⟨w.heap.size, 2, none⟩ (Nat.le_refl _) _) ⟨w.heap.size, 3, none⟩ (Nat.le_refl _) _) ⟨w.heap.size, 4, none⟩ (Nat.le_refl _) _⟩
                · have hG := S5.1.setAll ⟨k, kb, kn, kk, kp⟩
                  clear HC
                  go_wp2
                  refine bodyPost_ret (results_key rfl _ _ w.heap.size 60 (Key.cells ⟨k, kb, kn, kk, kp⟩) (0, 0) _ rfl hG Tryz.underlying60 rfl (by kernel_rfl)) rfl ?_
                  exact ⟨rfl, below_key (below_key (below_key (below_key (below_key b4 ⟨w.heap.size, 0, none⟩ (Nat.le_refl _) _) ⟨w.heap.size, 1, none⟩ (Nat.le_refl _) _) ⟨w.heap.size, 2, none⟩ (Nat.le_refl _) _) ⟨w.heap.size, 3, none⟩ (Nat.le_refl _) _) ⟨w.heap.size, 4, none⟩ (Nat.le_refl _) _⟩

end Go.Proofs.YtaeiahkomdpcoaaGreatDoor.Name
end
