/- A script played on a map: plain, and the walk of hoardlaw10.play. -/
import Derived.Test.YtnmnecjelpglhaaAllocSteps
import Derived.Deep.AppendLies
namespace Go.Proofs.Ytnmnecjelpglhaa.Alloc
open Go.RowKit

def stepL (L : List Int) (s : Step) : Int × List Int :=
  if s.doo = 0 then ((takeL L s.n).2.1, (takeL L s.n).2.2) else if s.doo = 1 then turnL L s.l 2 3 (areB L.length s.l) else if s.doo = 2 then turnL L s.l 3 1 (areB L.length s.l) else (0, L)
def playK (L : List Int) (ss : List Step) (k : Nat) : List Int × List Int := (ss.take k).foldl (fun p s => (p.1 ++ [(stepL p.2 s).1], (stepL p.2 s).2)) ([], L)
theorem takeL_length (L : List Int) (n : Int) : (takeL L n).2.2.length = L.length := by
  unfold takeL
  split
  · rfl
  · split
    · rfl
    · exact setAll_length _ _ _
theorem stepL_length (L : List Int) (s : Step) : (stepL L s).2.length = L.length := by
  unfold stepL
  split
  · exact takeL_length _ _
  · split
    · exact turnL_length _ _ _ _ _
    · split
      · exact turnL_length _ _ _ _ _
      · rfl
theorem playK_succ (L : List Int) (ss : List Step) (k : Nat) (hk : k < ss.length) : playK L ss (k + 1) = ((playK L ss k).1 ++ [(stepL (playK L ss k).2 ss[k]).1], (stepL (playK L ss k).2 ss[k]).2) := by
  unfold playK
  rw [List.take_succ_eq_append_getElem hk, List.foldl_append]; rfl
theorem playK_len (L : List Int) (ss : List Step) (k : Nat) (hk : k ≤ ss.length) : (playK L ss k).1.length = k ∧ (playK L ss k).2.length = L.length := by
  induction k with
  | zero => exact ⟨rfl, rfl⟩
  | succ k ih =>
    obtain ⟨h1, h2⟩ := ih (by omega)
    rw [playK_succ L ss k (by omega)]
    exact ⟨by rw [List.length_append, h1]; rfl, by rw [stepL_length, h2]⟩

theorem grown_trans_own {a b c : World} {r : Nat} {o : Option Nat} (h : a.grownBy b (some r)) (k : b.grownBy c o) (ho : ∀ g, o = some g → a.heap.size ≤ g) : a.grownBy c (some r) :=
  ⟨k.os.trans h.os, k.tape.trans h.tape, k.output.trans h.output, Nat.le_trans h.size k.size, fun i hi hne => (k.block i (Nat.lt_of_lt_of_le hi h.size) (fun e => by have := ho i e.symm; omega)).trans (h.block i hi hne)⟩

/-- What lay in memory of a script is as it was. -/
theorem StepsAt.grown {w w' : World} {A : Option Addr} {ss : List Step} {r : Nat} (h : StepsAt w A ss) (hw : ∀ ad, (A = some ad ∧ 0 < ss.length) ∨ (∃ s ∈ ss, s.A = some ad ∧ 0 < s.l.length) → ad.block ≠ r) (hg : w.grownBy w' (some r)) : StepsAt w' A ss := fun i s hs => by
  obtain ⟨ad, h0, h1, h2, h3, h4, h5, h6, h7⟩ := h i s hs
  have hi : i < ss.length := (List.getElem?_eq_some_iff.1 hs).1
  have hne : ad.block ≠ r := hw ad (.inl ⟨h0, by omega⟩)
  have hk : ∀ n, w'.cell? (ad.add n) = w.cell? (ad.add n) := fun n => World.cell?_of_block (by rw [block_of_add]; exact hg.block _ h1 (fun e => hne (Option.some.inj e)))
  refine ⟨ad, h0, Nat.lt_of_lt_of_le h1 hg.size, (hk _).trans h2, (hk _).trans h3, (hk _).trans h4, fun hl => ?_, h6, h7⟩
  obtain ⟨ad', e1, e2, e3⟩ := h5 hl
  have hne' : ad'.block ≠ r := hw ad' (.inr ⟨s, List.mem_of_getElem? hs, e1, hl⟩)
  exact ⟨ad', e1, Nat.lt_of_lt_of_le e2 hg.size, fun j x hx => (World.cell?_of_block (by rw [block_of_add]; exact hg.block _ e2 (fun e => hne' (Option.some.inj e)))).trans (e3 j x hx)⟩
/-- What was there before the map was made: none of it is the map's. -/
theorem StepsAt.old {w0 w w' : World} {A : Option Addr} {ss : List Step} {r : Nat} (h : StepsAt w0 A ss) (hb : Below w0.heap.size w0 w) (hr : w0.heap.size ≤ r) (hg : w.grownBy w' (some r)) : StepsAt w' A ss := by
  refine (h.below hb).grown (fun ad had => ?_) hg
  rcases had with ⟨ha, hl⟩ | ⟨s, hs, ha, hl⟩
  · obtain ⟨ad', h0, h1, _⟩ := h 0 ss[0] (List.getElem?_eq_getElem hl)
    obtain rfl : ad = ad' := Option.some.inj (ha.symm.trans h0)
    omega
  · obtain ⟨i, hi, rfl⟩ := List.getElem_of_mem hs
    obtain ⟨_, _, _, _, _, _, h5, _⟩ := h i ss[i] (List.getElem?_eq_getElem hi)
    obtain ⟨ad', h0, h1, _⟩ := h5 hl
    obtain rfl : ad = ad' := Option.some.inj (ha.symm.trans h0)
    omega

def Played (w : World) (m r : Nat) (R : List Int × List Int) (e : Ending) (w' : World) : Prop :=
  ∃ A cap, e = .returned (.slice A R.1.length cap) ∧ IntsAt w' A R.1 ∧ (∀ ad, A = some ad → w.heap.size ≤ ad.block) ∧ MapAt w' m r R.2 ∧ w.grownBy w' (some r)

theorem infoErr : (Try.prog.info? 27).map (fun i => (i.zero, i.size, i.bytes)) = some (some (.int .i64 0), 1, 8) := by kernel_rfl

set_option maxHeartbeats 6400000 in
set_option maxRecDepth 100000 in
theorem play_calls (m r : Nat) (L : List Int) (A : Option Addr) (c : Nat) (ss : List Step) (w0 w : World) (h : MapAt w m r L) (hN : L.length ≤ 4096) (hs0 : StepsAt w0 A ss) (hb0 : Below w0.heap.size w0 w) (hr0 : w0.heap.size ≤ r)
    (hlen : ss.length ≤ 200) (hsl : ∀ s ∈ ss, s.l.length ≤ 200) :
    Calls Try.prog 23 #[.pointer (some ⟨m, 0, none⟩), .slice A ss.length c] w (Played w m r (playK L ss ss.length)) := by
  obtain ⟨i0, hi, hz0, hz1, hz2⟩ := info_parts infoErr
  have hMr := h.hr
  have hMm := h.hm
  go_enter Try.func23, Try.ntmps23
  go_wp2
  go_loopw [5, 6] (fun v iv wr => ∃ k : Nat, k ≤ ss.length ∧ iv = .int .i64 k ∧ wr.ownsRow w.heap.size 27 1 v (playK L ss k).1.length ((playK L ss k).1.map (.int .i64)) ∧ MapAt wr m r (playK L ss k).2 ∧ w.grownBy wr (some r)) (fun _ iv _ => ss.length - (intOf iv).toNat)
  case atStart => exact ⟨0, by omega, rfl, World.ownsRow_nil _ _ _ _, h, World.grownBy.refl _ _⟩
  case round =>
    obtain ⟨k, hk, rfl, hown, hM, hg⟩ := hrel
    have hpl := playK_len L ss k hk
    have hsr := hs0.old hb0 hr0 hg
    by_cases hlt : k < ss.length
    · obtain ⟨ad, rfl, hadb, hc0, hc1, hc2, hI, hlc, h63⟩ := hsr.at_ hlt
      obtain ⟨s, hs⟩ : ∃ s, s = ss[k] := ⟨_, rfl⟩
      have hsl' := hsl ss[k] (List.getElem_mem hlt)
      rw [← hs] at hc0 hc1 hc2 hI hlc h63 hsl'
      have HS := Lib.hid hs
      have HP := Lib.hid (playK_succ L ss k hlt)
      rw [← hs] at HP
      have hL4 : (playK L ss k).2.length ≤ 4096 := by rw [hpl.2]; exact hN
      have hlk : (playK L ss k).1.length ≤ 200 := by rw [hpl.1]; omega
      have hown0 : ∀ g, u5.ownBlock = some g → w.heap.size ≤ g := fun g hg => (hown.lt _ hg).1
      clear hs hpl hsl
      by_cases hd0 : s.doo = 0
      · go_wp2_with fail
        refine (take_calls m r _ s.n wr hM hL4).mono ?_
        rintro e w2 ⟨At, ct, rfl, _, _, _, hME, hg2⟩

        have HN : Hid (playK L ss (k + 1) = ((playK L ss k).1 ++ [(takeL (playK L ss k).2 s.n).2.1], (takeL (playK L ss k).2 s.n).2.2)) := by
          show _ = _
          rw [HP.out]; unfold stepL; rw [if_pos hd0]
        have hownE := hown.kept hg2 (.inr (fun e => by have := hown0 _ e; omega))
        have hgE : w.grownBy w2 (some r) := grown_trans hg hg2

        go_wp2_with (at_builtin; refine wpList_append_own _ rfl _ _ 52 rfl w.heap.size 27 i0 (.int .i64 0) 1 8 Try.underlying52 hi hz0 hz1 hz2 rfl (by decide) _ _ _ rfl (hownE.alloc _) ⟨w2.heap.size, 0, none⟩ 1 1 [.int .i64 (takeL (playK L ss k).2 s.n).2.1] rfl rfl (World.news_of_block (MapKept.heap_alloc w2 _).1) ?c2 ?c3 ?c4 ?c5 ?_)
        case c2 => intro u hu; simp at hu; subst hu; rfl
        case c3 => unfold maxLen; omega
        case c4 => omega
        case c5 => have := hgE.size; simp; omega
        intro v' wn hown' hgrow _
        have hgN : w.grownBy wn (some r) := grown_trans_own (grown_trans hgE (grown_of_below (below_one _ _) _)) hgrow (fun g hg => (hown.lt _ hg).1)
        have hMN : MapAt wn m r (playK L ss (k + 1)).2 := by
          have hrm := hMr
          rw [HN.out]
          refine (hME.below (below_one _ _)).grown hgrow (fun e => ?_) (fun e => ?_)
          · have := (hown.lt _ e.symm).1; omega
          · have := (hown.lt _ e.symm).1; omega
        go_wp2
        go_roundw
        case rel =>
          refine ⟨k + 1, by omega, by go_num, ?_, hMN, hgN⟩
          rw [HN.out, List.map_append, List.length_append]
          exact hown'
        case measure => simp [intOf]; omega
      · by_cases hd1 : s.doo = 1
        · go_wp2_with (at_builtin; refine wpList_copy rfl _ rfl rfl rfl hI (by omega) ?_)
          intro Ac cc w1 hcc hIc hAc hb1
          go_wp2_with fail
          refine (drop_calls m r _ Ac cc s.l w1 (hM.below hb1) hIc h63 hcc (fun ad h e => by have := hAc ad h; have := hg.size; omega)).mono ?_
          rintro e w2 ⟨rfl, hME, hg2'⟩
          have hg2 := grown_trans (grown_of_below hb1 _) hg2'

          have HN : Hid (playK L ss (k + 1) = ((playK L ss k).1 ++ [(turnL (playK L ss k).2 s.l 2 3 (areB (playK L ss k).2.length s.l)).1], (turnL (playK L ss k).2 s.l 2 3 (areB (playK L ss k).2.length s.l)).2)) := by
            show _ = _
            rw [HP.out]; unfold stepL; rw [if_neg hd0, if_pos hd1]
          have hownE := hown.kept hg2 (.inr (fun e => by have := hown0 _ e; omega))
          have hgE : w.grownBy w2 (some r) := grown_trans hg hg2

          go_wp2_with (at_builtin; refine wpList_append_own _ rfl _ _ 52 rfl w.heap.size 27 i0 (.int .i64 0) 1 8 Try.underlying52 hi hz0 hz1 hz2 rfl (by decide) _ _ _ rfl (hownE.alloc _) ⟨w2.heap.size, 0, none⟩ 1 1 [.int .i64 (turnL (playK L ss k).2 s.l 2 3 (areB (playK L ss k).2.length s.l)).1] rfl rfl (World.news_of_block (MapKept.heap_alloc w2 _).1) ?c2 ?c3 ?c4 ?c5 ?_)
          case c2 => intro u hu; simp at hu; subst hu; rfl
          case c3 => unfold maxLen; omega
          case c4 => omega
          case c5 => have := hgE.size; simp; omega
          intro v' wn hown' hgrow _
          have hgN : w.grownBy wn (some r) := grown_trans_own (grown_trans hgE (grown_of_below (below_one _ _) _)) hgrow (fun g hg => (hown.lt _ hg).1)
          have hMN : MapAt wn m r (playK L ss (k + 1)).2 := by
            have hrm := hMr
            rw [HN.out]
            refine (hME.below (below_one _ _)).grown hgrow (fun e => ?_) (fun e => ?_)
            · have := (hown.lt _ e.symm).1; omega
            · have := (hown.lt _ e.symm).1; omega
          go_wp2
          go_roundw
          case rel =>
            refine ⟨k + 1, by omega, by go_num, ?_, hMN, hgN⟩
            rw [HN.out, List.map_append, List.length_append]
            exact hown'
          case measure => simp [intOf]; omega
        · by_cases hd2 : s.doo = 2
          · go_wp2_with (at_builtin; refine wpList_copy rfl _ rfl rfl rfl hI (by omega) ?_)
            intro Ac cc w1 hcc hIc hAc hb1
            go_wp2_with fail
            refine (clear_calls m r _ Ac cc s.l w1 (hM.below hb1) hIc h63 hcc (fun ad h e => by have := hAc ad h; have := hg.size; omega)).mono ?_
            rintro e w2 ⟨rfl, hME, hg2'⟩
            have hg2 := grown_trans (grown_of_below hb1 _) hg2'

            have HN : Hid (playK L ss (k + 1) = ((playK L ss k).1 ++ [(turnL (playK L ss k).2 s.l 3 1 (areB (playK L ss k).2.length s.l)).1], (turnL (playK L ss k).2 s.l 3 1 (areB (playK L ss k).2.length s.l)).2)) := by
              show _ = _
              rw [HP.out]; unfold stepL; rw [if_neg hd0, if_neg hd1, if_pos hd2]
            have hownE := hown.kept hg2 (.inr (fun e => by have := hown0 _ e; omega))
            have hgE : w.grownBy w2 (some r) := grown_trans hg hg2

            go_wp2_with (at_builtin; refine wpList_append_own _ rfl _ _ 52 rfl w.heap.size 27 i0 (.int .i64 0) 1 8 Try.underlying52 hi hz0 hz1 hz2 rfl (by decide) _ _ _ rfl (hownE.alloc _) ⟨w2.heap.size, 0, none⟩ 1 1 [.int .i64 (turnL (playK L ss k).2 s.l 3 1 (areB (playK L ss k).2.length s.l)).1] rfl rfl (World.news_of_block (MapKept.heap_alloc w2 _).1) ?c2 ?c3 ?c4 ?c5 ?_)
            case c2 => intro u hu; simp at hu; subst hu; rfl
            case c3 => unfold maxLen; omega
            case c4 => omega
            case c5 => have := hgE.size; simp; omega
            intro v' wn hown' hgrow _
            have hgN : w.grownBy wn (some r) := grown_trans_own (grown_trans hgE (grown_of_below (below_one _ _) _)) hgrow (fun g hg => (hown.lt _ hg).1)
            have hMN : MapAt wn m r (playK L ss (k + 1)).2 := by
              have hrm := hMr
              rw [HN.out]
              refine (hME.below (below_one _ _)).grown hgrow (fun e => ?_) (fun e => ?_)
              · have := (hown.lt _ e.symm).1; omega
              · have := (hown.lt _ e.symm).1; omega
            go_wp2
            go_roundw
            case rel =>
              refine ⟨k + 1, by omega, by go_num, ?_, hMN, hgN⟩
              rw [HN.out, List.map_append, List.length_append]
              exact hown'
            case measure => simp [intOf]; omega
          · have hg2 : wr.grownBy wr (some r) := World.grownBy.refl _ _
            have hME := hM
            have HN : Hid (playK L ss (k + 1) = ((playK L ss k).1 ++ [0], (playK L ss k).2)) := by
              show _ = _
              rw [HP.out]; unfold stepL; rw [if_neg hd0, if_neg hd1, if_neg hd2]
            have hownE := hown.kept hg2 (.inr (fun e => by have := hown0 _ e; omega))
            have hgE : w.grownBy wr (some r) := grown_trans hg hg2

            go_wp2_with (at_builtin; refine wpList_append_own _ rfl _ _ 52 rfl w.heap.size 27 i0 (.int .i64 0) 1 8 Try.underlying52 hi hz0 hz1 hz2 rfl (by decide) _ _ _ rfl (hownE.alloc _) ⟨wr.heap.size, 0, none⟩ 1 1 [.int .i64 0] rfl rfl (World.news_of_block (MapKept.heap_alloc wr _).1) ?c2 ?c3 ?c4 ?c5 ?_)
            case c2 => intro u hu; simp at hu; subst hu; rfl
            case c3 => unfold maxLen; omega
            case c4 => omega
            case c5 => have := hgE.size; simp; omega
            intro v' wn hown' hgrow _
            have hgN : w.grownBy wn (some r) := grown_trans_own (grown_trans hgE (grown_of_below (below_one _ _) _)) hgrow (fun g hg => (hown.lt _ hg).1)
            have hMN : MapAt wn m r (playK L ss (k + 1)).2 := by
              have hrm := hMr
              rw [HN.out]
              refine (hME.below (below_one _ _)).grown hgrow (fun e => ?_) (fun e => ?_)
              · have := (hown.lt _ e.symm).1; omega
              · have := (hown.lt _ e.symm).1; omega
            go_wp2
            go_roundw
            case rel =>
              refine ⟨k + 1, by omega, by go_num, ?_, hMN, hgN⟩
              rw [HN.out, List.map_append, List.length_append]
              exact hown'
            case measure => simp [intOf]; omega
    · obtain rfl : k = ss.length := by omega
      go_wp2
      go_ret
      obtain ⟨A', c', rfl, _, hI', hA'⟩ := ints_of_own hown
      exact ⟨A', c', rfl, hI', hA', hM, hg⟩

end Go.Proofs.Ytnmnecjelpglhaa.Alloc
