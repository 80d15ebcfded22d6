/- A copied list of numbers; a script in memory; the walk of hoardlaw10.heavy. -/
import Derived.Test.YtnmnecjelpglhaaAllocWorks
import Derived.Deep.AppendSrc
import Derived.Deep.Upon
import Derived.Deep.Slices
namespace Go.Proofs.Ytnmnecjelpglhaa.Alloc
open Go.RowKit

theorem ints_of_own {w0 w' : World} {T : TypeId} {v : Value} {l : List Int} (h : w'.ownsRow w0.heap.size T 1 v l.length (l.map (.int .i64))) :
    ∃ A c, v = .slice A l.length c ∧ l.length ≤ c ∧ IntsAt w' A l ∧ ∀ ad, A = some ad → w0.heap.size ≤ ad.block := by
  rcases h.2 with ⟨hv, hn⟩ | ⟨g, cap, cur, hv, hg, hh, hle, _, _, hcur⟩
  · exact ⟨none, 0, by rw [hv, hn], by omega, fun hl => by omega, fun ad h => by cases h⟩
  · subst hv
    refine ⟨_, _, rfl, hle, fun _ => ⟨_, rfl, lt_of_block hh, fun i x hx => ?_⟩, fun ad h => by cases h; exact hg⟩
    have hi : i < l.length := by
      rcases Nat.lt_or_ge i l.length with h | h
      · exact h
      · rw [List.getElem?_eq_none h] at hx; cases hx
    have e1 : (⟨g, 0, none⟩ : Addr).add i = ⟨g, i, none⟩ := by unfold Addr.add; split <;> simp_all
    rw [e1, h.cellAt i (by omega), List.getElem?_map, hx]; rfl

/-- 'append([]int(nil), l...)': the same numbers, in a block of the call's own, or nil. -/
theorem run_copy (A : Option Addr) (c : Nat) (l : List Int) (w : World) (hI : IntsAt w A l) (hn : l.length ≤ 65536) :
    ∃ A' c' w', (Builtin.append_ #[22, 22] 22 #[.slice none 0 0, .slice A l.length c]).run Try.prog w = .ok (.slice A' l.length c') w' ∧ l.length ≤ c' ∧ IntsAt w' A' l ∧ (∀ ad, A' = some ad → w.heap.size ≤ ad.block) ∧ Below w.heap.size w w' := by
  obtain ⟨i0, hi, hz0, hz1, hz2⟩ := info_parts infoInt
  cases A with
  | none =>
    have hl : l = [] := by
      cases l with
      | nil => rfl
      | cons x l => obtain ⟨ad, h, _⟩ := hI (by simp); cases h
    subst hl
    exact ⟨none, 0, w, run_append_nothing w _ _ _ 3 i0 Try.underlying22 hi none 0 0 (Nat.le_refl _) _ (Src.ofNil w Try.underlying22 c), Nat.le_refl _, fun h => absurd h (Nat.lt_irrefl _), (fun ad h => by cases h), Below.refl _ _⟩
  | some ad =>
    have hnews : ∀ j u, (l.map (Value.int .i64))[j]? = some u → w.cell? (ad.add j) = some u := fun j u hu => by
      rw [List.getElem?_map] at hu
      cases hx : l[j]? with
      | none => rw [hx] at hu; cases hu
      | some x =>
        rw [hx] at hu
        have hj : j < l.length := (List.getElem?_eq_some_iff.1 hx).1
        obtain ⟨ad', h1, _, h3⟩ := hI (by omega)
        obtain rfl : ad = ad' := Option.some.inj h1
        rw [h3 j x hx]; exact hu
    obtain ⟨v', w', hr, hown, hg, _⟩ := run_append_own (P := Try.prog) w w.heap.size 22 22 3 i0 (.int .i64 0) 1 8 Try.underlying22 hi hz0 hz1 hz2 rfl (by decide) (.slice none 0 0) 0 [] (World.ownsRow_nil _ _ _ _) ad l.length c (l.map (.int .i64)) (by simp) hnews (by intro u hu; obtain ⟨x, _, rfl⟩ := List.mem_map.1 hu; rfl) (by unfold maxLen; omega) (by omega) (Nat.le_refl _)
    rw [Nat.zero_add, List.nil_append] at hown
    obtain ⟨A', c', rfl, hc', hI', hA'⟩ := ints_of_own hown
    exact ⟨A', c', w', hr, hc', hI', hA', ⟨hg.os, hg.tape, hg.output, hg.size, fun k hk => hg.block k hk (by simp [Value.ownBlock])⟩⟩

section
variable {w : World} {o : Oper} {a : Act} {A : Option Addr} {c : Nat} {l : List Int}
theorem wp_copy {K : Act → World → Prop} {Q : Exit → Act → World → Prop} (x : Operand) (ho : o.op = .call { callee := .builtin .append, args := #[.const (.slice none 0 0), x], argTypes := #[22, 22] }) (hty : o.type = 22)
    (hx : a.eval x = .slice A l.length c) (hI : IntsAt w A l) (hn : l.length ≤ 65536)
    (h : ∀ A' c' w', l.length ≤ c' → IntsAt w' A' l → (∀ ad, A' = some ad → w.heap.size ≤ ad.block) → Below w.heap.size w w' → K (a.put o.dst (.slice A' l.length c')) w') : o.wp Try.prog a w K Q := by
  obtain ⟨A', c', w', hr, h1, h2, h3, h4⟩ := run_copy A c l w hI hn
  unfold Oper.wp execOp
  simp only [ho, hty, resolve, invoke, builtin, Sem.run_bind, Sem.run_pure, Result.andThen_ok, List.map_toArray, List.map_cons, List.map_nil, hx]
  rw [show a.eval (.const (.slice none 0 0)) = .slice none 0 0 from rfl, hr]
  exact h A' c' w' h1 h2 h3 h4
theorem wpList_copy {ops : Array Oper} {rest : List Oper} {Q : Exit → Act → World → Prop} (hgd : o.guard = none) (x : Operand) (ho : o.op = .call { callee := .builtin .append, args := #[.const (.slice none 0 0), x], argTypes := #[22, 22] }) (hty : o.type = 22)
    (hx : a.eval x = .slice A l.length c) (hI : IntsAt w A l) (hn : l.length ≤ 65536)
    (h : ∀ A' c' w', l.length ≤ c' → IntsAt w' A' l → (∀ ad, A' = some ad → w.heap.size ≤ ad.block) → Below w.heap.size w w' → wpList Try.prog ops Q rest (a.put o.dst (.slice A' l.length c')) w') : wpList Try.prog ops Q (o :: rest) a w :=
  wpList_plain hgd fun _ hK => wp_copy x ho hty hx hI hn fun A' c' w' h1 h2 h3 h4 => hK _ _ (h A' c' w' h1 h2 h3 h4)
theorem step_copy {ops : Array Oper} {K : Act → World → Prop} {Q : Exit → Act → World → Prop} {E : Prop} (hgd : o.guard = none) (x : Operand) (ho : o.op = .call { callee := .builtin .append, args := #[.const (.slice none 0 0), x], argTypes := #[22, 22] }) (hty : o.type = 22)
    (hx : a.eval x = .slice A l.length c) (hI : IntsAt w A l) (hn : l.length ≤ 65536)
    (h : ∀ A' c' w', l.length ≤ c' → IntsAt w' A' l → (∀ ad, A' = some ad → w.heap.size ≤ ad.block) → Below w.heap.size w w' → K (a.put o.dst (.slice A' l.length c')) w') :
    if Region.wanted o (yielded ops a.tmps) = true then Oper.wp Try.prog o a w K Q else E := by
  have hw : Region.wanted o (yielded ops a.tmps) = true := by simp [Region.wanted, hgd]
  rw [if_pos hw]
  exact wp_copy x ho hty hx hI hn h
end

/-- One step of a script, and where its list lies. -/
structure Step where
  doo : Int
  n : Int
  A : Option Addr
  c : Nat
  l : List Int

def StepsAt (w : World) (A : Option Addr) (ss : List Step) : Prop := ∀ i s, ss[i]? = some s → ∃ ad, A = some ad ∧ ad.block < w.heap.size ∧ w.cell? (ad.add (i * 3)) = some (.int .i64 s.doo) ∧ w.cell? (ad.add (i * 3 + 1)) = some (.int .i64 s.n) ∧
  w.cell? (ad.add (i * 3 + 2)) = some (.slice s.A s.l.length s.c) ∧ IntsAt w s.A s.l ∧ s.l.length ≤ s.c ∧ s.l.length ≤ 9223372036854775807

theorem StepsAt.below {w w' : World} {A : Option Addr} {ss : List Step} (h : StepsAt w A ss) (hb : Below w.heap.size w w') : StepsAt w' A ss := fun i s hs => by
  obtain ⟨ad, h0, h1, h2, h3, h4, h5, h6, h7⟩ := h i s hs
  have hk : ∀ n, w'.cell? (ad.add n) = w.cell? (ad.add n) := fun n => World.cell?_of_block (by rw [block_of_add]; exact hb.block _ h1)
  exact ⟨ad, h0, Nat.lt_of_lt_of_le h1 hb.size, (hk _).trans h2, (hk _).trans h3, (hk _).trans h4, h5.below hb, h6, h7⟩

theorem StepsAt.at_ {w : World} {A : Option Addr} {ss : List Step} (h : StepsAt w A ss) {k : Nat} (hk : k < ss.length) : ∃ ad, A = some ad ∧ ad.block < w.heap.size ∧ w.cell? (ad.add (k * 3)) = some (.int .i64 ss[k].doo) ∧ w.cell? ⟨(ad.add (k * 3)).block, (ad.add (k * 3)).off + 1, none⟩ = some (.int .i64 ss[k].n) ∧
    w.cell? ⟨(ad.add (k * 3)).block, (ad.add (k * 3)).off + 2, none⟩ = some (.slice ss[k].A ss[k].l.length ss[k].c) ∧ IntsAt w ss[k].A ss[k].l ∧ ss[k].l.length ≤ ss[k].c ∧ ss[k].l.length ≤ 9223372036854775807 := by
  obtain ⟨ad, h0, h1, h2, h3, h4, h5, h6, h7⟩ := h k _ (List.getElem?_eq_getElem hk)
  refine ⟨ad, h0, h1, h2, ?_, ?_, h5, h6, h7⟩
  · rw [← h3, ← Deep.add_add]; rfl
  · rw [← h4, ← Deep.add_add]; rfl

def HeavyOf (ss : List Step) (na nb : Nat) (e : Ending) : Prop := ∃ b, e = .returned (.bool b) ∧ (b = false → ss.length ≤ 200 ∧ (∀ s ∈ ss, s.l.length ≤ 200) ∧ na ≤ 2000 ∧ nb ≤ 2000)

set_option maxHeartbeats 1600000 in
set_option maxRecDepth 100000 in
theorem heavy_calls (A B C : Option Addr) (c d e : Nat) (ss : List Step) (na nb : Nat) (w : World) (h : StepsAt w A ss) :
    Calls Try.prog 7 #[.slice A ss.length c, .slice B na d, .slice C nb e] w fun x w' => HeavyOf ss na nb x ∧ w = w' := by
  go_enter Try.func7, Try.ntmps7
  go_wp2
  go_loop [7, 8] (fun nv iv => ∃ n k : Nat, k ≤ ss.length ∧ k ≤ 300 ∧ n ≤ 200 * k ∧ nv = .int .i64 n ∧ iv = .int .i64 k ∧ Hid (∀ j (hj : j < ss.length), j < k → ss[j].l.length ≤ 200)) (fun _ iv => ss.length - (intOf iv).toNat)
  case atStart => exact ⟨0, 0, by omega, by omega, by omega, rfl, rfl, fun j hj h => by omega⟩
  case round =>
    obtain ⟨n, k, hk, hk3, hn, rfl, rfl, hall⟩ := hrel
    by_cases hlt : k < ss.length
    · by_cases hlt3 : k < 300
      · obtain ⟨ad, rfl, _, _, _, hc2, _, _, h7⟩ := h.at_ hlt
        obtain ⟨s, hs⟩ : ∃ s, s = ss[k] := ⟨_, rfl⟩
        rw [← hs] at hc2 h7
        have HS := Lib.hid hs
        clear hs
        by_cases hb : 200 < s.l.length
        · go_wp2
          go_ret
          exact ⟨⟨true, rfl, fun h => by cases h⟩, rfl⟩
        · go_wp2
          go_round
          case rel =>
            refine ⟨n + s.l.length, k + 1, by omega, by omega, by omega, by go_num, by go_num, ?_⟩
            intro j hj hjk
            by_cases hjk' : j = k
            · subst hjk'; rw [← HS.out]; omega
            · exact hall.out j hj (by omega)
          case measure => simp [intOf]; omega
      · obtain rfl : k = 300 := by omega
        have hbig : 200 < ss.length := by omega
        go_wp2
        go_ret
        exact ⟨⟨true, rfl, fun h => by cases h⟩, rfl⟩
    · obtain rfl : k = ss.length := by omega
      have hsm : Hid (∀ s ∈ ss, s.l.length ≤ 200) := by
        intro s hs
        obtain ⟨j, hj, rfl⟩ := List.getElem_of_mem hs
        exact hall.out j hj hj
      by_cases h1 : 200 < ss.length
      · go_wp2
        go_ret
        exact ⟨⟨true, rfl, fun h => by cases h⟩, rfl⟩
      · by_cases h2 : 2000 < n
        · go_wp2
          go_ret
          exact ⟨⟨true, rfl, fun h => by cases h⟩, rfl⟩
        · by_cases h3 : 2000 < na
          · go_wp2
            go_ret
            exact ⟨⟨true, rfl, fun h => by cases h⟩, rfl⟩
          · by_cases h4 : 2000 < nb
            · go_wp2
              go_ret
              exact ⟨⟨true, ret_bool (by simp; omega), fun h => by cases h⟩, rfl⟩
            · go_wp2
              go_ret
              exact ⟨⟨false, ret_bool (by simp; omega), fun _ => ⟨by omega, hsm.out, by omega, by omega⟩⟩, rfl⟩

end Go.Proofs.Ytnmnecjelpglhaa.Alloc
