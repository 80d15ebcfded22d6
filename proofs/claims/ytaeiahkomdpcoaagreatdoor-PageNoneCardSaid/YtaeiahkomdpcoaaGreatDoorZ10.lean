/- Texts merged into one: part 10 of 11. -/
import Derived.Test.YtaeiahkomdpcoaaGreatDoorZ9
import Derived.Test.YtaeiahkomdpcoaaGreatDoorZ8
import Derived.Test.YtaeiahkomdpcoaaGreatDoorZ7

section
/- A row of pairs that are versions; merge.Of over it; page.Names, Versions, Any over that. -/
namespace Go.Proofs.YtaeiahkomdpcoaaGreatDoor.Page
open Go Go.RowKit Go.Proofs.YtaeiahkomdpcoaaGreatDoor.Seq

theorem of_calls (A : Option Addr) (n c : Nat) (w : World) : Calls Tryz.prog 11 #[.slice A n c] w fun e w' => e = .returned (ofV w.heap.size) ∧ w' = w.alloc (.cells #[.slice A n c] 38) := by
  go_enter Tryz.func11, Tryz.ntmps11
  go_wp2
  go_ret
  exact ⟨rfl, rfl⟩

/-- A row of pairs, of versions. -/
structure AllAt (w : World) (A : Option Addr) (vs : List Ver) : Prop where
  row : PrsAt w.heap.size w A (vs.map prOf)
  v : Name.Var0 w
theorem prs_more {n₀ n₁ : Nat} {w : World} {A : Option Addr} {ps : List Pr} (h : PrsAt n₀ w A ps) (hn : n₀ ≤ n₁) : PrsAt n₁ w A ps := fun i p hp => by
  obtain ⟨ad, h0, h1, h2⟩ := h i p hp
  exact ⟨ad, h0, Nat.lt_of_lt_of_le h1 hn, h2⟩
theorem AllAt.below {w w' : World} {A : Option Addr} {vs : List Ver} (h : AllAt w A vs) (hb : Below w.heap.size w w') : AllAt w' A vs :=
  ⟨prs_more (h.row.below hb) hb.size, h.v.below hb⟩
theorem AllAt.box {w : World} {A : Option Addr} {vs : List Ver} (h : AllAt w A vs) (c : Nat) : ItB (w.alloc (.cells #[.slice A vs.length c] 38)).heap.size w.heap.size A c vs (w.alloc (.cells #[.slice A vs.length c] 38)) := by
  have hb := below_one w (.cells #[.slice A vs.length c] 38)
  have hv := h.v.below hb
  refine ⟨by obtain ⟨_, _, h0⟩ := hv; exact h0, ⟨by simp, ?_, prs_more (h.row.below hb) hb.size⟩, hv⟩
  rw [List.length_map, Joins.cell_of_block (MapKept.heap_alloc w _).1]; rfl

/-- What a call that hands back a page returns, the boxed row behind it. -/
def PageB (w : World) (r : List Ver × Bool) (e : Ending) (w' : World) : Prop := ∃ A cp, e = .returned (.tuple #[.agg #[.slice A r.1.length cp, .bool r.2], .int .i64 0]) ∧ ItsAt w' A r.1 ∧ Below w.heap.size w w'
theorem PageR.b {w : World} {o : Obj} {r : List Ver × Bool} {e : Ending} {w' : World} (h : PageR (w.alloc o) r e w') : PageB w r e w' :=
  let ⟨A, cp, he, hI, _, hB⟩ := h; ⟨A, cp, he, hI, below_of (below_one w o) hB⟩

theorem names_of (A : Option Addr) (c : Nat) (vs : List Ver) (b pre aft : ByteArray) (most : Nat) (w : World) (hok : ∀ v ∈ vs, v.Ok) (hreach : vs.length ≤ 100000) (h : AllAt w A vs)
    (hb : Name.bucketL b.data.toList = true) (hbs : b.size ≤ 1000) (h1 : pre.size ≤ 200) (h2 : aft.size ≤ 200) (hm1 : 1 ≤ most) (hm2 : most ≤ 256) :
    Calls Tryz.prog 5 #[ofV w.heap.size, .string b, .string pre, .string aft, .int .i64 (most : Int)] (w.alloc (.cells #[.slice A vs.length c] 38)) fun e w' => PageB w (cutP most (sel pre aft none' (itemsOf b vs))) e w' :=
  (names_calls w.heap.size A c vs b pre aft most _ hok hreach (h.box c) hb hbs h1 h2 hm1 hm2).mono fun _ _ h => h.b
theorem versions_of (A : Option Addr) (c : Nat) (vs : List Ver) (b pre : ByteArray) (aft : Nat) (most : Nat) (w : World) (hok : ∀ v ∈ vs, v.Ok) (hreach : vs.length ≤ 100000) (h : AllAt w A vs)
    (hb : Name.bucketL b.data.toList = true) (hbs : b.size ≤ 1000) (ho : Name.objectL pre.data.toList = true) (h1 : pre.size ≤ 200) (hm1 : 1 ≤ most) (hm2 : most ≤ 256) :
    Calls Tryz.prog 7 #[ofV w.heap.size, .string b, .string pre, .int .u64 (aft : Int), .int .i64 (most : Int)] (w.alloc (.cells #[.slice A vs.length c] 38)) fun e w' => PageB w (cutP most (selV pre aft (itemsOf b vs))) e w' :=
  (versions_calls w.heap.size A c vs b pre aft most _ hok hreach (h.box c) hb hbs ho h1 hm1 hm2).mono fun _ _ h => h.b
theorem any_of (A : Option Addr) (c : Nat) (vs : List Ver) (pre : ByteArray) (w : World) (hreach : vs.length ≤ 100000) (h : AllAt w A vs) :
    Calls Tryz.prog 9 #[ofV w.heap.size, .string pre] (w.alloc (.cells #[.slice A vs.length c] 38)) fun e w' => e = .returned (.bool ((vs.map prOf).any fun p => pfx pre p.1)) ∧ Below w.heap.size w w' :=
  (any_calls w.heap.size A c (vs.map prOf) pre _ (by rw [List.length_map]; exact hreach) (h.box c).of).mono fun _ _ ⟨he, hB⟩ => ⟨he, below_of (below_one w _) hB⟩

end Go.Proofs.YtaeiahkomdpcoaaGreatDoor.Page
end

section
/- hoardref24.Same, where the pages are the same. -/
namespace Go.Proofs.YtaeiahkomdpcoaaGreatDoor.Page
open Go Go.RowKit Go.Deep Go.Proofs.YtaeiahkomdpcoaaGreatDoor.Seq

set_option maxHeartbeats 400000 in
set_option maxRecDepth 100000 in
theorem item_neq (a : ByteArray) (n l : Int) (g : Bool) (W : World) : (binOp .neq 44 (.agg #[.string a, .int .u64 n, .int .i64 l, .bool g]) (.agg #[.string a, .int .u64 n, .int .i64 l, .bool g])).run Tryz.prog W = .ok (.bool false) W := by
  have hu := Tryz.underlying44
  have h9 := Tryz.underlying9
  have h22 := Tryz.underlying31
  have h3 := Tryz.underlying3
  have h4 := Tryz.underlying4
  have hp : Tryz.prog.stoodInHeld 44 = false := by kernel_rfl
  have hf : Tryz.prog.underlying 44 = some (.struct (Tryz.prog.fieldsOf 44)) := by kernel_rfl
  rw [run_neq_struct, run_equalIn_agg W 9999 _ _ _ hf hp]
  clear hf hp
  simp [Program.fieldsOf, hu, Op.eqFields, go_sem, h9, h22, h3, h4]

set_option maxHeartbeats 1600000 in
set_option maxRecDepth 100000 in
theorem same_calls (A B : Option Addr) (c d : Nat) (xs : List Ver) (m : Bool) (w : World) (hA : ItsAt w A xs) (hB : ItsAt w B xs) (hl : xs.length ≤ 100000) :
    Calls Tryz.prog 12 #[.agg #[.slice A xs.length c, .bool m], .agg #[.slice B xs.length d, .bool m]] w fun e w' => e = .returned (.bool true) ∧ Below w.heap.size w w' := by
  have b1 := below_one w (.cells #[.slice A xs.length c, .bool m] 25)
  have b2 := below_one (w.alloc (.cells #[.slice A xs.length c, .bool m] 25)) (.cells #[.slice B xs.length d, .bool m] 25)
  have P1 := (pgRow_new w A xs.length c m).below b2
  have P2 := pgRow_new (w.alloc (.cells #[.slice A xs.length c, .bool m] 25)) B xs.length d m
  rw [World.size_alloc] at P2
  have A2 := (hA.below b1).below b2
  have B2 := (hB.below b1).below b2
  have c2 := below_of b1 b2
  have hmm : (m != m) = false := by simp
  have hll : ((xs.length : Int) != (xs.length : Int)) = false := by simp
  clear b1 b2 hA hB
  cases m
  all_goals
    go_enter Tryz.func12, Tryz.ntmps12
    go_upto_region 1 with fail
    generalize (w.alloc (.cells #[.slice A xs.length c, .bool _] 25)).alloc (.cells #[.slice B xs.length d, .bool _] 25) = w2 at P1 P2 A2 B2 c2 ⊢
    obtain ⟨p0, p1⟩ := P1.c
    obtain ⟨r0, r1⟩ := P2.c
    go_wp2
    clear p0 p1 r0 r1
    go_loopw [5] (fun iv wr => ∃ k : Nat, k ≤ xs.length ∧ iv = .int .i64 (k : Int) ∧ ItsAt wr A xs ∧ ItsAt wr B xs ∧ PgRow wr w.heap.size A xs.length c _ ∧ PgRow wr (w.heap.size + 1) B xs.length d _ ∧ Below w.heap.size w wr) (fun iv _ => xs.length - (intOf iv).toNat)
    case atStart => exact ⟨0, by omega, rfl, A2, B2, P1, P2, c2⟩
    case round =>
      obtain ⟨k, hk, rfl, hAr, hBr, q1, q2, hb⟩ := hrel
      obtain ⟨p0, p1⟩ := q1.c
      obtain ⟨r0, r1⟩ := q2.c
      by_cases hlt : k < xs.length
      · obtain ⟨ad, rfl, had, e0, e1, e2, e3⟩ := hAr.at_ hlt
        obtain ⟨bd, rfl, hbd, d0, d1, d2, d3⟩ := hBr.at_ hlt
        obtain ⟨x, hx⟩ : ∃ x, x = xs[k] := ⟨_, rfl⟩
        rw [← hx] at e0 e1 e2 e3 d0 d1 d2 d3
        clear hx
        have hnq := fun W => item_neq x.nm (x.n : Int) x.len x.gone W
        go_upto_region 6 with fail
        go_region
        go_wp2
        go_roundw
        case rel => exact ⟨k + 1, by omega, by go_num, hAr, hBr, q1, q2, hb.drew⟩
        case measure => simp [intOf]; omega
      · obtain rfl : k = xs.length := by omega
        go_wp2
        go_ret
        exact ⟨rfl, hb⟩

end Go.Proofs.YtaeiahkomdpcoaaGreatDoor.Page
end

section
/- The walk of hoardlaw24.works, the document's example. -/
namespace Go.Proofs.YtaeiahkomdpcoaaGreatDoor.Page
open Go Go.RowKit Go.Deep Go.Proofs.YtaeiahkomdpcoaaGreatDoor.Seq

def NamR (r : List Ver × Bool) (n : Nat) (w : World) (e : Ending) (w' : World) : Prop := ∃ A cp, e = .returned (.tuple #[.agg #[.slice A n cp, .bool r.2], .int .i64 0]) ∧ ItsAt w' A r.1 ∧ Below w.heap.size w w'
theorem w_names1 (A : Option Addr) (c : Nat) (w : World) (h : AllAt w A wvs) : Calls Tryz.prog 5 #[ofV w.heap.size, .string ⟨#[107]⟩, .string ⟨#[]⟩, .string ⟨#[]⟩, .int .i64 1] (w.alloc (.cells #[.slice A 4 c] 38)) fun e w' =>
    ∃ A' cp, e = .returned (.tuple #[.agg #[.slice A' 1 cp, .bool true], .int .i64 0]) ∧ ItsAt w' A' [wv0] ∧ Below w.heap.size w w' :=
  (names_of A c wvs kB none' none' 1 w wvs_ok (by decide) h (by kernel_rfl) (by decide) (by decide) (by decide) (by decide) (by decide)).mono fun e w' hp => by
    rw [w_sel1] at hp
    exact hp
theorem w_names2 (A : Option Addr) (c : Nat) (w : World) (h : AllAt w A wvs) : Calls Tryz.prog 5 #[ofV w.heap.size, .string ⟨#[107]⟩, .string ⟨#[]⟩, .string ⟨#[97]⟩, .int .i64 5] (w.alloc (.cells #[.slice A 4 c] 38)) fun e w' =>
    ∃ A' cp, e = .returned (.tuple #[.agg #[.slice A' 1 cp, .bool false], .int .i64 0]) ∧ ItsAt w' A' [wv3] ∧ Below w.heap.size w w' :=
  (names_of A c wvs kB none' aN 5 w wvs_ok (by decide) h (by kernel_rfl) (by decide) (by decide) (by decide) (by decide) (by decide)).mono fun e w' hp => by
    rw [w_sel2] at hp
    exact hp
theorem w_vers (A : Option Addr) (c : Nat) (w : World) (h : AllAt w A wvs) : Calls Tryz.prog 7 #[ofV w.heap.size, .string ⟨#[107]⟩, .string ⟨#[97]⟩, .int .u64 0, .int .i64 5] (w.alloc (.cells #[.slice A 4 c] 38)) fun e w' =>
    ∃ A' cp, e = .returned (.tuple #[.agg #[.slice A' 2 cp, .bool false], .int .i64 0]) ∧ ItsAt w' A' [wv0, wv1] ∧ Below w.heap.size w w' :=
  (versions_of A c wvs kB aN 0 5 w wvs_ok (by decide) h (by kernel_rfl) (by decide) (by kernel_rfl) (by decide) (by decide) (by decide)).mono fun e w' hp => by
    rw [w_selV] at hp
    exact hp
theorem w_any (A : Option Addr) (c : Nat) (w : World) (h : AllAt w A wvs) : Calls Tryz.prog 9 #[ofV w.heap.size, .string ⟨#[3, 107]⟩] (w.alloc (.cells #[.slice A 4 c] 38)) fun e w' => e = .returned (.bool true) ∧ Below w.heap.size w w' :=
  (any_of A c wvs ⟨#[3, 107]⟩ w (by decide) h).mono fun e w' ⟨he, hb⟩ => ⟨by rw [he, w_any3], hb⟩
theorem w_none (A : Option Addr) (c : Nat) (w : World) (h : AllAt w A wvs) : Calls Tryz.prog 9 #[ofV w.heap.size, .string ⟨#[2]⟩] (w.alloc (.cells #[.slice A 4 c] 38)) fun e w' => e = .returned (.bool false) ∧ Below w.heap.size w w' :=
  (any_of A c wvs ⟨#[2]⟩ w (by decide) h).mono fun e w' ⟨he, hb⟩ => ⟨by rw [he, w_any2], hb⟩

theorem w_pair {v : Ver} (hp : pairS v = prOf v) (hb : v.bk.size ≤ 9223372036854775807) (hn : v.nm.size ≤ 9223372036854775807) (ht : v.n ≤ Name.top) (w : World) (hv : Name.Var0 w) :
    Calls Tryz.prog 10 #[.string v.bk, .string v.nm, .int .u64 (v.n : Int), .string v.tx, .bool v.gone] w fun e w' => e = .returned (.agg #[.string (prOf v).1, .string (prOf v).2]) ∧ Name.Var0 w' ∧ Below w.heap.size w w' :=
  (pair_calls v w hv ⟨hb, hn, ht⟩).mono fun e w' ⟨he, hB⟩ => ⟨by rw [he, hp], hv.below hB, hB⟩

theorem all_new (w : World) (hv : Name.Var0 w) (k0 t0 k1 t1 k2 t2 k3 t3 : ByteArray) (q0 : (k0, t0) = prOf wv0) (q1 : (k1, t1) = prOf wv1) (q2 : (k2, t2) = prOf wv2) (q3 : (k3, t3) = prOf wv3) :
    AllAt (w.alloc (.cells #[.string k0, .string t0, .string k1, .string t1, .string k2, .string t2, .string k3, .string t3] 36)) (some ⟨w.heap.size, 0, none⟩) wvs := by
  have hb := below_one w (.cells #[.string k0, .string t0, .string k1, .string t1, .string k2, .string t2, .string k3, .string t3] 36)
  refine ⟨fun i p hp => ⟨_, rfl, by simp, by simp, ?_⟩, hv.below hb⟩
  have hc : ∀ j u, [Value.string k0, .string t0, .string k1, .string t1, .string k2, .string t2, .string k3, .string t3][j]? = some u → (w.alloc (.cells #[.string k0, .string t0, .string k1, .string t1, .string k2, .string t2, .string k3, .string t3] 36)).cell? ((⟨w.heap.size, 0, none⟩ : Addr).add j) = some u :=
    World.news_of_block (MapKept.heap_alloc w _).1
  match i, hp with
  | 0, hp => obtain rfl : prOf wv0 = p := by simpa [wvs] using hp
             exact ⟨hc 0 _ (by rw [← q0]; rfl), hc 1 _ (by rw [← q0]; rfl)⟩
  | 1, hp => obtain rfl : prOf wv1 = p := by simpa [wvs] using hp
             exact ⟨hc 2 _ (by rw [← q1]; rfl), hc 3 _ (by rw [← q1]; rfl)⟩
  | 2, hp => obtain rfl : prOf wv2 = p := by simpa [wvs] using hp
             exact ⟨hc 4 _ (by rw [← q2]; rfl), hc 5 _ (by rw [← q2]; rfl)⟩
  | 3, hp => obtain rfl : prOf wv3 = p := by simpa [wvs] using hp
             exact ⟨hc 6 _ (by rw [← q3]; rfl), hc 7 _ (by rw [← q3]; rfl)⟩
  | n + 4, hp => simp [wvs] at hp

/-- An item that is laid by hand. -/
theorem its_one (w : World) (v : Ver) : ItsAt (w.alloc (.cells #[.string v.nm, .int .u64 (v.n : Int), .int .i64 v.len, .bool v.gone] 44)) (some ⟨w.heap.size, 0, none⟩) [v] := fun i p hp => by
  have hc : ∀ j u, [Value.string v.nm, .int .u64 (v.n : Int), .int .i64 v.len, .bool v.gone][j]? = some u → (w.alloc (.cells #[.string v.nm, .int .u64 (v.n : Int), .int .i64 v.len, .bool v.gone] 44)).cell? ((⟨w.heap.size, 0, none⟩ : Addr).add j) = some u :=
    World.news_of_block (MapKept.heap_alloc w _).1
  match i, hp with
  | 0, hp => obtain rfl : v = p := by simpa using hp
             exact ⟨_, rfl, by simp, hc 0 _ rfl, hc 1 _ rfl, hc 2 _ rfl, hc 3 _ rfl⟩
  | n + 1, hp => simp at hp

set_option maxHeartbeats 4000000 in
set_option maxRecDepth 100000 in
theorem works_calls (w : World) (hv : Name.Var0 w) : Calls Tryz.prog 4 #[] w fun e w' => e = .returned (.bool true) ∧ Below w.heap.size w w' := by
  have H0 : Hid (∀ W, Name.Var0 W → Calls Tryz.prog 10 #[.string ⟨#[107]⟩, .string ⟨#[97]⟩, .int .u64 3, .string ⟨#[120, 121, 122]⟩, .bool false] W fun e w' => e = .returned (.agg #[.string (prOf wv0).1, .string (prOf wv0).2]) ∧ Name.Var0 w' ∧ Below W.heap.size W w') := fun W h => w_pair pair0 (by decide) (by decide) (by decide) W h
  have H1 : Hid (∀ W, Name.Var0 W → Calls Tryz.prog 10 #[.string ⟨#[107]⟩, .string ⟨#[97]⟩, .int .u64 1, .string ⟨#[]⟩, .bool true] W fun e w' => e = .returned (.agg #[.string (prOf wv1).1, .string (prOf wv1).2]) ∧ Name.Var0 w' ∧ Below W.heap.size W w') := fun W h => w_pair pair1 (by decide) (by decide) (by decide) W h
  have H2 : Hid (∀ W, Name.Var0 W → Calls Tryz.prog 10 #[.string ⟨#[107]⟩, .string ⟨#[98]⟩, .int .u64 2, .string ⟨#[]⟩, .bool true] W fun e w' => e = .returned (.agg #[.string (prOf wv2).1, .string (prOf wv2).2]) ∧ Name.Var0 w' ∧ Below W.heap.size W w') := fun W h => w_pair pair2 (by decide) (by decide) (by decide) W h
  have H3 : Hid (∀ W, Name.Var0 W → Calls Tryz.prog 10 #[.string ⟨#[107]⟩, .string ⟨#[99]⟩, .int .u64 4, .string ⟨#[]⟩, .bool false] W fun e w' => e = .returned (.agg #[.string (prOf wv3).1, .string (prOf wv3).2]) ∧ Name.Var0 w' ∧ Below W.heap.size W w') := fun W h => w_pair pair3 (by decide) (by decide) (by decide) W h
  obtain ⟨⟨k0, t0⟩, q0⟩ : ∃ p, p = prOf wv0 := ⟨_, rfl⟩
  obtain ⟨⟨k1, t1⟩, q1⟩ : ∃ p, p = prOf wv1 := ⟨_, rfl⟩
  obtain ⟨⟨k2, t2⟩, q2⟩ : ∃ p, p = prOf wv2 := ⟨_, rfl⟩
  obtain ⟨⟨k3, t3⟩, q3⟩ : ∃ p, p = prOf wv3 := ⟨_, rfl⟩
  rw [← q0] at H0
  rw [← q1] at H1
  rw [← q2] at H2
  rw [← q3] at H3
  have HA := Lib.hid (fun W hv => all_new W hv k0 t0 k1 t1 k2 t2 k3 t3 q0 q1 q2 q3)
  clear q0 q1 q2 q3
  go_enter Tryz.func4, Tryz.ntmps4
  go_wp2_with fail
  refine (H0.out _ hv).mono ?_
  rintro e w1 ⟨rfl, v1, b1⟩
  go_wp2_with fail
  refine (H1.out _ v1).mono ?_
  rintro e w2 ⟨rfl, v2, b2⟩
  go_wp2_with fail
  refine (H2.out _ v2).mono ?_
  rintro e w3 ⟨rfl, v3, b3⟩
  go_wp2_with fail
  refine (H3.out _ v3).mono ?_
  rintro e w4 ⟨rfl, v4, b4⟩
  have c4 := below_of (below_of (below_of b1 b2) b3) b4
  have A5 := HA.out w4 v4
  have c5 := below_of c4 (below_one w4 (.cells #[.string k0, .string t0, .string k1, .string t1, .string k2, .string t2, .string k3, .string t3] 36))
  clear H0 H1 H2 H3 HA b1 b2 b3 b4 v1 v2 v3 v4 c4 hv
  go_upto_region 2 with fail
  obtain ⟨W5, q5⟩ : ∃ W, W = w4.alloc (.cells #[.string k0, .string t0, .string k1, .string t1, .string k2, .string t2, .string k3, .string t3] 36) := ⟨_, rfl⟩
  rw [← q5] at A5 c5 ⊢
  obtain ⟨B, hB⟩ : ∃ B, B = w4.heap.size := ⟨_, rfl⟩
  rw [← hB] at A5 ⊢
  clear q5 hB
  have HN1 := Lib.hid (w_names1 (some ⟨B, 0, none⟩) 4)
  have HN2 := Lib.hid (w_names2 (some ⟨B, 0, none⟩) 4)
  have HV := Lib.hid (w_vers (some ⟨B, 0, none⟩) 4)
  have HA1 := Lib.hid (w_any (some ⟨B, 0, none⟩) 4)
  have HA2 := Lib.hid (w_none (some ⟨B, 0, none⟩) 4)
  have HO := Lib.hid (of_calls (some ⟨B, 0, none⟩) 4 4)
  go_wp2_with fail
  refine (HO.out _).mono ?_
  rintro e wb ⟨rfl, rfl⟩
  go_wp2_with fail
  refine (HN1.out _ A5).mono ?_
  rintro e w6 ⟨I1, cp1, rfl, hI1, b6⟩
  have A6 := A5.below b6
  have c6 := below_of c5 b6
  clear A5 c5 b6 HN1
  have b7 := below_one w6 (.cells #[.slice I1 1 cp1, .bool true] 25)
  have P7 := pgRow_new w6 I1 1 cp1 true
  have I7 := hI1.below b7
  have A7 := A6.below b7
  have c7 := below_of c6 b7
  clear hI1 A6 b7 c6
  go_upto_region 3 with fail
  obtain ⟨g1, qg1⟩ : ∃ g, g = w6.heap.size := ⟨_, rfl⟩
  obtain ⟨W7, q7⟩ : ∃ W, W = w6.alloc (.cells #[.slice I1 1 cp1, .bool true] 25) := ⟨_, rfl⟩
  rw [← q7] at P7 I7 A7 c7 ⊢
  rw [← qg1] at P7 ⊢
  clear q7 qg1
  go_wp2_with fail
  refine (HO.out _).mono ?_
  rintro e wb ⟨rfl, rfl⟩
  go_wp2_with fail
  refine (HN2.out _ A7).mono ?_
  rintro e w8 ⟨I2, cp2, rfl, hI2, b8⟩
  have A8 := A7.below b8
  have P8 := P7.below b8
  have I8 := I7.below b8
  have c8 := below_of c7 b8
  clear A7 P7 I7 c7 b8 HN2
  have b9 := below_one w8 (.cells #[.slice I2 1 cp2, .bool false] 25)
  have R9 := pgRow_new w8 I2 1 cp2 false
  have J9 := hI2.below b9
  have P9 := P8.below b9
  have I9 := I8.below b9
  have A9 := A8.below b9
  have c9 := below_of c8 b9
  clear hI2 A8 P8 I8 b9 c8
  go_upto_region 4 with fail
  obtain ⟨g2, qg2⟩ : ∃ g, g = w8.heap.size := ⟨_, rfl⟩
  obtain ⟨W9, q9⟩ : ∃ W, W = w8.alloc (.cells #[.slice I2 1 cp2, .bool false] 25) := ⟨_, rfl⟩
  rw [← q9] at R9 J9 P9 I9 A9 c9 ⊢
  rw [← qg2] at R9 ⊢
  clear q9 qg2
  go_wp2_with fail
  refine (HO.out _).mono ?_
  rintro e wb ⟨rfl, rfl⟩
  go_wp2_with fail
  refine (HV.out _ A9).mono ?_
  rintro e w10 ⟨I3, cp3, rfl, hI3, b10⟩
  have A10 := A9.below b10
  have R10 := R9.below b10
  have J10 := J9.below b10
  have P10 := P9.below b10
  have I10 := I9.below b10
  have c10 := below_of c9 b10
  clear A9 R9 J9 P9 I9 c9 b10 HV
  have b11 := below_one w10 (.cells #[.slice I3 2 cp3, .bool false] 25)
  have S11 := pgRow_new w10 I3 2 cp3 false
  have K11 := hI3.below b11
  have R11 := R10.below b11
  have J11 := J10.below b11
  have P11 := P10.below b11
  have I11 := I10.below b11
  have A11 := A10.below b11
  have c11 := below_of c10 b11
  clear hI3 A10 R10 J10 P10 I10 b11 c10
  go_upto_region 5 with fail
  obtain ⟨g3, qg3⟩ : ∃ g, g = w10.heap.size := ⟨_, rfl⟩
  obtain ⟨W, q11⟩ : ∃ W, W = w10.alloc (.cells #[.slice I3 2 cp3, .bool false] 25) := ⟨_, rfl⟩
  rw [← q11] at S11 K11 R11 J11 P11 I11 A11 c11 ⊢
  rw [← qg3] at S11 ⊢
  clear q11 qg3
  obtain ⟨p0, p1⟩ := P11.c
  go_wp2_with fail
  have L1 := below_one W (.cells #[.string ⟨#[97]⟩, .int .u64 3, .int .i64 3, .bool false] 44)
  refine (same_calls I1 (some ⟨W.heap.size, 0, none⟩) cp1 1 [wv0] true _ (I11.below L1) (its_one W wv0) (by decide)).mono ?_
  rintro e w12 ⟨rfl, b12⟩
  have m12 := below_of L1 b12
  have A12 := A11.below m12
  have R12 := R11.below m12
  have J12 := J11.below m12
  have S12 := S11.below m12
  have K12 := K11.below m12
  have c12 := below_of c11 m12
  clear A11 R11 J11 P11 I11 S11 K11 c11 m12 L1 p0 p1 b12
  obtain ⟨p0, p1⟩ := R12.c
  go_wp2_with fail
  have L2 := below_one w12 (.cells #[.string ⟨#[99]⟩, .int .u64 4, .int .i64 0, .bool false] 44)
  refine (same_calls I2 (some ⟨w12.heap.size, 0, none⟩) cp2 1 [wv3] false _ (J12.below L2) (its_one w12 wv3) (by decide)).mono ?_
  rintro e w13 ⟨rfl, b13⟩
  have m13 := below_of L2 b13
  have A13 := A12.below m13
  have S13 := S12.below m13
  have K13 := K12.below m13
  have c13 := below_of c12 m13
  clear A12 R12 J12 S12 K12 c12 m13 L2 p0 p1 b13
  obtain ⟨p0, p1⟩ := S13.c
  obtain ⟨ad, rfl, had, e0, e1, e2, e3⟩ := K13.at_ (k := 1) (by decide)
  simp only [List.getElem_cons_succ, List.getElem_cons_zero, Nat.one_mul] at e0 e1 e2 e3
  have e5 : w13.cell? ⟨ad.block, ad.off + 4 + 3, none⟩ = some (.bool true) := e3
  clear e0 e1 e2 e3
  go_wp2_with fail
  refine (HO.out _).mono ?_
  rintro e wb ⟨rfl, rfl⟩
  go_wp2_with fail
  refine (HA1.out _ A13).mono ?_
  rintro e w14 ⟨rfl, b14⟩
  have A14 := A13.below b14
  have c14 := below_of c13 b14
  clear A13 S13 K13 c13 b14 p0 p1 e5 had
  go_wp2_with fail
  refine (HO.out _).mono ?_
  rintro e wb ⟨rfl, rfl⟩
  go_wp2_with fail
  refine (HA2.out _ A14).mono ?_
  rintro e w15 ⟨rfl, b15⟩
  have c15 := below_of c14 b15
  go_wp2_with fail
  go_ret
  exact ⟨rfl, c15⟩

end Go.Proofs.YtaeiahkomdpcoaaGreatDoor.Page
end

section
/- The walks of the document's answers for names: HasBucket, HasN, Bucket, Object, numbers, texts. -/
namespace Go.Proofs.YtaeiahkomdpcoaaGreatDoor.Name
open Go.RowKit Go.Shelf

theorem refHasB_calls (k : Nat) (w : World) : Calls Tryz.prog 60 #[.int .u8 (k : Int)] w fun e w' => e = .returned (.bool (hasB k)) ∧ w' = w := by
  by_cases h1 : 2 ≤ k
  · by_cases h2 : k ≤ 5
    · rw [show hasB k = true from decide_eq_true ⟨h1, h2⟩]
      have i1 : (2 : Int) ≤ (k : Int) := by omega
      have i2 : (k : Int) ≤ 5 := by omega
      go_enter Tryz.func60, Tryz.ntmps60
      go_wp2
      go_ret
      exact ⟨rfl, rfl⟩
    · rw [show hasB k = false from decide_eq_false (by omega)]
      have i1 : (2 : Int) ≤ (k : Int) := by omega
      have i2 : ¬ (k : Int) ≤ 5 := by omega
      go_enter Tryz.func60, Tryz.ntmps60
      go_wp2
      go_ret
      exact ⟨rfl, rfl⟩
  · rw [show hasB k = false from decide_eq_false (by omega)]
    have i1 : ¬ (2 : Int) ≤ (k : Int) := by omega
    go_enter Tryz.func60, Tryz.ntmps60
    go_wp2
    go_ret
    exact ⟨rfl, rfl⟩

theorem refHasN_calls (k : Nat) (w : World) : Calls Tryz.prog 61 #[.int .u8 (k : Int)] w fun e w' => e = .returned (.bool (hasN k)) ∧ w' = w := by
  by_cases h1 : 3 ≤ k
  · by_cases h2 : k ≤ 6
    · rw [show hasN k = true from decide_eq_true ⟨h1, h2⟩]
      have i1 : (3 : Int) ≤ (k : Int) := by omega
      have i2 : (k : Int) ≤ 6 := by omega
      go_enter Tryz.func61, Tryz.ntmps61
      go_wp2
      go_ret
      exact ⟨rfl, rfl⟩
    · rw [show hasN k = false from decide_eq_false (by omega)]
      have i1 : (3 : Int) ≤ (k : Int) := by omega
      have i2 : ¬ (k : Int) ≤ 6 := by omega
      go_enter Tryz.func61, Tryz.ntmps61
      go_wp2
      go_ret
      exact ⟨rfl, rfl⟩
  · rw [show hasN k = false from decide_eq_false (by omega)]
    have i1 : ¬ (3 : Int) ≤ (k : Int) := by omega
    go_enter Tryz.func61, Tryz.ntmps61
    go_wp2
    go_ret
    exact ⟨rfl, rfl⟩

theorem refObject_calls (s : ByteArray) (w : World) (hs : s.size ≤ 9223372036854775807) : Calls Tryz.prog 23 #[.string s] w fun e w' => e = .returned (.bool (objectL s.data.toList)) ∧ w' = w := by
  have hl := size_list s
  by_cases h1 : 1 ≤ s.size
  · by_cases h2 : s.size ≤ 200
    · rw [show objectL s.data.toList = true from decide_eq_true (by omega)]
      have i1 : (1 : Int) ≤ (s.size : Int) := by omega
      have i2 : (s.size : Int) ≤ 200 := by omega
      go_enter Tryz.func23, Tryz.ntmps23
      go_wp2
      go_ret
      exact ⟨rfl, rfl⟩
    · rw [show objectL s.data.toList = false from decide_eq_false (by omega)]
      have i1 : (1 : Int) ≤ (s.size : Int) := by omega
      have i2 : ¬ (s.size : Int) ≤ 200 := by omega
      go_enter Tryz.func23, Tryz.ntmps23
      go_wp2
      go_ret
      exact ⟨rfl, rfl⟩
  · rw [show objectL s.data.toList = false from decide_eq_false (by omega)]
    have i1 : ¬ (1 : Int) ≤ (s.size : Int) := by omega
    go_enter Tryz.func23, Tryz.ntmps23
    go_wp2
    go_ret
    exact ⟨rfl, rfl⟩

theorem cmpL_drop (l r : Bs) (k : Nat) (h1 : k < l.length) (h2 : k < r.length) : cmpL (l.drop k) (r.drop k) = if l[k] < r[k] then -1 else if r[k] < l[k] then 1 else cmpL (l.drop (k + 1)) (r.drop (k + 1)) := by
  rw [List.drop_eq_getElem_cons h1, List.drop_eq_getElem_cons h2, cmpL_cons]
theorem cmpL_end (l r : Bs) (k : Nat) (h1 : k ≤ l.length) (h2 : k ≤ r.length) (h : k = l.length ∨ k = r.length) : cmpL (l.drop k) (r.drop k) = cmpZ (l.length : Int) (r.length : Int) := by
  rw [cmpN_cast]
  unfold cmpN
  rcases h with h | h
  · rw [h, List.drop_length]
    cases hr : r.drop l.length with
    | nil =>
      have := congrArg List.length hr
      rw [List.length_drop, List.length_nil] at this
      rw [if_neg (by omega), if_neg (by omega)]; rfl
    | cons a t =>
      have := congrArg List.length hr
      rw [List.length_drop, List.length_cons] at this
      rw [if_pos (by omega)]; rfl
  · rw [h, List.drop_length]
    cases hr : l.drop r.length with
    | nil =>
      have := congrArg List.length hr
      rw [List.length_drop, List.length_nil] at this
      rw [if_neg (by omega), if_neg (by omega)]; rfl
    | cons a t =>
      have := congrArg List.length hr
      rw [List.length_drop, List.length_cons] at this
      rw [if_neg (by omega), if_pos (by omega)]; rfl

/-- One byte of a bucket's name, where it stands. -/
def refOk (n i c : Nat) : Bool := wordB c || (decide (i ≠ 0 ∧ i + 1 ≠ n) && (decide (c = 45) || decide (c = 46)))
theorem okCs_word : ∀ n : Nat, n < 256 → okCs.contains (UInt8.ofNat n) = (wordB n || (decide (n = 45) || decide (n = 46))) := by decide +kernel
theorem bucket_iff (l : Bs) (n : Nat) (hn : l.length = n) : bucketL l = true ↔ ((1 ≤ n ∧ n ≤ 63) ∧ ∀ i (h : i < l.length), refOk n i l[i].toNat = true) := by
  subst hn
  have hok : ∀ c : UInt8, okCs.contains c = (wordB c.toNat || (decide (c.toNat = 45) || decide (c.toNat = 46))) := fun c => by
    have := okCs_word c.toNat c.toNat_lt
    rwa [UInt8.ofNat_toNat] at this
  have hg : ∀ i (h : i < l.length), l.getD i 0 = l[i] := fun i h => by rw [List.getD_eq_getElem?_getD, List.getElem?_eq_getElem h]; rfl
  unfold bucketL
  simp only [Bool.and_eq_true, decide_eq_true_eq]
  constructor
  · rintro ⟨⟨⟨h1, h2⟩, h3⟩, h4⟩
    refine ⟨h1, fun i h => ?_⟩
    unfold refOk
    rw [hg 0 (by omega)] at h2
    rw [hg _ (by omega)] at h3
    by_cases hi : i = 0
    · subst hi; rw [h2]; rfl
    · by_cases hl : i + 1 = l.length
      · obtain rfl : i = l.length - 1 := by omega
        rw [h3]; rfl
      · have := List.all_eq_true.1 h4 l[i] (List.getElem_mem h)
        rw [hok] at this
        rw [decide_eq_true ⟨hi, hl⟩, Bool.true_and]; exact this
  · rintro ⟨h1, h2⟩
    have w0 : wordB (l[0]'(by omega)).toNat = true := by
      have := h2 0 (by omega)
      unfold refOk at this
      rwa [decide_eq_false (by omega), Bool.false_and, Bool.or_false] at this
    have wl : wordB (l[l.length - 1]'(by omega)).toNat = true := by
      have := h2 (l.length - 1) (by omega)
      unfold refOk at this
      rwa [decide_eq_false (by omega), Bool.false_and, Bool.or_false] at this
    refine ⟨⟨⟨h1, by rw [hg 0 (by omega)]; exact w0⟩, by rw [hg _ (by omega)]; exact wl⟩, List.all_eq_true.2 fun c hc => ?_⟩
    obtain ⟨i, hi, rfl⟩ := List.getElem_of_mem hc
    rw [hok]
    have := h2 i hi
    unfold refOk at this
    simp only [Bool.or_eq_true, Bool.and_eq_true] at this ⊢
    rcases this with h | h
    · exact .inl h
    · exact .inr h.2

set_option maxHeartbeats 3200000 in
set_option maxRecDepth 100000 in
theorem refBucket_calls (s : ByteArray) (w : World) (hs : s.size ≤ 9223372036854775807) : Calls Tryz.prog 18 #[.string s] w fun e w' => e = .returned (.bool (bucketL s.data.toList)) ∧ w' = w := by
  have hl := size_list s
  have hI := bucket_iff s.data.toList s.size hl
  obtain ⟨r, hr⟩ : ∃ r, r = bucketL s.data.toList := ⟨_, rfl⟩
  rw [← hr] at hI ⊢
  clear hr
  have HL := Lib.hid hl
  by_cases h1 : 1 ≤ s.size
  case neg =>
    have hr : r = false := Bool.eq_false_iff.2 fun h => by have := (hI.1 h).1; omega
    subst hr
    have i1 : (s.size : Int) < 1 := by omega
    clear hI hl
    go_enter Tryz.func18, Tryz.ntmps18
    go_wp2
    go_ret
    exact ⟨rfl, rfl⟩
  by_cases h2 : s.size ≤ 63
  case neg =>
    have hr : r = false := Bool.eq_false_iff.2 fun h => by have := (hI.1 h).1; omega
    subst hr
    have i1 : ¬ (s.size : Int) < 1 := by omega
    have i2 : (63 : Int) < (s.size : Int) := by omega
    clear hI hl
    go_enter Tryz.func18, Tryz.ntmps18
    go_wp2
    go_ret
    exact ⟨rfl, rfl⟩
  have i1 : ¬ (s.size : Int) < 1 := by omega
  have i2 : ¬ (63 : Int) < (s.size : Int) := by omega
  have iw : IntKind.i64.wrap ((s.size : Int) - 1) = (s.size : Int) - 1 := IntWalk.i64_in _ (by omega)
  have HI := Lib.hid hI
  clear hI hl
  go_enter Tryz.func18, Tryz.ntmps18
  go_wp2
  go_loop [3] (fun iv => ∃ k : Nat, k ≤ s.size ∧ iv = .int .i64 (k : Int) ∧ Hid (∀ i (h : i < s.size), i < k → refOk s.size i s[i].toNat = true)) (fun iv => s.size - (intOf iv).toNat)
  case atStart => exact ⟨0, by omega, rfl, Lib.hid (fun i h hi => absurd hi (by omega))⟩
  case round =>
    obtain ⟨k, hk, rfl, hB⟩ := hrel
    by_cases hlt : k < s.size
    case neg =>
      have hr : r = true := HI.out.2 ⟨⟨h1, by omega⟩, fun i h => hB.out i (by rw [← HL.out]; exact h) (by rw [HL.out] at h; omega)⟩
      subst hr
      have hk2 : k = s.size := by omega
      subst hk2
      go_wp2
      go_ret
      exact ⟨rfl, rfl⟩
    have HY : Hid (refOk s.size k s[k].toNat = true → ∀ i (h : i < s.size), i < k + 1 → refOk s.size i s[i].toNat = true) := fun hy i h hi => by
      by_cases hik : i = k
      · subst hik; exact hy
      · exact hB.out i h (by omega)
    have HN : Hid (refOk s.size k s[k].toNat = false → r = false) := fun hn => Bool.eq_false_iff.2 fun h => by
      have ht : refOk s.size k s[k].toNat = true := (HI.out.1 h).2 k (by rw [HL.out]; exact hlt)
      rw [hn] at ht
      cases ht
    clear hB
    have h8 := s[k].toNat_lt
    rcases (by omega : s[k].toNat < 48 ∨ (48 ≤ s[k].toNat ∧ s[k].toNat ≤ 57) ∨ (57 < s[k].toNat ∧ s[k].toNat < 97) ∨ (97 ≤ s[k].toNat ∧ s[k].toNat ≤ 122) ∨ 122 < s[k].toNat) with h | h | h | h | h
    · have a1 : ¬ (97 : Int) ≤ (s[k].toNat : Int) := by omega
      have a3 : ¬ (48 : Int) ≤ (s[k].toNat : Int) := by omega
      have hw : wordB s[k].toNat = false := by unfold wordB; rw [decide_eq_false (by omega), decide_eq_false (by omega)]; rfl
      by_cases hk0 : k = 0
      · have b0 : ((k : Int) == 0) = true := by rw [beq_iff_eq]; omega
        have hn := HN.out (by unfold refOk; rw [hw, decide_eq_false (by omega)]; rfl)
        subst hn
        clear HY HN h h8 hw hk0
        go_wp2
        go_ret
        exact ⟨rfl, rfl⟩
      have b0 : ((k : Int) == 0) = false := by rw [beq_eq_false_iff_ne]; omega
      by_cases hkl : k + 1 = s.size
      · have b1 : ((k : Int) == (s.size : Int) - 1) = true := by rw [beq_iff_eq]; omega
        have hn := HN.out (by unfold refOk; rw [hw, decide_eq_false (by omega)]; rfl)
        subst hn
        clear HY HN h h8 hw hk0 hkl
        go_wp2
        go_ret
        exact ⟨rfl, rfl⟩
      have b1 : ((k : Int) == (s.size : Int) - 1) = false := by rw [beq_eq_false_iff_ne]; omega
      by_cases c5 : s[k].toNat = 45
      · have d5 : ((s[k].toNat : Int) != 45) = false := by rw [bne_eq_false_iff_eq]; omega
        have hy := HY.out (by unfold refOk; rw [decide_eq_true (show k ≠ 0 ∧ k + 1 ≠ s.size from ⟨hk0, hkl⟩), decide_eq_true (show s[k].toNat = 45 from c5)]; simp)
        have HZ := Lib.hid hy
        clear hy HY HN h h8 hw hk0 hkl c5
        go_wp2
        go_round
        case rel => exact ⟨k + 1, by omega, by go_num, HZ⟩
        case measure => simp [intOf]; omega
      by_cases c6 : s[k].toNat = 46
      · have d5 : ((s[k].toNat : Int) != 45) = true := by rw [bne_iff_ne]; omega
        have d6 : ((s[k].toNat : Int) != 46) = false := by rw [bne_eq_false_iff_eq]; omega
        have hy := HY.out (by unfold refOk; rw [decide_eq_true (show k ≠ 0 ∧ k + 1 ≠ s.size from ⟨hk0, hkl⟩), decide_eq_true (show s[k].toNat = 46 from c6)]; simp)
        have HZ := Lib.hid hy
        clear hy HY HN h h8 hw hk0 hkl c5 c6
        go_wp2
        go_round
        case rel => exact ⟨k + 1, by omega, by go_num, HZ⟩
        case measure => simp [intOf]; omega
      have d5 : ((s[k].toNat : Int) != 45) = true := by rw [bne_iff_ne]; omega
      have d6 : ((s[k].toNat : Int) != 46) = true := by rw [bne_iff_ne]; omega
      have hn := HN.out (by unfold refOk; rw [hw, decide_eq_false c5, decide_eq_false c6]; simp)
      subst hn
      clear HY HN h h8 hw hk0 hkl c5 c6
      go_wp2
      go_ret
      exact ⟨rfl, rfl⟩
    · have a1 : ¬ (97 : Int) ≤ (s[k].toNat : Int) := by omega
      have a3 : (48 : Int) ≤ (s[k].toNat : Int) := by omega
      have a4 : (s[k].toNat : Int) ≤ 57 := by omega
      have hy := HY.out (by unfold refOk wordB; rw [decide_eq_true (show 48 ≤ s[k].toNat ∧ s[k].toNat ≤ 57 from h)]; simp)
      have HZ := Lib.hid hy
      clear hy HY HN h h8
      go_wp2
      go_round
      case rel => exact ⟨k + 1, by omega, by go_num, HZ⟩
      case measure => simp [intOf]; omega
    · have a1 : ¬ (97 : Int) ≤ (s[k].toNat : Int) := by omega
      have a3 : (48 : Int) ≤ (s[k].toNat : Int) := by omega
      have a4 : ¬ (s[k].toNat : Int) ≤ 57 := by omega
      have hw : wordB s[k].toNat = false := by unfold wordB; rw [decide_eq_false (by omega), decide_eq_false (by omega)]; rfl
      by_cases hk0 : k = 0
      · have b0 : ((k : Int) == 0) = true := by rw [beq_iff_eq]; omega
        have hn := HN.out (by unfold refOk; rw [hw, decide_eq_false (by omega)]; rfl)
        subst hn
        clear HY HN h h8 hw hk0
        go_wp2
        go_ret
        exact ⟨rfl, rfl⟩
      have b0 : ((k : Int) == 0) = false := by rw [beq_eq_false_iff_ne]; omega
      by_cases hkl : k + 1 = s.size
      · have b1 : ((k : Int) == (s.size : Int) - 1) = true := by rw [beq_iff_eq]; omega
        have hn := HN.out (by unfold refOk; rw [hw, decide_eq_false (by omega)]; rfl)
        subst hn
        clear HY HN h h8 hw hk0 hkl
        go_wp2
        go_ret
        exact ⟨rfl, rfl⟩
      have b1 : ((k : Int) == (s.size : Int) - 1) = false := by rw [beq_eq_false_iff_ne]; omega
      have d5 : ((s[k].toNat : Int) != 45) = true := by rw [bne_iff_ne]; omega
      have d6 : ((s[k].toNat : Int) != 46) = true := by rw [bne_iff_ne]; omega
      have hn := HN.out (by unfold refOk; rw [hw, decide_eq_false (show ¬ s[k].toNat = 45 by omega), decide_eq_false (show ¬ s[k].toNat = 46 by omega)]; simp)
      subst hn
      clear HY HN h h8 hw hk0 hkl
      go_wp2
      go_ret
      exact ⟨rfl, rfl⟩
    · have a1 : (97 : Int) ≤ (s[k].toNat : Int) := by omega
      have a2 : (s[k].toNat : Int) ≤ 122 := by omega
      have hy := HY.out (by unfold refOk wordB; rw [decide_eq_true (show 97 ≤ s[k].toNat ∧ s[k].toNat ≤ 122 from h)]; simp)
      have HZ := Lib.hid hy
      clear hy HY HN h h8
      go_wp2
      go_round
      case rel => exact ⟨k + 1, by omega, by go_num, HZ⟩
      case measure => simp [intOf]; omega
    · have a1 : (97 : Int) ≤ (s[k].toNat : Int) := by omega
      have a2 : ¬ (s[k].toNat : Int) ≤ 122 := by omega
      have a3 : (48 : Int) ≤ (s[k].toNat : Int) := by omega
      have a4 : ¬ (s[k].toNat : Int) ≤ 57 := by omega
      have hw : wordB s[k].toNat = false := by unfold wordB; rw [decide_eq_false (by omega), decide_eq_false (by omega)]; rfl
      by_cases hk0 : k = 0
      · have b0 : ((k : Int) == 0) = true := by rw [beq_iff_eq]; omega
        have hn := HN.out (by unfold refOk; rw [hw, decide_eq_false (by omega)]; rfl)
        subst hn
        clear HY HN h h8 hw hk0
        go_wp2
        go_ret
        exact ⟨rfl, rfl⟩
      have b0 : ((k : Int) == 0) = false := by rw [beq_eq_false_iff_ne]; omega
      by_cases hkl : k + 1 = s.size
      · have b1 : ((k : Int) == (s.size : Int) - 1) = true := by rw [beq_iff_eq]; omega
        have hn := HN.out (by unfold refOk; rw [hw, decide_eq_false (by omega)]; rfl)
        subst hn
        clear HY HN h h8 hw hk0 hkl
        go_wp2
        go_ret
        exact ⟨rfl, rfl⟩
      have b1 : ((k : Int) == (s.size : Int) - 1) = false := by rw [beq_eq_false_iff_ne]; omega
      have d5 : ((s[k].toNat : Int) != 45) = true := by rw [bne_iff_ne]; omega
      have d6 : ((s[k].toNat : Int) != 46) = true := by rw [bne_iff_ne]; omega
      have hn := HN.out (by unfold refOk; rw [hw, decide_eq_false (show ¬ s[k].toNat = 45 by omega), decide_eq_false (show ¬ s[k].toNat = 46 by omega)]; simp)
      subst hn
      clear HY HN h h8 hw hk0 hkl
      go_wp2
      go_ret
      exact ⟨rfl, rfl⟩

end Go.Proofs.YtaeiahkomdpcoaaGreatDoor.Name
end

section
/- hoardref24's cut, Names and Versions over nil. -/
namespace Go.Proofs.YtaeiahkomdpcoaaGreatDoor.Page
open Go Go.RowKit Go.Deep Go.Proofs.YtaeiahkomdpcoaaGreatDoor.Seq

/-- What is answered where a page is asked of nothing. -/
def erN (b pre aft : ByteArray) (m : Int) : Int := if (Name.bucketL b.data.toList && !decide (200 < (pre.size : Int)) && !decide (200 < (aft.size : Int)) && !decide (m < 1) && !decide (256 < m)) = true then 0 else 2
def erV (b pre : ByteArray) (m : Int) : Int := if (Name.bucketL b.data.toList && Name.objectL pre.data.toList && !decide (m < 1) && !decide (256 < m)) = true then 0 else 2

set_option maxRecDepth 100000 in
theorem refCut_nil (m : Int) (w : World) (hm : decide (m < 1) = false) : Calls Tryz.prog 21 #[.slice none 0 0, .int .i64 m] w fun e w' => e = .returned (.agg #[.slice none 0 0, .bool false]) ∧ Below w.heap.size w w' := by
  have b1 := below_one w (.cells #[.slice none 0 0, .bool false] 25)
  have P1 := pgRow_new w none 0 0 false
  have h0 : ¬ m < 0 := by have := of_decide_eq_false hm; omega
  clear hm
  have P2 := P1
  have B2 := b1
  go_enter Tryz.func21, Tryz.ntmps21
  go_wp2
  refine bodyPost_ret (results_cell_row rfl _ _ w.heap.size 25 _ (0, 0) _ rfl P2 Tryz.underlying25 rfl (by kernel_rfl)) rfl ?_
  exact ⟨rfl, B2⟩

set_option maxHeartbeats 1600000 in
set_option maxRecDepth 100000 in
theorem refNames_nil (b pre aft : ByteArray) (m : Int) (w : World) (hb : b.size ≤ 9223372036854775807) : Calls Tryz.prog 6 #[.slice none 0 0, .string b, .string pre, .string aft, .int .i64 m] w fun e w' =>
    e = .returned (.tuple #[.agg #[.slice none 0 0, .bool false], .int .i64 (erN b pre aft m)]) ∧ Below w.heap.size w w' := by
  have HB := Lib.hid (fun W => Name.refBucket_calls b W hb)
  unfold erN
  obtain ⟨u0, q0⟩ : ∃ u, u = Name.bucketL b.data.toList := ⟨_, rfl⟩
  obtain ⟨u1, e1⟩ : ∃ u, decide (200 < (pre.size : Int)) = u := ⟨_, rfl⟩
  obtain ⟨u2, e2⟩ : ∃ u, decide (200 < (aft.size : Int)) = u := ⟨_, rfl⟩
  obtain ⟨u3, e3⟩ : ∃ u, decide (m < 1) = u := ⟨_, rfl⟩
  obtain ⟨u4, e4⟩ : ∃ u, decide (256 < m) = u := ⟨_, rfl⟩
  rw [e1, e2, e3, e4]
  rw [← q0] at HB
  rw [← q0]
  clear q0 hb
  have b1 := below_one w (.cells #[.slice none 0 0, .bool false] 25)
  have P1 := pgRow_new w none 0 0 false
  go_enter Tryz.func6, Tryz.ntmps6
  go_wp2_with fail
  refine (HB.out _).mono ?_
  rintro e w2 ⟨rfl, rfl⟩
  have P2 := P1
  have B2 := b1
  obtain ⟨p0, p1⟩ := P2.c
  have f0 := P2.f 0
  have f1 := P2.f 1
  have P5 := P2
  have B5 := B2
  clear P1 b1 HB
  cases u0
  case false =>
    go_wp2_with fail
    refine bodyPost_ret (Cell.results_cell2 (p := 10) (u := 11) rfl _ _ w.heap.size 25 _ (0, 0) _ rfl P5 Tryz.underlying25 rfl (by kernel_rfl)) rfl ?_
    exact ⟨rfl, B5⟩
  case true =>
    cases u1
    case true =>
      go_wp2_with fail
      refine bodyPost_ret (Cell.results_cell2 (p := 10) (u := 11) rfl _ _ w.heap.size 25 _ (0, 0) _ rfl P5 Tryz.underlying25 rfl (by kernel_rfl)) rfl ?_
      exact ⟨rfl, B5⟩
    case false =>
      cases u2
      case true =>
        go_wp2_with fail
        refine bodyPost_ret (Cell.results_cell2 (p := 10) (u := 11) rfl _ _ w.heap.size 25 _ (0, 0) _ rfl P5 Tryz.underlying25 rfl (by kernel_rfl)) rfl ?_
        exact ⟨rfl, B5⟩
      case false =>
        cases u3
        case true =>
          go_wp2_with fail
          refine bodyPost_ret (Cell.results_cell2 (p := 10) (u := 11) rfl _ _ w.heap.size 25 _ (0, 0) _ rfl P5 Tryz.underlying25 rfl (by kernel_rfl)) rfl ?_
          exact ⟨rfl, B5⟩
        case false =>
          cases u4
          case true =>
            go_wp2_with fail
            refine bodyPost_ret (Cell.results_cell2 (p := 10) (u := 11) rfl _ _ w.heap.size 25 _ (0, 0) _ rfl P5 Tryz.underlying25 rfl (by kernel_rfl)) rfl ?_
            exact ⟨rfl, B5⟩
          case false =>
            have HC := Lib.hid (fun W => refCut_nil m W e3)
            go_wp2_with fail
            go_loop [12, 14] (fun ov iv => ov = .slice none 0 0 ∧ iv = .int .i64 0) (fun _ _ => 0)
            case atStart => exact ⟨rfl, rfl⟩
            case round =>
              obtain ⟨rfl, rfl⟩ := hrel
              go_wp2_with fail
              refine (HC.out _).mono ?_
              rintro e w3 ⟨rfl, b3⟩
              have P3 := P2.below b3
              obtain ⟨r0, r1⟩ := P3.c
              have g0 := P3.f 0
              have g1 := P3.f 1
              have P4 := (P3.set0 none 0 0).set1 false
              have B4 := ((below_of B2 b3).setCell (p := ⟨w.heap.size, 0, none⟩) (Nat.le_refl _) (.slice none 0 0)).setCell (p := ⟨w.heap.size, 1, none⟩) (Nat.le_refl _) (.bool false)
              clear P2 P3 B2 b3 p0 p1 f0 f1 P5 B5
              go_wp2_with fail
              refine bodyPost_ret (Cell.results_cell2 (p := 10) (u := 11) rfl _ _ w.heap.size 25 _ (0, 0) _ rfl P4 Tryz.underlying25 rfl (by kernel_rfl)) rfl ?_
              exact ⟨rfl, B4⟩

set_option maxHeartbeats 1600000 in
set_option maxRecDepth 100000 in
theorem refVersions_nil (b pre : ByteArray) (n : Nat) (m : Int) (w : World) (hb : b.size ≤ 9223372036854775807) (hp : pre.size ≤ 9223372036854775807) : Calls Tryz.prog 8 #[.slice none 0 0, .string b, .string pre, .int .u64 (n : Int), .int .i64 m] w fun e w' =>
    e = .returned (.tuple #[.agg #[.slice none 0 0, .bool false], .int .i64 (erV b pre m)]) ∧ Below w.heap.size w w' := by
  have HB := Lib.hid (fun W => Name.refBucket_calls b W hb)
  have HO := Lib.hid (fun W => Name.refObject_calls pre W hp)
  unfold erV
  obtain ⟨u0, q0⟩ : ∃ u, u = Name.bucketL b.data.toList := ⟨_, rfl⟩
  obtain ⟨u1, q1⟩ : ∃ u, u = Name.objectL pre.data.toList := ⟨_, rfl⟩
  rw [← q1] at HO
  rw [← q1]
  clear q1
  obtain ⟨u3, e3⟩ : ∃ u, decide (m < 1) = u := ⟨_, rfl⟩
  obtain ⟨u4, e4⟩ : ∃ u, decide (256 < m) = u := ⟨_, rfl⟩
  rw [e3, e4]
  rw [← q0] at HB
  rw [← q0]
  clear q0 hb
  have b1 := below_one w (.cells #[.slice none 0 0, .bool false] 25)
  have P1 := pgRow_new w none 0 0 false
  go_enter Tryz.func8, Tryz.ntmps8
  go_wp2_with fail
  refine (HB.out _).mono ?_
  rintro e w2 ⟨rfl, rfl⟩
  have P2 := P1
  have B2 := b1
  obtain ⟨p0, p1⟩ := P2.c
  have f0 := P2.f 0
  have f1 := P2.f 1
  have P5 := P2
  have B5 := B2
  clear P1 b1 HB
  cases u0
  case false =>
    go_wp2_with fail
    refine bodyPost_ret (Cell.results_cell2 (p := 10) (u := 11) rfl _ _ w.heap.size 25 _ (0, 0) _ rfl P5 Tryz.underlying25 rfl (by kernel_rfl)) rfl ?_
    exact ⟨rfl, B5⟩
  case true =>
    cases u1
    case false =>
      go_wp2_with fail
      refine (HO.out _).mono ?_
      rintro e w3 ⟨rfl, rfl⟩
      go_wp2_with fail
      refine bodyPost_ret (Cell.results_cell2 (p := 10) (u := 11) rfl _ _ w.heap.size 25 _ (0, 0) _ rfl P5 Tryz.underlying25 rfl (by kernel_rfl)) rfl ?_
      exact ⟨rfl, B5⟩
    case true =>
      cases u3
      case true =>
        go_wp2_with fail
        refine (HO.out _).mono ?_
        rintro e w3 ⟨rfl, rfl⟩
        go_wp2_with fail
        refine bodyPost_ret (Cell.results_cell2 (p := 10) (u := 11) rfl _ _ w.heap.size 25 _ (0, 0) _ rfl P5 Tryz.underlying25 rfl (by kernel_rfl)) rfl ?_
        exact ⟨rfl, B5⟩
      case false =>
        cases u4
        case true =>
          go_wp2_with fail
          refine (HO.out _).mono ?_
          rintro e w3 ⟨rfl, rfl⟩
          go_wp2_with fail
          refine bodyPost_ret (Cell.results_cell2 (p := 10) (u := 11) rfl _ _ w.heap.size 25 _ (0, 0) _ rfl P5 Tryz.underlying25 rfl (by kernel_rfl)) rfl ?_
          exact ⟨rfl, B5⟩
        case false =>
          have HC := Lib.hid (fun W => refCut_nil m W e3)
          go_wp2_with fail
          refine (HO.out _).mono ?_
          rintro e w3 ⟨rfl, rfl⟩
          go_wp2_with fail
          go_loop [12, 13] (fun ov iv => ov = .slice none 0 0 ∧ iv = .int .i64 0) (fun _ _ => 0)
          case atStart => exact ⟨rfl, rfl⟩
          case round =>
            obtain ⟨rfl, rfl⟩ := hrel
            go_wp2_with fail
            refine (HC.out _).mono ?_
            rintro e w3 ⟨rfl, b3⟩
            have P3 := P2.below b3
            obtain ⟨r0, r1⟩ := P3.c
            have g0 := P3.f 0
            have g1 := P3.f 1
            have P4 := (P3.set0 none 0 0).set1 false
            have B4 := ((below_of B2 b3).setCell (p := ⟨w.heap.size, 0, none⟩) (Nat.le_refl _) (.slice none 0 0)).setCell (p := ⟨w.heap.size, 1, none⟩) (Nat.le_refl _) (.bool false)
            clear P2 P3 B2 b3 p0 p1 f0 f1 P5 B5
            go_wp2_with fail
            refine bodyPost_ret (Cell.results_cell2 (p := 10) (u := 11) rfl _ _ w.heap.size 25 _ (0, 0) _ rfl P4 Tryz.underlying25 rfl (by kernel_rfl)) rfl ?_
            exact ⟨rfl, B4⟩

end Go.Proofs.YtaeiahkomdpcoaaGreatDoor.Page
end

section
/- page.Names and page.Versions over nil, and where they refuse what is asked. -/
namespace Go.Proofs.YtaeiahkomdpcoaaGreatDoor.Page
open Go Go.RowKit Go.Conc Go.Proofs.YtaeiahkomdpcoaaGreatDoor.Seq Go.Proofs.YtaeiahkomdpcoaaGreatDoor.Chan

attribute [local go_sem] Oper.semAt_some

theorem nil_eql (w : World) : (binOp .eql 40 .nilFunc .nilFunc).run Tryz.prog w = .ok (.bool true) w := by
  unfold binOp Op.equal Op.maxDepth Op.equalIn
  simp only [Sem.run_bind, run_underlying Tryz.underlying40, Result.andThen_ok]
  rfl

set_option maxRecDepth 100000 in
theorem items_nil_seq (n : Nat) (n₀ Bs Bb : Nat) (R0 : Nat → Prop) (Rd : World → Prop) (hRd : ∀ W, Rd W → W.cell? ⟨Bs, 0, none⟩ = some .nilFunc) :
    SeqO Fence.wide n Tryz.prog 29 #[.pointer (some ⟨Bs, 0, none⟩), .pointer (some ⟨Bb, 0, none⟩)] (fun v : Ver => #[v.item]) n₀ R0 [] Rd := fun l J Jx O W hW hR hown hJ hJx hY h0 => by
  have hb0 := below_one W (.cells #[.func (.yield l) #[] #[]] 69)
  have hc0 := hRd W hR
  have hc1 := (hb0.cell (p := ⟨Bs, 0, none⟩) (cell_lt hc0)).trans hc0
  have hJ1 := hJ _ _ _ _ h0 (off_of_below (O := O) hb0)
  have hse := nil_eql
  clear hc0 hb0
  refine callsIn_of_wp_marks Tryz.func29 rfl trivial ?_ rfl
  simp only [Tryz.ntmps29, List.size_toArray, List.length_cons, List.length_nil, Nat.reduceAdd, Nat.reduceSub, Array.replicate_succ, Array.replicate_zero, List.push_toArray, List.append_toArray, List.nil_append, List.cons_append]
  gi_wp2
  refine wpIn_scope_straight ?_
  gi_wp2
  simp only [Exit.noGoto]
  exact ⟨_, results_none rfl _ _ _, ⟨_, rfl⟩, _, .inl hJ1⟩

/-- What a refusal answers. -/
def Refused (e : Ending) : Prop := e = .returned (.tuple #[.agg #[.slice none 0 0, .bool false], .int .i64 2])

set_option maxRecDepth 100000 in
theorem names_bad (sv : Value) (b pre aft : ByteArray) (most : Int) (w : World) (hbs : b.size ≤ 9223372036854775807)
    (h : ¬ (Name.bucketL b.data.toList = true ∧ pre.size ≤ 200 ∧ aft.size ≤ 200 ∧ 1 ≤ most ∧ most ≤ 256)) :
    Calls Tryz.prog 5 #[sv, .string b, .string pre, .string aft, .int .i64 most] w fun e w' => Refused e ∧ Below w.heap.size w w' := by
  have HB := Lib.hid (fun W => callsIn_wide (n := 19).2 (Name.bucket_calls b W (by omega)))
  refine callsIn_wide (n := 20).1 (callsIn_of_wp_marks Tryz.func5 rfl trivial ?_ rfl)
  simp only [Tryz.ntmps5, List.size_toArray, List.length_cons, List.length_nil, Nat.reduceAdd, Nat.reduceSub, Array.replicate_succ, Array.replicate_zero, List.push_toArray, List.append_toArray, List.nil_append, List.cons_append]
  gi_wp2
  refine wpIn_scope_straight ?_
  gi_wp2
  obtain ⟨W4, hW4⟩ : ∃ W4, W4 = (((w.alloc (.cells #[.string pre] 9)).alloc (.cells #[.string aft] 9)).alloc (.cells #[.slice none 0 0, .bool false] 25)).alloc (.cells #[.bool false] 4) := ⟨_, rfl⟩
  have hs4 : W4.heap.size = w.heap.size + 4 := by rw [hW4]; simp
  have B4 : Below w.heap.size w W4 := by rw [hW4]; exact below_alloc (below_alloc (below_alloc (below_one w _) _) _) _
  have x0 : Boxed W4 w.heap.size 9 (.string pre) := by
    rw [hW4]; exact (((Boxed.new w _ _).kept (below_grown0 (below_one _ _)) (by simp)).kept (below_grown0 (below_one _ _)) (by simp)).kept (below_grown0 (below_one _ _)) (by simp)
  have x1 : Boxed W4 (w.heap.size + 1) 9 (.string aft) := by
    have := ((Boxed.new (w.alloc (.cells #[.string pre] 9)) 9 (.string aft)).kept (below_grown0 (below_one _ (.cells #[.slice none 0 0, .bool false] 25))) (by simp)).kept (below_grown0 (below_one _ (.cells #[.bool false] 4))) (by simp)
    rw [World.size_alloc, ← hW4] at this; exact this
  have x2 : PgRow W4 (w.heap.size + 1 + 1) none 0 0 false := by
    have := (pgRow_new ((w.alloc (.cells #[.string pre] 9)).alloc (.cells #[.string aft] 9)) none 0 0 false).below (below_one _ (.cells #[.bool false] 4))
    rw [World.size_alloc, World.size_alloc, ← hW4] at this; exact this
  rw [← hW4]
  clear hW4
  refine ⟨trivial, (HB.out W4).mono ?_⟩
  rintro e W5 ⟨rfl, hb5⟩
  have g5 := below_grown0 hb5
  have c0 := (x0.kept g5 (by simp)).cell
  have c1 := (x1.kept g5 (by simp)).cell
  have y2 := x2.grown g5 (by simp)
  have B5 := B4.trans (hb5.mono (by omega))
  obtain ⟨p0, p1⟩ := y2.c
  have f0 := y2.f 0
  have f1 := y2.f 1
  have y3 := (y2.set0 none 0 0).set1 false
  have B6 := (B5.setCell (p := ⟨w.heap.size + 1 + 1, 0, none⟩) (by show w.heap.size ≤ w.heap.size + 1 + 1; omega) (.slice none 0 0)).setCell (p := ⟨w.heap.size + 1 + 1, 1, none⟩) (by show w.heap.size ≤ w.heap.size + 1 + 1; omega) (.bool false)
  have HR := Lib.hid h
  clear h x0 x1 x2 B4 hs4 hb5 g5 HB B5
  obtain ⟨u0, q0⟩ : ∃ u, u = Name.bucketL b.data.toList := ⟨_, rfl⟩
  rw [← q0]
  cases u0
  case false =>
    clear q0 HR
    gi_wp2
    simp only [Exit.noGoto]
    exact ⟨_, Cell.results_cell2 (p := 10) (u := 11) rfl _ _ (w.heap.size + 1 + 1) 25 _ (0, 0) _ rfl y3 Tryz.underlying25 rfl (by kernel_rfl), rfl, B6⟩
  case true =>
    by_cases h1 : pre.size ≤ 200
    case neg =>
      have e1 : decide (200 < (pre.size : Int)) = true := decide_eq_true (by omega)
      clear q0 HR h1
      gi_wp2
      simp only [Exit.noGoto]
      exact ⟨_, Cell.results_cell2 (p := 10) (u := 11) rfl _ _ (w.heap.size + 1 + 1) 25 _ (0, 0) _ rfl y3 Tryz.underlying25 rfl (by kernel_rfl), rfl, B6⟩
    case pos =>
      have e1 : decide (200 < (pre.size : Int)) = false := decide_eq_false (by omega)
      by_cases h2 : aft.size ≤ 200
      case neg =>
        have e2 : decide (200 < (aft.size : Int)) = true := decide_eq_true (by omega)
        clear q0 HR h1 h2
        gi_wp2
        simp only [Exit.noGoto]
        exact ⟨_, Cell.results_cell2 (p := 10) (u := 11) rfl _ _ (w.heap.size + 1 + 1) 25 _ (0, 0) _ rfl y3 Tryz.underlying25 rfl (by kernel_rfl), rfl, B6⟩
      case pos =>
        have e2 : decide (200 < (aft.size : Int)) = false := decide_eq_false (by omega)
        by_cases h3 : 1 ≤ most
        case neg =>
          have e3 : decide (most < 1) = true := decide_eq_true (by omega)
          clear q0 HR h1 h2 h3
          gi_wp2
          simp only [Exit.noGoto]
          exact ⟨_, Cell.results_cell2 (p := 10) (u := 11) rfl _ _ (w.heap.size + 1 + 1) 25 _ (0, 0) _ rfl y3 Tryz.underlying25 rfl (by kernel_rfl), rfl, B6⟩
        case pos =>
          have e3 : decide (most < 1) = false := decide_eq_false (by omega)
          have e4 : decide (256 < most) = true := decide_eq_true (by
            have h := HR.out
            rcases Decidable.em (256 < most) with h4 | h4
            · exact h4
            · exact absurd ⟨q0.symm, h1, h2, h3, by omega⟩ h)
          clear q0 HR h1 h2 h3
          gi_wp2
          simp only [Exit.noGoto]
          exact ⟨_, Cell.results_cell2 (p := 10) (u := 11) rfl _ _ (w.heap.size + 1 + 1) 25 _ (0, 0) _ rfl y3 Tryz.underlying25 rfl (by kernel_rfl), rfl, B6⟩

set_option maxRecDepth 100000 in
theorem versions_bad (sv : Value) (b pre : ByteArray) (aft : Nat) (most : Int) (w : World) (hbs : b.size ≤ 9223372036854775807) (hps : pre.size ≤ 9223372036854775807)
    (h : ¬ (Name.bucketL b.data.toList = true ∧ Name.objectL pre.data.toList = true ∧ 1 ≤ most ∧ most ≤ 256)) :
    Calls Tryz.prog 7 #[sv, .string b, .string pre, .int .u64 (aft : Int), .int .i64 most] w fun e w' => Refused e ∧ Below w.heap.size w w' := by
  have HB := Lib.hid (fun W => callsIn_wide (n := 19).2 (Name.bucket_calls b W (by omega)))
  have HO1 := Lib.hid (fun W => callsIn_wide (n := 19).2 (Name.object_calls pre W (by omega)))
  refine callsIn_wide (n := 20).1 (callsIn_of_wp_marks Tryz.func7 rfl trivial ?_ rfl)
  simp only [Tryz.ntmps7, List.size_toArray, List.length_cons, List.length_nil, Nat.reduceAdd, Nat.reduceSub, Array.replicate_succ, Array.replicate_zero, List.push_toArray, List.append_toArray, List.nil_append, List.cons_append]
  gi_wp2
  refine wpIn_scope_straight ?_
  gi_wp2
  obtain ⟨W4, hW4⟩ : ∃ W4, W4 = (((w.alloc (.cells #[.string pre] 9)).alloc (.cells #[.int .u64 (aft : Int)] 31)).alloc (.cells #[.slice none 0 0, .bool false] 25)).alloc (.cells #[.bool false] 4) := ⟨_, rfl⟩
  have hs4 : W4.heap.size = w.heap.size + 4 := by rw [hW4]; simp
  have B4 : Below w.heap.size w W4 := by rw [hW4]; exact below_alloc (below_alloc (below_alloc (below_one w _) _) _) _
  have x0 : Boxed W4 w.heap.size 9 (.string pre) := by
    rw [hW4]; exact (((Boxed.new w _ _).kept (below_grown0 (below_one _ _)) (by simp)).kept (below_grown0 (below_one _ _)) (by simp)).kept (below_grown0 (below_one _ _)) (by simp)
  have x1 : Boxed W4 (w.heap.size + 1) 31 (.int .u64 (aft : Int)) := by
    have := ((Boxed.new (w.alloc (.cells #[.string pre] 9)) 31 (.int .u64 (aft : Int))).kept (below_grown0 (below_one _ (.cells #[.slice none 0 0, .bool false] 25))) (by simp)).kept (below_grown0 (below_one _ (.cells #[.bool false] 4))) (by simp)
    rw [World.size_alloc, ← hW4] at this; exact this
  have x2 : PgRow W4 (w.heap.size + 1 + 1) none 0 0 false := by
    have := (pgRow_new ((w.alloc (.cells #[.string pre] 9)).alloc (.cells #[.int .u64 (aft : Int)] 31)) none 0 0 false).below (below_one _ (.cells #[.bool false] 4))
    rw [World.size_alloc, World.size_alloc, ← hW4] at this; exact this
  rw [← hW4]
  clear hW4
  refine ⟨trivial, (HB.out W4).mono ?_⟩
  rintro e W5 ⟨rfl, hb5⟩
  have g5 := below_grown0 hb5
  have c0 := (x0.kept g5 (by simp)).cell
  have c1 := (x1.kept g5 (by simp)).cell
  have y2 := x2.grown g5 (by simp)
  have B5 := B4.trans (hb5.mono (by omega))
  obtain ⟨p0, p1⟩ := y2.c
  have f0 := y2.f 0
  have f1 := y2.f 1
  have y3 := (y2.set0 none 0 0).set1 false
  have B6 := (B5.setCell (p := ⟨w.heap.size + 1 + 1, 0, none⟩) (by show w.heap.size ≤ w.heap.size + 1 + 1; omega) (.slice none 0 0)).setCell (p := ⟨w.heap.size + 1 + 1, 1, none⟩) (by show w.heap.size ≤ w.heap.size + 1 + 1; omega) (.bool false)
  have HR := Lib.hid h
  clear h x0 x1 x2 B4 hs4 hb5 g5 HB B5
  obtain ⟨u0, q0⟩ : ∃ u, u = Name.bucketL b.data.toList := ⟨_, rfl⟩
  rw [← q0]
  cases u0
  case false =>
    clear q0 HR HO1
    gi_wp2
    refine ⟨trivial, ?_⟩
    gi_wp2
    simp only [Exit.noGoto]
    exact ⟨_, Cell.results_cell2 (p := 10) (u := 11) rfl _ _ (w.heap.size + 1 + 1) 25 _ (0, 0) _ rfl y3 Tryz.underlying25 rfl (by kernel_rfl), rfl, B6⟩
  case true =>
    obtain ⟨u1, q1⟩ : ∃ u, u = Name.objectL pre.data.toList := ⟨_, rfl⟩
    rw [← q1] at HO1
    cases u1
    case false =>
      clear q0 q1 HR
      gi_wp2
      refine ⟨trivial, (HO1.out W5).mono ?_⟩
      rintro e W5' ⟨rfl, hW5⟩
      rw [hW5]
      clear hW5
      gi_wp2
      simp only [Exit.noGoto]
      exact ⟨_, Cell.results_cell2 (p := 10) (u := 11) rfl _ _ (w.heap.size + 1 + 1) 25 _ (0, 0) _ rfl y3 Tryz.underlying25 rfl (by kernel_rfl), rfl, B6⟩
    case true =>
      by_cases h3 : 1 ≤ most
      case neg =>
        have e3 : decide (most < 1) = true := decide_eq_true (by omega)
        clear q0 q1 HR h3
        gi_wp2
        refine ⟨trivial, (HO1.out W5).mono ?_⟩
        rintro e W5' ⟨rfl, hW5⟩
        rw [hW5]
        clear hW5
        gi_wp2
        simp only [Exit.noGoto]
        exact ⟨_, Cell.results_cell2 (p := 10) (u := 11) rfl _ _ (w.heap.size + 1 + 1) 25 _ (0, 0) _ rfl y3 Tryz.underlying25 rfl (by kernel_rfl), rfl, B6⟩
      case pos =>
        have e3 : decide (most < 1) = false := decide_eq_false (by omega)
        have e4 : decide (256 < most) = true := decide_eq_true (by
          have h := HR.out
          rcases Decidable.em (256 < most) with h4 | h4
          · exact h4
          · exact absurd ⟨q0.symm, q1.symm, h3, by omega⟩ h)
        clear q0 q1 HR h3
        gi_wp2
        refine ⟨trivial, (HO1.out W5).mono ?_⟩
        rintro e W5' ⟨rfl, hW5⟩
        rw [hW5]
        clear hW5
        gi_wp2
        simp only [Exit.noGoto]
        exact ⟨_, Cell.results_cell2 (p := 10) (u := 11) rfl _ _ (w.heap.size + 1 + 1) 25 _ (0, 0) _ rfl y3 Tryz.underlying25 rfl (by kernel_rfl), rfl, B6⟩

/-- Over nil a page is empty. -/
theorem names_nil (b pre aft : ByteArray) (most : Nat) (w : World) (hb : Name.bucketL b.data.toList = true) (hbs : b.size ≤ 1000) (h1 : pre.size ≤ 200) (h2 : aft.size ≤ 200) (hm1 : 1 ≤ most) (hm2 : most ≤ 256) :
    Calls Tryz.prog 5 #[.nilFunc, .string b, .string pre, .string aft, .int .i64 (most : Int)] w fun e w' => PageR w ([], false) e w' := by
  have h := names_gen .nilFunc (.inl rfl) [] b pre aft most w (fun Bs Bb => items_nil_seq 19 w.heap.size Bs Bb _ _ (fun W h => h.1)) hb hbs h1 h2 hm1 hm2
  rwa [show cutP most (sel pre aft none' []) = ([], false) from cut_all (Nat.zero_le _)] at h
theorem versions_nil (b pre : ByteArray) (aft : Nat) (most : Nat) (w : World) (hb : Name.bucketL b.data.toList = true) (hbs : b.size ≤ 1000) (ho : Name.objectL pre.data.toList = true) (h1 : pre.size ≤ 200) (hm1 : 1 ≤ most) (hm2 : most ≤ 256) :
    Calls Tryz.prog 7 #[.nilFunc, .string b, .string pre, .int .u64 (aft : Int), .int .i64 (most : Int)] w fun e w' => PageR w ([], false) e w' := by
  have h := versions_gen .nilFunc (.inl rfl) [] b pre aft most w (fun Bs Bb => items_nil_seq 19 w.heap.size Bs Bb _ _ (fun W h => h.1)) hb hbs ho h1 hm1 hm2
  rwa [show cutP most (selV pre aft []) = ([], false) from cut_all (Nat.zero_le _)] at h

end Go.Proofs.YtaeiahkomdpcoaaGreatDoor.Page
end

section
/- The walk of hoardlaw24.PageNone. -/
namespace Go.Proofs.YtaeiahkomdpcoaaGreatDoor.Page
open Go Go.RowKit Go.Deep Go.Proofs.YtaeiahkomdpcoaaGreatDoor.Seq

theorem bucket_short {b : ByteArray} (h : Name.bucketL b.data.toList = true) : b.size ≤ 1000 := by
  unfold Name.bucketL at h
  simp only [Bool.and_eq_true, decide_eq_true_eq] at h
  have := h.1.1.1.2
  have e : b.size = b.data.toList.length := rfl
  omega

theorem names_none (b pre aft : ByteArray) (m : Int) (w : World) (hbs : b.size ≤ 9223372036854775807) : Calls Tryz.prog 5 #[.nilFunc, .string b, .string pre, .string aft, .int .i64 m] w fun e w' =>
    ∃ A cp, e = .returned (.tuple #[.agg #[.slice A 0 cp, .bool false], .int .i64 (erN b pre aft m)]) ∧ Below w.heap.size w w' := by
  by_cases h : Name.bucketL b.data.toList = true ∧ pre.size ≤ 200 ∧ aft.size ≤ 200 ∧ 1 ≤ m ∧ m ≤ 256
  · have hE : erN b pre aft m = 0 := by
      obtain ⟨h0, h1, h2, h3, h4⟩ := h
      unfold erN
      rw [if_pos]
      rw [h0, decide_eq_false (show ¬ (200 : Int) < (pre.size : Int) by omega), decide_eq_false (show ¬ (200 : Int) < (aft.size : Int) by omega), decide_eq_false (show ¬ m < 1 by omega), decide_eq_false (show ¬ (256 : Int) < m by omega)]
      rfl
    obtain ⟨h0, h1, h2, h3, h4⟩ := h
    rw [hE]
    obtain ⟨k, rfl⟩ := Int.eq_ofNat_of_zero_le (show 0 ≤ m by omega)
    refine (names_nil b pre aft k w h0 (bucket_short h0) h1 h2 (by omega) (by omega)).mono ?_
    rintro e w' ⟨A, cp, rfl, _, _, hB⟩
    exact ⟨A, cp, rfl, hB⟩
  · have hE : erN b pre aft m = 2 := by
      unfold erN
      rw [if_neg]
      simp only [Bool.and_eq_true, Bool.not_eq_true', decide_eq_false_iff_not]
      rintro ⟨⟨⟨⟨h0, h1⟩, h2⟩, h3⟩, h4⟩
      exact h ⟨h0, by omega, by omega, by omega, by omega⟩
    rw [hE]
    refine (names_bad .nilFunc b pre aft m w hbs h).mono ?_
    rintro e w' ⟨he, hB⟩
    exact ⟨none, 0, he, hB⟩

theorem versions_none (b pre : ByteArray) (m : Int) (w : World) (hbs : b.size ≤ 9223372036854775807) (hps : pre.size ≤ 9223372036854775807) : Calls Tryz.prog 7 #[.nilFunc, .string b, .string pre, .int .u64 0, .int .i64 m] w fun e w' =>
    ∃ A cp, e = .returned (.tuple #[.agg #[.slice A 0 cp, .bool false], .int .i64 (erV b pre m)]) ∧ Below w.heap.size w w' := by
  by_cases h : Name.bucketL b.data.toList = true ∧ Name.objectL pre.data.toList = true ∧ 1 ≤ m ∧ m ≤ 256
  · have hE : erV b pre m = 0 := by
      obtain ⟨h0, h1, h3, h4⟩ := h
      unfold erV
      rw [if_pos]
      rw [h0, h1, decide_eq_false (show ¬ m < 1 by omega), decide_eq_false (show ¬ (256 : Int) < m by omega)]
      rfl
    obtain ⟨h0, h1, h3, h4⟩ := h
    rw [hE]
    obtain ⟨k, rfl⟩ := Int.eq_ofNat_of_zero_le (show 0 ≤ m by omega)
    have hp : pre.size ≤ 200 := by
      unfold Name.objectL at h1
      simp only [decide_eq_true_eq] at h1
      have e : pre.size = pre.data.toList.length := rfl
      omega
    refine (versions_nil b pre 0 k w h0 (bucket_short h0) h1 hp (by omega) (by omega)).mono ?_
    rintro e w' ⟨A, cp, rfl, _, _, hB⟩
    exact ⟨A, cp, rfl, hB⟩
  · have hE : erV b pre m = 2 := by
      unfold erV
      rw [if_neg]
      simp only [Bool.and_eq_true, Bool.not_eq_true', decide_eq_false_iff_not]
      rintro ⟨⟨⟨h0, h1⟩, h3⟩, h4⟩
      exact h ⟨h0, h1, by omega, by omega⟩
    rw [hE]
    refine (versions_bad .nilFunc b pre 0 m w hbs hps h).mono ?_
    rintro e w' ⟨he, hB⟩
    exact ⟨none, 0, he, hB⟩

set_option maxHeartbeats 4000000 in
set_option maxRecDepth 100000 in
theorem none_calls (b pre aft : ByteArray) (m : Int) (w : World) (hv : Name.Var0 w) (hbs : b.size ≤ 9223372036854775807) (hps : pre.size ≤ 9223372036854775807) :
    Calls Tryz.prog 3 #[.string b, .string pre, .string aft, .int .i64 m] w fun e w' => e = .returned (.bool true) ∧ Below w.heap.size w w' := by
  have HW := Lib.hid (fun W (h : Name.Var0 W) => works_calls W h)
  have HN := Lib.hid (fun W => names_none b pre aft m W hbs)
  have HR := Lib.hid (fun W => refNames_nil b pre aft m W hbs)
  have HV := Lib.hid (fun W => versions_none b pre m W hbs hps)
  have HQ := Lib.hid (fun W => refVersions_nil b pre 0 m W hbs hps)
  have HA := Lib.hid (fun W => any_nil pre W)
  obtain ⟨en, qn⟩ : ∃ e, e = erN b pre aft m := ⟨_, rfl⟩
  obtain ⟨ev, qv⟩ : ∃ e, e = erV b pre m := ⟨_, rfl⟩
  rw [← qn] at HN HR
  rw [← qv] at HV HQ
  clear qn qv hbs hps
  go_enter Tryz.func3, Tryz.ntmps3
  go_upto_if 25 with fail
  generalize decide (2048 < wrap64 (wrap64 ((b.size : Int) + (pre.size : Int)) + (aft.size : Int))) = u
  cases u
  case true =>
    go_wp2_with fail
    refine (HW.out _ hv).mono ?_
    rintro e w1 ⟨rfl, b1⟩
    go_wp2_with fail
    go_ret
    exact ⟨rfl, b1⟩
  case false =>
    go_wp2_with fail
    refine (HN.out _).mono ?_
    rintro e w1 ⟨A1, cp1, rfl, b1⟩
    have v1 := hv.below b1
    have a1 := below_one w1 (.cells #[.slice A1 0 cp1, .bool false] 25)
    have P1 := pgRow_new w1 A1 0 cp1 false
    have v2 := v1.below a1
    have c1 := below_of b1 a1
    clear v1 a1 b1 hv
    go_upto_region 4 with fail
    obtain ⟨g1, qg1⟩ : ∃ g, g = w1.heap.size := ⟨_, rfl⟩
    obtain ⟨W1, q1⟩ : ∃ W, W = w1.alloc (.cells #[.slice A1 0 cp1, .bool false] 25) := ⟨_, rfl⟩
    rw [← q1] at P1 v2 c1 ⊢
    rw [← qg1] at P1 ⊢
    clear q1 qg1
    go_wp2_with fail
    refine (HR.out _).mono ?_
    rintro e w2 ⟨rfl, b2⟩
    have P2 := P1.below b2
    have v3 := v2.below b2
    have c2 := below_of c1 b2
    have a2 := below_one w2 (.cells #[.slice none 0 0, .bool false] 25)
    have P3 := P2.below a2
    have v4 := v3.below a2
    have c3 := below_of c2 a2
    clear P1 v2 c1 b2 P2 v3 c2 a2
    go_upto_region 5 with fail
    obtain ⟨g2, qg2⟩ : ∃ g, g = w2.heap.size := ⟨_, rfl⟩
    obtain ⟨W2, q2⟩ : ∃ W, W = w2.alloc (.cells #[.slice none 0 0, .bool false] 25) := ⟨_, rfl⟩
    rw [← q2] at P3 v4 c3 ⊢
    rw [← qg2]
    clear q2 qg2
    go_wp2_with fail
    refine (HV.out _).mono ?_
    rintro e w3 ⟨A3, cp3, rfl, b3⟩
    have P4 := P3.below b3
    have v5 := v4.below b3
    have c4 := below_of c3 b3
    have a3 := below_one w3 (.cells #[.slice A3 0 cp3, .bool false] 25)
    have Q5 := pgRow_new w3 A3 0 cp3 false
    have P5 := P4.below a3
    have v6 := v5.below a3
    have c5 := below_of c4 a3
    clear P3 v4 c3 b3 P4 v5 c4 a3
    go_upto_region 6 with fail
    obtain ⟨g3, qg3⟩ : ∃ g, g = w3.heap.size := ⟨_, rfl⟩
    obtain ⟨W3, q3⟩ : ∃ W, W = w3.alloc (.cells #[.slice A3 0 cp3, .bool false] 25) := ⟨_, rfl⟩
    rw [← q3] at P5 Q5 v6 c5 ⊢
    rw [← qg3] at Q5 ⊢
    clear q3 qg3
    go_wp2_with fail
    refine (HQ.out _).mono ?_
    rintro e w4 ⟨rfl, b4⟩
    have P6 := P5.below b4
    have Q6 := Q5.below b4
    have v7 := v6.below b4
    have c6 := below_of c5 b4
    have a4 := below_one w4 (.cells #[.slice none 0 0, .bool false] 25)
    have P7 := P6.below a4
    have Q7 := Q6.below a4
    have v8 := v7.below a4
    have c7 := below_of c6 a4
    clear P5 Q5 v6 c5 b4 P6 Q6 v7 c6 a4
    go_upto_region 7 with fail
    obtain ⟨g4, qg4⟩ : ∃ g, g = w4.heap.size := ⟨_, rfl⟩
    obtain ⟨W4, q4⟩ : ∃ W, W = w4.alloc (.cells #[.slice none 0 0, .bool false] 25) := ⟨_, rfl⟩
    rw [← q4] at P7 Q7 v8 c7 ⊢
    rw [← qg4]
    clear q4 qg4
    obtain ⟨p0, p1⟩ := P7.c
    obtain ⟨r0, r1⟩ := Q7.c
    have e1 : (en == en) = true := by simp
    have e2 : (ev == ev) = true := by simp
    go_wp2_with fail
    refine (HA.out _).mono ?_
    rintro e w5 ⟨rfl, b5⟩
    have v9 := v8.below b5
    have c8 := below_of c7 b5
    clear P7 Q7 v8 c7 b5 p0 p1 r0 r1
    go_wp2_with fail
    refine (HW.out _ v9).mono ?_
    rintro e w6 ⟨rfl, b6⟩
    have c9 := below_of c8 b6
    go_wp2_with fail
    go_ret
    exact ⟨rfl, c9⟩

end Go.Proofs.YtaeiahkomdpcoaaGreatDoor.Page
end
