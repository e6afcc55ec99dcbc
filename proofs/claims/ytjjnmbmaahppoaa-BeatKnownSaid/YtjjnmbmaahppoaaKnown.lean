/- Layer 15: BeatKnown's walk. -/
import Derived.Test.YtjjnmbmaahppoaaPlays
import Derived.Deep.AppendLies
set_option linter.unusedVariables false
set_option linter.unusedSimpArgs false
namespace Go.Proofs.Ytjjnmbmaahppoaa.Base
open Go.RowKit Go.Deep Go.Proofs.YtjjnmbmaahppoaaW.PrintWords Go.Proofs.YtjjnmbmaahppoaaW.PrintLast Go.Proofs.YtjjnmbmaahppoaaW.PrintMore
attribute [local go_sem] max2_int min2_int max_two min_two

/-- A beat that is none: nil, or one that was never made. -/
def NoneB (w : World) (p : Option Addr) : Prop := p = none ∨ ∃ g, p = some ⟨g, 0, none⟩ ∧ w.cell? ⟨g, 0, none⟩ = some (.int .i64 0)
theorem none_c (p : Option Addr) (w : World) (h : NoneB w p) : Calls Try.prog 16 #[.pointer p] w fun e w' => e = .returned (.bool true) ∧ w = w' := by
  rcases h with rfl | ⟨g, rfl, hc⟩
  · exact none_nil w
  · exact none_zero g w hc
theorem newNone (W : World) : NoneB (W.alloc (.cells #[.int .i64 0, .int .i64 0, .bool false, .int .i64 0, .int .i64 0] 35)) (some ⟨W.heap.size, 0, none⟩) :=
  .inr ⟨_, rfl, cell_of_row _ _ 0 _ 35 (0, 0) (heap_alloc_new W _)⟩
theorem litC (w : World) (xs : List Int) (b : Nat) (hb : w.heap[b]? = some (.cells (xs.map (Value.int .i64)).toArray 3 (0, 0))) (hl : xs.length ≤ 1000) : (Kd.int .i64).C w (some ⟨b, 0, none⟩) xs.length xs := by
  refine Kd.C_of_reads (d := (0 : Int)) (h1 := fun _ => rfl) ⟨rfl, by omega, fun _ => ⟨_, rfl, ?_⟩⟩
  intro j hj
  rw [add_plain, blk_cell hb]
  simp [hj]
def pk : Kd (Int × Int) := Kd.pair (Kd.int .i64) (Kd.int .i64)
theorem doRow_of {w : World} {A : Option Addr} {n : Nat} {xs : List (Int × Int)} (h : pk.C w A n xs) : DoRow w A n xs := by
  refine ⟨h.1, h.2.1, fun hp => ?_⟩
  obtain ⟨ad, c0, hA, _⟩ := Kd.C_get h (0, 0) 0 (by omega) (by omega)
  refine ⟨ad, hA, fun i hi => ?_⟩
  obtain ⟨ad', c, hA', hcl, hk, hcc⟩ := Kd.C_get h (0, 0) (i : Int) (by omega) (by omega)
  obtain rfl : ad = ad' := by rw [hA] at hA'; simpa using hA'
  obtain ⟨d0, d1, rfl, h0, h1⟩ := hk
  have e0 : d0 = [Value.int .i64 (xs.getD i (0, 0)).1] := by simpa [Kd.int, Kd.scalar] using h0
  have e1 : d1 = [Value.int .i64 (xs.getD i (0, 0)).2] := by simpa [Kd.int, Kd.scalar] using h1
  subst e0 e1
  refine ⟨by simpa [pk, Kd.pair, Kd.int, Kd.scalar] using hcc 0 _ rfl, ?_⟩
  rw [← add_field ad (i * 2) 1 (by omega)]
  simpa [pk, Kd.pair, Kd.int, Kd.scalar] using hcc 1 _ rfl
theorem pk_one (w : World) (x : Int × Int) : pk.K w x [.int .i64 x.1, .int .i64 x.2] := ⟨[.int .i64 x.1], [.int .i64 x.2], rfl, rfl, rfl⟩
theorem six_C (W : World) (x y z u v t : Int × Int) (b : Nat) (hb : W.heap.size = b) :
    pk.C (W.alloc (.cells #[.int .i64 x.1, .int .i64 x.2, .int .i64 y.1, .int .i64 y.2, .int .i64 z.1, .int .i64 z.2, .int .i64 u.1, .int .i64 u.2, .int .i64 v.1, .int .i64 v.2, .int .i64 t.1, .int .i64 t.2] 38)) (some ⟨b, 0, none⟩) 6 [x, y, z, u, v, t] := by
  subst hb
  have hg := heap_alloc_new W (.cells #[.int .i64 x.1, .int .i64 x.2, .int .i64 y.1, .int .i64 y.2, .int .i64 z.1, .int .i64 z.2, .int .i64 u.1, .int .i64 u.2, .int .i64 v.1, .int .i64 v.2, .int .i64 t.1, .int .i64 t.2] 38)
  refine ⟨rfl, by omega, fun _ => ⟨_, rfl, ?_⟩⟩
  intro j p hj
  refine ⟨[.int .i64 p.1, .int .i64 p.2], rfl, pk_one _ p, ?_⟩
  intro i q hu
  rw [add_plain, blk_cell hg]
  have hj3 : j = 0 ∨ j = 1 ∨ j = 2 ∨ j = 3 ∨ j = 4 ∨ j = 5 := by
    have := (List.getElem?_eq_some_iff.1 hj).1; simp at this; omega
  have hi2 : i = 0 ∨ i = 1 := by
    have := (List.getElem?_eq_some_iff.1 hu).1; simp at this; omega
  rcases hj3 with rfl | rfl | rfl | rfl | rfl | rfl <;> rcases hi2 with rfl | rfl <;> simp at hj hu <;> subst hj hu <;> rfl
theorem two_C (W : World) (x y : Int × Int) (b : Nat) (hb : W.heap.size = b) :
    pk.C (W.alloc (.cells #[.int .i64 x.1, .int .i64 x.2, .int .i64 y.1, .int .i64 y.2] 38)) (some ⟨b, 0, none⟩) 2 [x, y] := by
  subst hb
  have hg := heap_alloc_new W (.cells #[.int .i64 x.1, .int .i64 x.2, .int .i64 y.1, .int .i64 y.2] 38)
  refine ⟨rfl, by omega, fun _ => ⟨_, rfl, ?_⟩⟩
  intro j p hj
  refine ⟨[.int .i64 p.1, .int .i64 p.2], rfl, pk_one _ p, ?_⟩
  intro i q hu
  rw [add_plain, blk_cell hg]
  have hj3 : j = 0 ∨ j = 1 := by
    have := (List.getElem?_eq_some_iff.1 hj).1; simp at this; omega
  have hi2 : i = 0 ∨ i = 1 := by
    have := (List.getElem?_eq_some_iff.1 hu).1; simp at this; omega
  rcases hj3 with rfl | rfl <;> rcases hi2 with rfl | rfl <;> simp at hj hu <;> subst hj hu <;> rfl
theorem info38 : (Try.prog.info? 38).map (fun i => (i.zero, i.size, i.bytes)) = some (some (.agg #[.int .i64 0, .int .i64 0]), 2, 16) := by kernel_rfl
def ends : List Int := [-9223372036854775808, -1, 0, 1, 2, 999, 1000, 1001, 9999, 10000, 10001, 9007199254740991, 9007199254740992]
def EndsAt (w : World) (b : Nat) : Prop := ∀ i : Nat, i < 13 → w.cell? ⟨b, i, none⟩ = some (.int .i64 (ends.getD i 0))
theorem EndsAt.below {w w' : World} {b : Nat} (h : EndsAt w b) (hb : Below w.heap.size w w') : EndsAt w' b := fun i hi => pw_cell_below hb (h i hi)
theorem cell_grown {wr w1 : World} {o : Obj} {ad j : Nat} {u : Value} {v : Option Nat} (h : wr.cell? ⟨ad, j, none⟩ = some u) (hg : (wr.alloc o).drew.grownBy w1 v) (hne : some ad ≠ v) : w1.cell? ⟨ad, j, none⟩ = some u := by
  have h1 : (wr.alloc o).cell? ⟨ad, j, none⟩ = some u := pw_cell_below ((Below.refl _ wr).alloc (Nat.le_refl _) o) h
  have hl : ad < (wr.alloc o).drew.heap.size := World.block_lt_of_cell? (wr.alloc o) _ h1
  exact (hg.cell_far ⟨ad, j, none⟩ hl hne).trans h1
theorem EndsAt.grown {wr w1 : World} {o : Obj} {ad : Nat} {v : Option Nat} (h : EndsAt wr ad) (hg : (wr.alloc o).drew.grownBy w1 v) (hne : some ad ≠ v) : EndsAt w1 ad := fun i hi => cell_grown (h i hi) hg hne
theorem EndsAt.grown0 {wr w1 : World} {o : Obj} {ad : Nat} {v : Option Nat} (h : EndsAt wr ad) (hg : (wr.alloc o).grownBy w1 v) (hne : some ad ≠ v) : EndsAt w1 ad := fun i hi => by
  have h1 : (wr.alloc o).cell? ⟨ad, i, none⟩ = some (.int .i64 (ends.getD i 0)) := pw_cell_below ((Below.refl _ wr).alloc (Nat.le_refl _) o) (h i hi)
  exact (hg.cell_far ⟨ad, i, none⟩ (World.block_lt_of_cell? _ _ h1) hne).trans h1
theorem EndsAt.lt {w : World} {b : Nat} (h : EndsAt w b) : b < w.heap.size := World.block_lt_of_cell? w _ (h 0 (by decide))
theorem ends_new (W : World) : EndsAt (W.alloc (.cells #[.int .i64 (-9223372036854775808), .int .i64 (-1), .int .i64 0, .int .i64 1, .int .i64 2, .int .i64 999, .int .i64 1000, .int .i64 1001, .int .i64 9999, .int .i64 10000, .int .i64 10001, .int .i64 9007199254740991, .int .i64 9007199254740992] 3)) W.heap.size := by
  intro i hi
  have hg := heap_alloc_new W (.cells #[.int .i64 (-9223372036854775808), .int .i64 (-1), .int .i64 0, .int .i64 1, .int .i64 2, .int .i64 999, .int .i64 1000, .int .i64 1001, .int .i64 9999, .int .i64 10000, .int .i64 10001, .int .i64 9007199254740991, .int .i64 9007199254740992] 3)
  rw [blk_cell hg]
  have hs : i = 0 ∨ i = 1 ∨ i = 2 ∨ i = 3 ∨ i = 4 ∨ i = 5 ∨ i = 6 ∨ i = 7 ∨ i = 8 ∨ i = 9 ∨ i = 10 ∨ i = 11 ∨ i = 12 := by omega
  rcases hs with rfl | rfl | rfl | rfl | rfl | rfl | rfl | rfl | rfl | rfl | rfl | rfl | rfl <;> rfl
theorem next {B : Nat} {w wr w1 : World} (h : Below B w wr) (hB : B ≤ wr.heap.size) (hb : Below wr.heap.size wr w1) : Below B w w1 := h.trans (hb.mono hB)
set_option maxHeartbeats 4000000 in
set_option maxRecDepth 100000 in
theorem known_c (w : World) : Calls Try.prog 5 #[] w fun e w' => e = .returned (.bool true) ∧ Below w.heap.size w w' := by
  have hu38 := Try.underlying38
  have hu35 := Try.underlying35
  go_enter Try.func5, Try.ntmps5
  go_wp2_with fail
  go_loopw [1, 2] (fun v1 v2 wr => ∃ (i : Nat) (p : Option Addr), i ≤ 2 ∧ v1 = .pointer p ∧ v2 = .int .i64 (i : Int) ∧ Bx (NoneB wr p) ∧ Bx (Below w.heap.size w wr) ∧ Bx (w.heap.size ≤ wr.heap.size)) (fun _ v _ => 2 - (intOf v).toNat)
  case atStart => exact ⟨0, none, by omega, rfl, rfl, ⟨.inl rfl⟩, ⟨Below.refl _ _⟩, ⟨Nat.le_refl _⟩⟩
  case round =>
    obtain ⟨i, p, hi, rfl, rfl, HN, HB, HS⟩ := hrel
    by_cases h : i < 2
    · go_wp2_with (first | (go_at_call 14; (with_reducible refine (stop_nil _ _ (none_c _ _ HN.out)).mono ?_); rintro e w' ⟨rfl, rfl⟩) | (go_at_call 9; (with_reducible refine (start_nil _ _ _ (none_c _ _ HN.out)).mono ?_); rintro e w' ⟨rfl, rfl⟩) | (go_at_call 10; (with_reducible refine (due_nil _ _ _ (none_c _ _ HN.out)).mono ?_); rintro e w' ⟨rfl, rfl⟩) | (go_at_call 13; (with_reducible refine (runs_nil _ _ (none_c _ _ HN.out)).mono ?_); rintro e w' ⟨rfl, rfl⟩) | (go_at_call 11; (with_reducible refine (at_nil _ _ (none_c _ _ HN.out)).mono ?_); rintro e w' ⟨rfl, rfl⟩) | (go_at_call 12; (with_reducible refine (tries_nil _ _ (none_c _ _ HN.out)).mono ?_); rintro e w' ⟨rfl, rfl⟩))
      go_roundw
      case rel => exact ⟨i + 1, _, by omega, rfl, by simp, ⟨newNone _⟩, ⟨HB.out.alloc HS.out _⟩, ⟨by simp; have := HS.out; omega⟩⟩
      case measure => simp [intOf]; omega
    · obtain ⟨wo, rfl⟩ : ∃ wo : World, wo = wr := ⟨_, rfl⟩
      go_wp2_with fail
      clear HN h hi
      have hE := ends_new wo
      have HB0 := Bx.mk (HB.out.alloc HS.out (.cells #[.int .i64 (-9223372036854775808), .int .i64 (-1), .int .i64 0, .int .i64 1, .int .i64 2, .int .i64 999, .int .i64 1000, .int .i64 1001, .int .i64 9999, .int .i64 10000, .int .i64 10001, .int .i64 9007199254740991, .int .i64 9007199254740992] 3))
      have hS0 : w.heap.size ≤ (wo.alloc (.cells #[.int .i64 (-9223372036854775808), .int .i64 (-1), .int .i64 0, .int .i64 1, .int .i64 2, .int .i64 999, .int .i64 1000, .int .i64 1001, .int .i64 9999, .int .i64 10000, .int .i64 10001, .int .i64 9007199254740991, .int .i64 9007199254740992] 3)).heap.size := by simp; have := HS.out; omega
      generalize (wo.alloc (.cells #[.int .i64 (-9223372036854775808), .int .i64 (-1), .int .i64 0, .int .i64 1, .int .i64 2, .int .i64 999, .int .i64 1000, .int .i64 1001, .int .i64 9999, .int .i64 10000, .int .i64 10001, .int .i64 9007199254740991, .int .i64 9007199254740992] 3)) = W0 at *
      generalize wo.heap.size = ad at *
      have HE := Bx.mk hE
      have HS0 := Bx.mk hS0
      clear hE hS0 HB HS
      go_loopw [4, 5] (fun v4 v5 wr => ∃ (i : Nat) (xs : List (Int × Int)), i ≤ 13 ∧ v5 = .int .i64 (i : Int) ∧ Bx (xs.length ≤ 6 * i) ∧ Bx (pk.R 38 wr w.heap.size (fun k => k ≠ ad) v4 xs) ∧ Bx (Below w.heap.size w wr) ∧ Bx (w.heap.size ≤ wr.heap.size) ∧ Bx (EndsAt wr ad)) (fun _ v _ => 13 - (intOf v).toNat)
      case atStart => exact ⟨0, [], by omega, rfl, ⟨by simp⟩, ⟨Kd.R_nil _ _ _ _ _⟩, HB0, HS0, HE⟩
      case round =>
        clear HB0 HS0 HE
        obtain ⟨i, xs, hi, rfl, HX, HR, HB, HS, HE⟩ := hrel
        obtain ⟨A4, c4, rfl, hc4, hC4⟩ := Kd.R_reads HR.out
        have HC4 := Bx.mk hC4
        clear hC4
        by_cases h : i < 13
        · have hce := HE.out i h
          have hc2 := HE.out 2 (by decide)
          have h0 : (0 : Int) ≤ (i : Int) := by omega
          have h1 : (i : Int) < 13 := by omega
          generalize ends.getD i 0 = q at hce
          generalize ends.getD 2 0 = q2 at hc2
          by_cases hi2 : i < 2
          · have h2 : (i : Int) < 2 := by omega
            clear hi2
            go_wp2_with fail
            go_region_held3 (fun w' => w'.cell? ⟨ad, i, none⟩ = some (.int .i64 q) ∧ w'.cell? ⟨ad, 2, none⟩ = some (.int .i64 q2)) (first | exact ⟨hce, hc2⟩ | go_keep) (first | ((refine Kd.R_append_rows_step pk (w0 := w) w.heap.size (by rfl) (.tmp 44) (.tmp 65) 36 38 (.agg #[.int .i64 0, .int .i64 0]) 16 rfl Try.underlying36 info38 rfl (by decide) (by omega) (.slice A4 xs.length c4) xs [(0, q), (2, q), (3, 40), (3, 49), (3, 3), (2, IntKind.i64.wrap (q2 + 2000))] _ _ _ (fun k => k ≠ ad) (fun _ => False) rfl rfl ?aO ?aR (fun _ _ h => h) (fun _ h => h.elim) ?aF ?aB ?aS ?aL ?_; (case aO => exact Kd.R_drew (Kd.R_alloc HR.out _)); (case aR => exact Kd.C_drew (six_C wr (0, q) (2, q) (3, 40) (3, 49) (3, 3) (2, IntKind.i64.wrap (q2 + 2000)) wr.heap.size rfl)); (case aF => exact fun k hk => (by have := HE.out.lt; simp at hk; omega)); (case aB => exact below_drew1 (HB.out.alloc HS.out _)); (case aS => simp; have := HS.out; omega); (case aL => have := HX.out; simp; omega); intro v1 w1 ho hb hg hat; have n0 := Bx.mk ho; have n1 := Bx.mk hb; have n2 := Bx.mk (show w.heap.size ≤ w1.heap.size from hb.size); have hne : some ad ≠ (Value.slice A4 xs.length c4).ownBlock := fun e => HR.out.1 _ e.symm rfl; have n3 := Bx.mk (HE.out.grown hg hne); have n4 := cell_grown hce hg hne; have n5 := cell_grown hc2 hg hne; clear hce hc2 ho hb hg hat hne; have hce := n4; have hc2 := n5; clear n4 n5)))
            go_wp2_with fail
            go_roundw
            case rel => exact ⟨i + 1, _, by omega, by simp, ⟨by have := HX.out; simp; omega⟩, n0, n1, n2, n3⟩
            case measure => simp [intOf]; omega
          · have h2 : (2 : Int) ≤ (i : Int) := by omega
            have hmx : (if (i : Int) < 2 then (2 : Int) else (i : Int)) = (i : Int) := if_neg (by omega)
            clear hi2 hc2
            have hc2 := hce
            go_wp2_with fail
            go_region_held3 (fun w' => w'.cell? ⟨ad, i, none⟩ = some (.int .i64 q) ∧ w'.cell? ⟨ad, i, none⟩ = some (.int .i64 q)) (first | exact ⟨hce, hc2⟩ | go_keep) (first | ((refine Kd.R_append_rows_step pk (w0 := w) w.heap.size (by rfl) (.tmp 44) (.tmp 65) 36 38 (.agg #[.int .i64 0, .int .i64 0]) 16 rfl Try.underlying36 info38 rfl (by decide) (by omega) (.slice A4 xs.length c4) xs [(0, q), (2, q), (3, 40), (3, 49), (3, 3), (2, IntKind.i64.wrap (q + 2000))] _ _ _ (fun k => k ≠ ad) (fun _ => False) rfl rfl ?aO ?aR (fun _ _ h => h) (fun _ h => h.elim) ?aF ?aB ?aS ?aL ?_; (case aO => exact Kd.R_drew (Kd.R_alloc HR.out _)); (case aR => exact Kd.C_drew (six_C wr (0, q) (2, q) (3, 40) (3, 49) (3, 3) (2, IntKind.i64.wrap (q + 2000)) wr.heap.size rfl)); (case aF => exact fun k hk => (by have := HE.out.lt; simp at hk; omega)); (case aB => exact below_drew1 (HB.out.alloc HS.out _)); (case aS => simp; have := HS.out; omega); (case aL => have := HX.out; simp; omega); intro v1 w1 ho hb hg hat; have n0 := Bx.mk ho; have n1 := Bx.mk hb; have n2 := Bx.mk (show w.heap.size ≤ w1.heap.size from hb.size); have hne : some ad ≠ (Value.slice A4 xs.length c4).ownBlock := fun e => HR.out.1 _ e.symm rfl; have n3 := Bx.mk (HE.out.grown hg hne); have n4 := cell_grown hce hg hne; have n5 := cell_grown hc2 hg hne; clear hce hc2 ho hb hg hat hne; have hce := n4; have hc2 := n5; clear n4 n5)))
            go_wp2_with fail
            go_roundw
            case rel => exact ⟨i + 1, _, by omega, by simp, ⟨by have := HX.out; simp; omega⟩, n0, n1, n2, n3⟩
            case measure => simp [intOf]; omega
        · have h2 : ¬ ((i : Int) < 13) := by omega
          obtain ⟨wo2, rfl⟩ : ∃ wo2 : World, wo2 = wr := ⟨_, rfl⟩
          go_wp2_with (at_builtin; go_must (refine Kd.R_append_rows pk (w0 := w) w.heap.size rfl (.tmp 67) (.tmp 70) 36 38 (.agg #[.int .i64 0, .int .i64 0]) 16 rfl Try.underlying36 info38 rfl (by decide) (by omega) (.slice A4 xs.length c4) xs [(1, 0), (3, 9)] _ _ _ (fun k => k ≠ ad) (fun _ => False) rfl rfl ?aO ?aR (fun _ _ h => h) (fun _ h => h.elim) ?aF ?aB ?aS ?aL ?_; (case aO => exact Kd.R_alloc HR.out _); (case aR => exact two_C wo2 (1, 0) (3, 9) wo2.heap.size rfl); (case aF => exact fun k hk => (by have := HE.out.lt; simp at hk; omega)); (case aB => exact HB.out.alloc HS.out _); (case aS => simp; have := HS.out; omega); (case aL => have := HX.out; simp; omega); intro v1 w1 ho hb hg hat; have n0 := Bx.mk ho; have n1 := Bx.mk hb; have n2 := Bx.mk (show w.heap.size ≤ w1.heap.size from hb.size); have hne : some ad ≠ (Value.slice A4 xs.length c4).ownBlock := fun e => HR.out.1 _ e.symm rfl; have n3 := Bx.mk (HE.out.grown0 hg hne); clear ho hb hg hat hne))
          obtain ⟨A5, c5, rfl, hc5, hC5⟩ := Kd.R_reads n0.out
          have HC5 := Bx.mk hC5
          clear hC5 n0 HX HR HB HS HE hc4 HC4 h hi
          generalize xs ++ [((1 : Int), (0 : Int)), (3, 9)] = ys at *
          go_loopw [6] (fun v wr => ∃ j : Nat, j ≤ 13 ∧ v = .int .i64 (j : Int) ∧ Bx (EndsAt wr ad) ∧ Bx (Below w.heap.size w wr) ∧ Bx (w.heap.size ≤ wr.heap.size) ∧ Bx (pk.C wr A5 ys.length ys)) (fun v _ => 13 - (intOf v).toNat)
          case atStart => exact ⟨0, by omega, rfl, n3, n1, n2, HC5⟩
          case round =>
            clear n1 n2 n3 HC5
            obtain ⟨j, hj, rfl, HE, HB, HS, HC⟩ := hrel
            by_cases h : j < 13
            · have j0 : (0 : Int) ≤ (j : Int) := by omega
              have j1 : (j : Int) < 13 := by omega
              obtain ⟨wo3, rfl⟩ : ∃ wo3 : World, wo3 = wr := ⟨_, rfl⟩
              go_wp2_with fail
              go_loopw [7] (fun v wr => ∃ k : Nat, k ≤ 13 ∧ v = .int .i64 (k : Int) ∧ Bx (EndsAt wr ad) ∧ Bx (Below w.heap.size w wr) ∧ Bx (w.heap.size ≤ wr.heap.size) ∧ Bx (pk.C wr A5 ys.length ys)) (fun v _ => 13 - (intOf v).toNat)
              case atStart => exact ⟨0, by omega, rfl, HE, HB, HS, HC⟩
              case round =>
                clear HE HB HS HC
                obtain ⟨k, hk, rfl, HE, HB, HS, HC⟩ := hrel
                by_cases h' : k < 13
                · have k0 : (0 : Int) ≤ (k : Int) := by omega
                  have k1 : (k : Int) < 13 := by omega
                  have ce1 := HE.out j h
                  have ce2 := HE.out k h'
                  generalize ends.getD j 0 = x at ce1
                  generalize ends.getD k 0 = y at ce2
                  go_wp2_with fail
                  go_region_held3 (fun w' => w'.cell? ⟨ad, j, none⟩ = some (.int .i64 x) ∧ w'.cell? ⟨ad, k, none⟩ = some (.int .i64 y)) (first | exact ⟨ce1, ce2⟩ | go_keep) (first | (go_at_call 15; (with_reducible refine (plays_c x y A5 ys.length c5 ys _ hc5 (doRow_of (Kd.C_drew HC.out))).mono ?_); rintro e w5 ⟨rfl, hb'⟩; have hb : Below wr.heap.size wr w5 := ⟨hb'.os, hb'.tape, hb'.output, hb'.size, hb'.block⟩; clear hb'; have n0 := Bx.mk (HE.out.below hb); have n1 := Bx.mk (next HB.out HS.out hb); have n2 := Bx.mk (Nat.le_trans HS.out hb.size); have n3 := Bx.mk (Kd.C_below HC.out hb); have n4 := pw_cell_below hb ce1; have n5 := pw_cell_below hb ce2; clear hb ce1 ce2; have ce1 := n4; have ce2 := n5; clear n4 n5))
                  go_wp2_with fail
                  go_roundw
                  case rel => exact ⟨k + 1, by omega, by simp, n0, n1, n2, n3⟩
                  case measure => simp [intOf]; omega
                · have k1 : ¬ ((k : Int) < 13) := by omega
                  go_wp2_with fail
                  go_roundw
                  case rel => exact ⟨j + 1, by omega, by simp, HE, HB, HS, HC⟩
                  case measure => simp [intOf]; omega
            · have j1 : ¬ ((j : Int) < 13) := by omega
              go_wp2_with (go_at_call 6; (with_reducible refine (works_c _).mono ?_); rintro e w5 ⟨rfl, hb⟩; have n1 := Bx.mk (next HB.out HS.out hb); clear hb)
              go_ret
              exact ⟨rfl, n1.out⟩
end Go.Proofs.Ytjjnmbmaahppoaa.Base
