/- Layer 14: InboxKnown's walk. -/
import Derived.Test.YtlpopnacfggiiaaInPlays
import Derived.Deep.AppendLies
set_option linter.unusedVariables false
set_option linter.unusedSimpArgs false
namespace Go.Proofs.Ytlpopnacfggiiaa.Ref
open Go.RowKit Go.Proofs.Ytlpopnacfggiiaa.Base Go.Proofs.YtlpopnacfggiiaaW.PrintWords Go.Proofs.YtlpopnacfggiiaaW.PrintLast Go.Proofs.YtlpopnacfggiiaaW.PrintMore

/-- An inbox that is none: nil, or one that was never made. -/
def NoneI (w : World) (p : Option Addr) : Prop := p = none ∨ ∃ g, p = some ⟨g, 0, none⟩ ∧ w.cell? ⟨g, 1, none⟩ = some (.map none)
theorem noneI_c (p : Option Addr) (w : World) (h : NoneI w p) : Calls Try.prog 33 #[.pointer p] w fun e w' => e = .returned (.bool true) ∧ w = w' := by
  rcases h with rfl | ⟨g, rfl, hc⟩
  · exact Int.none_nil w
  · exact Int.none_zero g w hc
theorem newNoneI (W : World) : NoneI (W.alloc (.cells #[.int .u16 0, .map none] 53)) (some ⟨W.heap.size, 0, none⟩) :=
  .inr ⟨_, rfl, cell_of_row _ _ 1 _ 53 (0, 0) (heap_alloc_new W _)⟩
def ends : List Int := [-9223372036854775808, -1, 0, 1, 3, 4, 32767, 32768, 65532, 65535, 65536, 9223372036854775807]
def EndsAt (w : World) (b : Nat) : Prop := ∀ i : Nat, i < 12 → w.cell? ⟨b, i, none⟩ = some (.int .i64 (ends.getD i 0))
theorem EndsAt.below {w w' : World} {b : Nat} (h : EndsAt w b) (hb : Below w.heap.size w w') : EndsAt w' b := fun i hi => pw_cell_below hb (h i hi)
theorem EndsAt.lt {w : World} {b : Nat} (h : EndsAt w b) : b < w.heap.size := World.block_lt_of_cell? w _ (h 0 (by decide))
theorem EndsAt.grown {wr w1 : World} {ad : Nat} {v : Option Nat} (h : EndsAt wr ad) (hg : wr.grownBy w1 v) (hne : some ad ≠ v) : EndsAt w1 ad := fun i hi => (hg.cell_far ⟨ad, i, none⟩ (World.block_lt_of_cell? _ _ (h i hi)) hne).trans (h i hi)
def endsCells : Array Value := #[.int .i64 (-9223372036854775808), .int .i64 (-1), .int .i64 0, .int .i64 1, .int .i64 3, .int .i64 4, .int .i64 32767, .int .i64 32768, .int .i64 65532, .int .i64 65535, .int .i64 65536, .int .i64 9223372036854775807]
theorem ends_new (W : World) : EndsAt (W.alloc (.cells endsCells 3)) W.heap.size := by
  intro i hi
  rw [blk_cell (heap_alloc_new W (.cells endsCells 3))]
  have hs : i = 0 ∨ i = 1 ∨ i = 2 ∨ i = 3 ∨ i = 4 ∨ i = 5 ∨ i = 6 ∨ i = 7 ∨ i = 8 ∨ i = 9 ∨ i = 10 ∨ i = 11 := by omega
  rcases hs with rfl | rfl | rfl | rfl | rfl | rfl | rfl | rfl | rfl | rfl | rfl | rfl <;> rfl
/-- One byte, made just now. -/
theorem byte_R (W : World) (B s : Nat) (x : Int) (hb : W.heap[s]? = some (.cells #[.int .u8 x] 5 (0, 0))) (hB : B ≤ s) (ok : Nat → Prop) (hok : ok s) : (Kd.int .u8).R 5 W B ok (.slice (some ⟨s, 0, none⟩) 1 1) [x] := by
  refine ⟨fun k hk => ?_, [.int .u8 x], ?_, (Reps.none _ _).snoc (p := x) (c := [.int .u8 x]) rfl rfl⟩
  · have : k = s := by simpa [Value.ownBlock] using hk.symm
    rw [this]; exact hok
  · exact ⟨rfl, .inr ⟨s, 1, #[.int .u8 x], rfl, hB, hb, by simp, by simp [maxLen], rfl, rfl⟩⟩
theorem infoDo : (Try.prog.info? 32).map (fun i => (i.zero, i.size, i.bytes)) = some (some (.agg #[.int .i64 0, .bool false, .slice none 0 0]), 3, 40) := by kernel_rfl
def lit3 (q k x y : Int) (s : Nat) : Array Value := #[.int .i64 q, .bool true, .slice (some ⟨s, 0, none⟩) 1 1, .int .i64 k, .bool false, .slice (some ⟨s + 1, 0, none⟩) 1 1, .int .i64 2, .bool false, .slice none 0 0]
theorem three_M (W : World) (B s : Nat) (q k x y : Int) (hs : W.heap[s]? = some (.cells #[.int .u8 x] 5 (0, 0))) (ht : W.heap[s + 1]? = some (.cells #[.int .u8 y] 5 (0, 0))) (hu : W.heap[s + 2]? = some (.cells (lit3 q k x y s) 32 (0, 0))) (hB : B ≤ s) :
    ReadsRow (doK.M W B (fun j => j = s ∨ j = s + 1)) doK.sz W (some ⟨s + 2, 0, none⟩) 3 [(q, true, [x]), (k, false, [y]), (2, false, [])] := by
  refine ⟨rfl, by omega, fun _ => ⟨_, rfl, ?_⟩⟩
  intro j p hj
  have hj3 : j = 0 ∨ j = 1 ∨ j = 2 := by
    have := (List.getElem?_eq_some_iff.1 hj).1; simp at this; omega
  have hsz : doK.sz = 3 := rfl
  rcases hj3 with rfl | rfl | rfl
  · obtain rfl : p = (q, true, [x]) := by simpa using hj.symm
    refine ⟨[.int .i64 q, .bool true, .slice (some ⟨s, 0, none⟩) 1 1], rfl, ⟨[.int .i64 q], _, rfl, rfl, [.bool true], _, rfl, rfl, _, rfl, byte_R W B s x hs hB _ (.inl rfl)⟩, fun i u hu' => ?_⟩
    rw [add_plain, blk_cell hu, hsz]
    have hi : i = 0 ∨ i = 1 ∨ i = 2 := by
      have := (List.getElem?_eq_some_iff.1 hu').1; simp at this; omega
    rcases hi with rfl | rfl | rfl <;> simpa [lit3] using hu'
  · obtain rfl : p = (k, false, [y]) := by simpa using hj.symm
    refine ⟨[.int .i64 k, .bool false, .slice (some ⟨s + 1, 0, none⟩) 1 1], rfl, ⟨[.int .i64 k], _, rfl, rfl, [.bool false], _, rfl, rfl, _, rfl, byte_R W B (s + 1) y ht (by omega) _ (.inr rfl)⟩, fun i u hu' => ?_⟩
    rw [add_plain, blk_cell hu, hsz]
    have hi : i = 0 ∨ i = 1 ∨ i = 2 := by
      have := (List.getElem?_eq_some_iff.1 hu').1; simp at this; omega
    rcases hi with rfl | rfl | rfl <;> simpa [lit3] using hu'
  · obtain rfl : p = (2, false, []) := by simpa using hj.symm
    refine ⟨[.int .i64 2, .bool false, .slice none 0 0], rfl, ⟨[.int .i64 2], _, rfl, rfl, [.bool false], _, rfl, rfl, _, rfl, Kd.R_nil _ _ _ _ _⟩, fun i u hu' => ?_⟩
    rw [add_plain, blk_cell hu, hsz]
    have hi : i = 0 ∨ i = 1 ∨ i = 2 := by
      have := (List.getElem?_eq_some_iff.1 hu').1; simp at this; omega
    rcases hi with rfl | rfl | rfl <;> simpa [lit3] using hu'
theorem three_new (wr : World) (B : Nat) (q k x y : Int) (hB : B ≤ wr.heap.size) :
    ReadsRow (doK.M (((wr.alloc (.cells #[.int .u8 x] 5)).alloc (.cells #[.int .u8 y] 5)).alloc (.cells (lit3 q k x y wr.heap.size) 32)) B (fun j => j = wr.heap.size ∨ j = wr.heap.size + 1)) doK.sz (((wr.alloc (.cells #[.int .u8 x] 5)).alloc (.cells #[.int .u8 y] 5)).alloc (.cells (lit3 q k x y wr.heap.size) 32)) (some ⟨wr.heap.size + 2, 0, none⟩) 3 [(q, true, [x]), (k, false, [y]), (2, false, [])] := by
  refine three_M _ B wr.heap.size q k x y (blk_alloc (blk_alloc (heap_alloc_new wr _) _) _) ?_ ?_ hB
  · have h := blk_alloc (heap_alloc_new (wr.alloc (.cells #[.int .u8 x] 5)) (.cells #[.int .u8 y] 5)) (.cells (lit3 q k x y wr.heap.size) 32)
    rwa [World.size_alloc] at h
  · have h := heap_alloc_new ((wr.alloc (.cells #[.int .u8 x] 5)).alloc (.cells #[.int .u8 y] 5)) (.cells (lit3 q k x y wr.heap.size) 32)
    rwa [World.size_alloc, World.size_alloc] at h
theorem below3 {B : Nat} {w wr : World} (h : Below B w wr) (hS : B ≤ wr.heap.size) (o1 o2 o3 : Obj) : Below B w (((wr.alloc o1).alloc o2).alloc o3) :=
  ((h.alloc hS o1).alloc (by simp; omega) o2).alloc (by simp; omega) o3
theorem next {B : Nat} {w wr w1 : World} (h : Below B w wr) (hB : B ≤ wr.heap.size) (hb : Below wr.heap.size wr w1) : Below B w w1 := h.trans (hb.mono hB)
set_option maxHeartbeats 4000000 in
set_option maxRecDepth 100000 in
theorem known_c (w : World) : Calls Try.prog 6 #[] w fun e w' => e = .returned (.bool true) ∧ Below w.heap.size w w' := by
  have hu32 := Try.underlying32
  have hu53 := Try.underlying53
  go_enter Try.func6, Try.ntmps6
  go_wp2_with fail
  go_loopw [1, 2] (fun v1 v2 wr => ∃ (i : Nat) (p : Option Addr), i ≤ 2 ∧ v1 = .pointer p ∧ v2 = .int .i64 (i : Int) ∧ Bx (NoneI wr p) ∧ Bx (Below w.heap.size w wr) ∧ Bx (w.heap.size ≤ wr.heap.size)) (fun _ v _ => 2 - (intOf v).toNat)
  case atStart => exact ⟨0, none, by omega, rfl, rfl, ⟨.inl rfl⟩, ⟨Below.refl _ _⟩, ⟨Nat.le_refl _⟩⟩
  case round =>
    obtain ⟨i, p, hi, rfl, rfl, HN, HB, HS⟩ := hrel
    by_cases h : i < 2
    · go_wp2_with (first | (go_at_call 19; (with_reducible refine (Int.take_nil _ _ _ _ (noneI_c _ _ HN.out)).mono ?_); rintro e w' ⟨rfl, rfl⟩) | (go_at_call 20; (with_reducible refine (Int.ack_nil _ _ (noneI_c _ _ HN.out)).mono ?_); rintro e w' ⟨rfl, rfl⟩) | (go_at_call 21; (with_reducible refine (Int.waits_nil _ _ (noneI_c _ _ HN.out)).mono ?_); rintro e w' ⟨rfl, rfl⟩))
      go_roundw
      case rel => exact ⟨i + 1, _, by omega, rfl, by simp, ⟨newNoneI _⟩, ⟨HB.out.alloc HS.out _⟩, ⟨by simp; have := HS.out; omega⟩⟩
      case measure => simp [intOf]; omega
    · obtain ⟨wo, rfl⟩ : ∃ wo : World, wo = wr := ⟨_, rfl⟩
      go_wp2_with fail
      clear HN h hi
      have hE := ends_new wo
      have HB0 := Bx.mk (HB.out.alloc HS.out (.cells endsCells 3))
      have hS0 : w.heap.size ≤ (wo.alloc (.cells endsCells 3)).heap.size := by simp; have := HS.out; omega
      unfold endsCells at hE HB0 hS0
      generalize (wo.alloc (.cells #[.int .i64 (-9223372036854775808), .int .i64 (-1), .int .i64 0, .int .i64 1, .int .i64 3, .int .i64 4, .int .i64 32767, .int .i64 32768, .int .i64 65532, .int .i64 65535, .int .i64 65536, .int .i64 9223372036854775807] 3)) = W0 at *
      generalize wo.heap.size = ad at *
      have HE := Bx.mk hE
      have HS0 := Bx.mk hS0
      clear hE hS0 HB HS
      go_loopw [6] (fun v wr => ∃ i : Nat, i ≤ 12 ∧ v = .int .i64 (i : Int) ∧ Bx (Below w.heap.size w wr) ∧ Bx (w.heap.size ≤ wr.heap.size) ∧ Bx (EndsAt wr ad)) (fun v _ => 12 - (intOf v).toNat)
      case atStart => exact ⟨0, by omega, rfl, HB0, HS0, HE⟩
      case round =>
        clear HB0 HS0 HE
        obtain ⟨i, hi, rfl, HB, HS, HE⟩ := hrel
        have i0 : (0 : Int) ≤ (i : Int) := by omega
        by_cases h : i < 12
        · have i1 : (i : Int) < 12 := by omega
          obtain ⟨wo2, rfl⟩ : ∃ wo2 : World, wo2 = wr := ⟨_, rfl⟩
          go_wp2_with fail
          go_loopw [7, 8] (fun v7 v8 wr => ∃ (k : Nat) (xs : List Do), k ≤ 12 ∧ v8 = .int .i64 (k : Int) ∧ Bx (xs.length ≤ 3 * k ∧ ∀ x ∈ xs, x.2.2.length ≤ 1) ∧ Bx (doK.R 32 wr w.heap.size (fun k => k ≠ ad) v7 xs) ∧ Bx (Below w.heap.size w wr) ∧ Bx (w.heap.size ≤ wr.heap.size) ∧ Bx (EndsAt wr ad)) (fun _ v _ => 12 - (intOf v).toNat)
          case atStart => exact ⟨0, [], by omega, rfl, ⟨by simp⟩, ⟨Kd.R_nil _ _ _ _ _⟩, HB, HS, HE⟩
          case round =>
            clear HB HS HE
            obtain ⟨k, xs, hk, rfl, HX, HR, HB, HS, HE⟩ := hrel
            obtain ⟨A7, c7, rfl, hc7, hC7⟩ := Kd.R_reads HR.out
            have HC7 := Bx.mk hC7
            clear hC7
            have k0 : (0 : Int) ≤ (k : Int) := by omega
            by_cases hk2 : k < 12
            · have k1 : (k : Int) < 12 := by omega
              have hce := HE.out k hk2
              generalize ends.getD k 0 = q at hce
              have hkx := HX.out.1
              have hrl := Kd.R_lt HR.out
              have hrn : ∀ e, (Value.slice A7 xs.length c7).ownBlock = some e → e ≠ ad := fun e he => HR.out.1 e he
              have hel := HE.out.lt
              have HRL := Bx.mk (And.intro hrl (And.intro hrn hel))
              clear hrl hrn hel
              go_wp2_with (at_builtin; go_must (refine Kd.R_append_rows doK (w0 := w) w.heap.size rfl (.tmp 50) (.tmp 66) 22 32 (.agg #[.int .i64 0, .bool false, .slice none 0 0]) 40 rfl Try.underlying22 infoDo rfl (by decide) (by omega) (.slice A7 xs.length c7) xs [(q, true, [(k : Int)]), ((k : Int), false, [9 + (k : Int)]), (2, false, [])] _ _ _ (fun j => j ≠ ad) (fun j => j = wr.heap.size ∨ j = wr.heap.size + 1) rfl rfl ?aO ?aR (fun _ _ h => h) ?aH ?aF ?aB ?aS ?aL ?_; (case aO => exact Kd.R_alloc (Kd.R_alloc (Kd.R_alloc HR.out _) _) _); (case aR => exact three_new wr _ q k k (9 + k) HS.out); (case aH => exact fun j hj => (by have h1 := HRL.out.2.2; refine ⟨by omega, fun e => ?_⟩; have h2 := HRL.out.1 j e.symm; omega)); (case aF => exact fun j hj => Nat.ne_of_gt (Nat.lt_of_lt_of_le HRL.out.2.2 (Nat.le_trans (below3 (Below.refl _ wr) (Nat.le_refl _) _ _ _).size hj))); (case aB => exact below3 HB.out HS.out _ _ _); (case aS => exact Nat.le_trans HS.out (below3 (Below.refl _ wr) (Nat.le_refl _) _ _ _).size); (case aL => omega); intro v1 w1 ho hb hg hat; have n0 := Bx.mk ho; have n1 := Bx.mk hb; have n2 := Bx.mk (show w.heap.size ≤ w1.heap.size from hb.size); have n3 := Bx.mk (EndsAt.grown (HE.out.below (below3 (Below.refl _ wr) (Nat.le_refl _) _ _ _)) hg (fun e => HRL.out.2.1 ad e.symm rfl)); clear ho hb hg hat))
              go_roundw
              case rel =>
                refine ⟨k + 1, _, by omega, by simp, ⟨?_⟩, n0, n1, n2, n3⟩
                refine ⟨by simp; omega, fun x hx => ?_⟩
                rcases List.mem_append.1 hx with hx | hx
                · exact HX.out.2 x hx
                · simp at hx
                  rcases hx with rfl | rfl | rfl <;> simp
              case measure => simp [intOf]; omega
            · have k1 : ¬ (k : Int) < 12 := by omega
              have hce := HE.out i h
              generalize ends.getD i 0 = q at hce
              go_wp2_with fail
              refine (plays_c _ A7 xs.length c7 xs _ HC7.out rfl hc7 (fun x hx => by have := HX.out.2 x hx; omega)).mono ?_
              rintro e w5 ⟨rfl, hb⟩
              have m0 := Bx.mk (next HB.out HS.out hb)
              have m1 := Bx.mk (Nat.le_trans HS.out hb.size)
              have m2 := Bx.mk (HE.out.below hb)
              have m3 := Bx.mk (Kd.C_below HC7.out hb)
              clear HB HS HE HR HC7 hb hce
              go_wp2_with fail
              refine (plays_c _ A7 xs.length c7 xs _ m3.out rfl hc7 (fun x hx => by have := HX.out.2 x hx; omega)).mono ?_
              rintro e w6 ⟨rfl, hb⟩
              have n0 := Bx.mk (next m0.out m1.out hb)
              have n1 := Bx.mk (Nat.le_trans m1.out hb.size)
              have n2 := Bx.mk (m2.out.below hb)
              clear m0 m1 m2 m3 hb
              go_wp2_with fail
              go_roundw
              case rel => exact ⟨i + 1, by omega, by simp, n0, n1, n2⟩
              case measure => simp [intOf]; omega
        · have i1 : ¬ ((i : Int) < 12) := by omega
          go_wp2_with (go_at_call 17; (with_reducible refine (Str.works_c _).mono ?_); rintro e w5 ⟨rfl, hb⟩; have n1 := Bx.mk (next HB.out HS.out hb); clear hb)
          go_ret
          exact ⟨rfl, n1.out⟩
end Go.Proofs.Ytlpopnacfggiiaa.Ref
