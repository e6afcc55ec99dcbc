/- Layer 13: senders that are none, by their contracts. -/
import Derived.Test.YtbglagllgppggaaSePlays
set_option linter.unusedVariables false
set_option linter.unusedSimpArgs false
namespace Go.Proofs.Ytbglagllgppggaa.Base
open Go.RowKit Go.Proofs.YtbglagllgppggaaW.PrintWords Go.Proofs.YtbglagllgppggaaW.PrintLast Go.Proofs.YtbglagllgppggaaW.PrintMore
open Go.Proofs.Ytbglagllgppggaa.Comm Go.Proofs.Ytbglagllgppggaa.PSenderPlays

/-- A sender that is none: nil, or one that was never made. -/
def NoneI (w : World) (p : Option Addr) : Prop := p = none ∨ ∃ g, p = some ⟨g, 0, none⟩ ∧ w.cell? ⟨g, 0, none⟩ = some (.chan none)
theorem noneI_c (p : Option Addr) (w : World) (h : NoneI w p) : Calls Try.prog 24 #[.pointer p] w fun e w' => e = .returned (.bool true) ∧ w = w' := by
  rcases h with rfl | ⟨g, rfl, hc⟩
  · exact none_nil w
  · exact none_zero g w hc
theorem newNoneI (W : World) : NoneI (W.alloc (.cells #[.chan none, .int .u16 0, .slice none 0 0, .int .i64 0, .int .i64 0] 45)) (some ⟨W.heap.size, 0, none⟩) :=
  .inr ⟨_, rfl, cell_of_row _ _ 0 _ 45 (0, 0) (heap_alloc_new W _)⟩
theorem put_nil (p : Option Addr) (A : Option Addr) (n c : Nat) (w : World) (h : NoneI w p) : Calls Try.prog 10 #[.pointer p, .slice A n c] w fun e w' => e = .returned (.int .i64 1) ∧ w = w' := by
  have hn := noneI_c p w h
  clear h
  go_enter Try.func10, Try.ntmps10
  go_wp2_with (go_at_call 24; (with_reducible refine hn.mono ?_); rintro e w' ⟨rfl, rfl⟩)
  go_ret
  exact ⟨rfl, rfl⟩
theorem heard_nil (p : Option Addr) (ack : Int) (w : World) (h : NoneI w p) : Calls Try.prog 13 #[.pointer p, .int .i64 ack] w fun e w' => e = .returned (.tuple #[.int .i64 0, .int .i64 1]) ∧ w = w' := by
  have hn := noneI_c p w h
  clear h
  go_enter Try.func13, Try.ntmps13
  go_wp2_with (go_at_call 24; (with_reducible refine hn.mono ?_); rintro e w' ⟨rfl, rfl⟩)
  go_ret2
  exact ⟨rfl, rfl⟩
theorem fresh_nil (p : Option Addr) (w : World) (h : NoneI w p) : Calls Try.prog 11 #[.pointer p] w fun e w' => e = .returned (.slice none 0 0) ∧ w = w' := by
  have hn := noneI_c p w h
  clear h
  go_enter Try.func11, Try.ntmps11
  go_wp2_with (go_at_call 24; (with_reducible refine hn.mono ?_); rintro e w' ⟨rfl, rfl⟩)
  go_ret
  exact ⟨rfl, rfl⟩
theorem again_nil (p : Option Addr) (w : World) (h : NoneI w p) : Calls Try.prog 14 #[.pointer p] w fun e w' => e = .returned (.slice none 0 0) ∧ w = w' := by
  have hn := noneI_c p w h
  clear h
  go_enter Try.func14, Try.ntmps14
  go_wp2_with (go_at_call 24; (with_reducible refine hn.mono ?_); rintro e w' ⟨rfl, rfl⟩)
  go_ret
  exact ⟨rfl, rfl⟩
theorem left_nil (p : Option Addr) (w : World) (h : NoneI w p) : Calls Try.prog 15 #[.pointer p] w fun e w' => e = .returned (.int .i64 0) ∧ w = w' := by
  have hn := noneI_c p w h
  clear h
  go_enter Try.func15, Try.ntmps15
  go_wp2_with (go_at_call 24; (with_reducible refine hn.mono ?_); rintro e w' ⟨rfl, rfl⟩)
  go_ret
  exact ⟨rfl, rfl⟩
theorem said_nil (p : Option Addr) (w : World) (h : NoneI w p) : Calls Try.prog 16 #[.pointer p] w fun e w' => e = .returned (.int .i64 0) ∧ w = w' := by
  have hn := noneI_c p w h
  clear h
  go_enter Try.func16, Try.ntmps16
  go_wp2_with (go_at_call 24; (with_reducible refine hn.mono ?_); rintro e w' ⟨rfl, rfl⟩)
  go_ret
  exact ⟨rfl, rfl⟩
theorem next_nil (p : Option Addr) (w : World) (h : NoneI w p) : Calls Try.prog 17 #[.pointer p] w fun e w' => e = .returned (.int .i64 0) ∧ w = w' := by
  have hn := noneI_c p w h
  clear h
  go_enter Try.func17, Try.ntmps17
  go_wp2_with (go_at_call 24; (with_reducible refine hn.mono ?_); rintro e w' ⟨rfl, rfl⟩)
  go_ret
  exact ⟨rfl, rfl⟩
def ends : List Int := [-9223372036854775808, -1, 0, 1, 4, 5, 65534, 65535, 65536, 9223372036854775807]
def EndsAt (w : World) (b : Nat) : Prop := ∀ i : Nat, i < 10 → w.cell? ⟨b, i, none⟩ = some (.int .i64 (ends.getD i 0))
theorem EndsAt.below {w w' : World} {b : Nat} (h : EndsAt w b) (hb : Below w.heap.size w w') : EndsAt w' b := fun i hi => pw_cell_below hb (h i hi)
theorem EndsAt.lt {w : World} {b : Nat} (h : EndsAt w b) : b < w.heap.size := World.block_lt_of_cell? w _ (h 0 (by decide))
theorem EndsAt.grown {wr w1 : World} {ad : Nat} {v : Option Nat} (h : EndsAt wr ad) (hg : wr.grownBy w1 v) (hne : some ad ≠ v) : EndsAt w1 ad := fun i hi => (hg.cell_far ⟨ad, i, none⟩ (World.block_lt_of_cell? _ _ (h i hi)) hne).trans (h i hi)
def endsCells : Array Value := #[.int .i64 (-9223372036854775808), .int .i64 (-1), .int .i64 0, .int .i64 1, .int .i64 4, .int .i64 5, .int .i64 65534, .int .i64 65535, .int .i64 65536, .int .i64 9223372036854775807]
theorem ends_new (W : World) : EndsAt (W.alloc (.cells endsCells 3)) W.heap.size := by
  intro i hi
  rw [blk_cell (heap_alloc_new W (.cells endsCells 3))]
  have hs : i = 0 ∨ i = 1 ∨ i = 2 ∨ i = 3 ∨ i = 4 ∨ i = 5 ∨ i = 6 ∨ i = 7 ∨ i = 8 ∨ i = 9 := by omega
  rcases hs with rfl | rfl | rfl | rfl | rfl | rfl | rfl | rfl | rfl | rfl <;> rfl
/-- One byte, made just now. -/
theorem byte_R (W : World) (B s : Nat) (x : Int) (hb : W.heap[s]? = some (.cells #[.int .u8 x] 5 (0, 0))) (hB : B ≤ s) (ok : Nat → Prop) (hok : ok s) : (Kd.int .u8).R 5 W B ok (.slice (some ⟨s, 0, none⟩) 1 1) [x] := by
  refine ⟨fun k hk => ?_, [.int .u8 x], ?_, (Reps.none _ _).snoc (p := x) (c := [.int .u8 x]) rfl rfl⟩
  · have : k = s := by simpa [Value.ownBlock] using hk.symm
    rw [this]; exact hok
  · exact ⟨rfl, .inr ⟨s, 1, #[.int .u8 x], rfl, hB, hb, by simp, by simp [maxLen], rfl, rfl⟩⟩
theorem infoDo : (Try.prog.info? 48).map (fun i => (i.zero, i.size, i.bytes)) = some (some (.agg #[.int .i64 0, .int .i64 0, .slice none 0 0]), 3, 40) := by kernel_rfl
/-- A row of calls, out of its block's cells. -/
theorem dos_M (W : World) (B b : Nat) (okp : Nat → Prop) (xs : List Do) (cells : Array Value) (hb : W.heap[b]? = some (.cells cells 48 (0, 0))) (hl : xs.length ≤ maxLen)
    (h : ∀ j p, xs[j]? = some p → ∃ v, cells[j * 3]? = some (.int .i64 p.1) ∧ cells[j * 3 + 1]? = some (.int .i64 p.2.1) ∧ cells[j * 3 + 2]? = some v ∧ (Kd.int .u8).R 5 W B okp v p.2.2) :
    ReadsRow (doK.M W B okp) doK.sz W (some ⟨b, 0, none⟩) xs.length xs := by
  refine ⟨rfl, hl, fun _ => ⟨_, rfl, fun j p hj => ?_⟩⟩
  obtain ⟨v, h0, h1, h2, hR⟩ := h j p hj
  have hsz : doK.sz = 3 := rfl
  refine ⟨[.int .i64 p.1, .int .i64 p.2.1, v], rfl, ⟨[.int .i64 p.1], _, rfl, rfl, [.int .i64 p.2.1], _, rfl, rfl, _, rfl, hR⟩, fun i u hu' => ?_⟩
  rw [add_plain, blk_cell hb, hsz]
  have hi : i = 0 ∨ i = 1 ∨ i = 2 := by
    have := (List.getElem?_eq_some_iff.1 hu').1; simp at this; omega
  rcases hi with rfl | rfl | rfl
  · obtain rfl : u = .int .i64 p.1 := by simpa using hu'.symm
    exact h0
  · obtain rfl : u = .int .i64 p.2.1 := by simpa using hu'.symm
    exact h1
  · obtain rfl : u = v := by simpa using hu'.symm
    exact h2
def lit5 (q x : Int) (s : Nat) : Array Value := #[.int .i64 0, .int .i64 0, .slice (some ⟨s, 0, none⟩) 1 1, .int .i64 1, .int .i64 0, .slice none 0 0, .int .i64 3, .int .i64 q, .slice none 0 0, .int .i64 2, .int .i64 0, .slice none 0 0, .int .i64 4, .int .i64 1, .slice none 0 0]
theorem five_new (wr : World) (B : Nat) (q x : Int) (hB : B ≤ wr.heap.size) :
    ReadsRow (doK.M ((wr.alloc (.cells #[.int .u8 x] 5)).alloc (.cells (lit5 q x wr.heap.size) 48)) B (fun j => j = wr.heap.size)) doK.sz ((wr.alloc (.cells #[.int .u8 x] 5)).alloc (.cells (lit5 q x wr.heap.size) 48)) (some ⟨wr.heap.size + 1, 0, none⟩) 5 [(0, 0, [x]), (1, 0, []), (3, q, []), (2, 0, []), (4, 1, [])] := by
  refine dos_M _ B (wr.heap.size + 1) _ [(0, 0, [x]), (1, 0, []), (3, q, []), (2, 0, []), (4, 1, [])] (lit5 q x wr.heap.size) ?_ (by simp [maxLen]) ?_
  · have h := heap_alloc_new (wr.alloc (.cells #[.int .u8 x] 5)) (.cells (lit5 q x wr.heap.size) 48)
    rwa [World.size_alloc] at h
  · intro j p hj
    have hj5 : j = 0 ∨ j = 1 ∨ j = 2 ∨ j = 3 ∨ j = 4 := by
      have := (List.getElem?_eq_some_iff.1 hj).1; simp at this; omega
    rcases hj5 with rfl | rfl | rfl | rfl | rfl
    · obtain rfl : p = (0, 0, [x]) := by simpa using hj.symm
      exact ⟨_, rfl, rfl, rfl, byte_R _ B wr.heap.size x (blk_alloc (heap_alloc_new wr _) _) hB _ rfl⟩
    · obtain rfl : p = (1, 0, []) := by simpa using hj.symm
      exact ⟨_, rfl, rfl, rfl, Kd.R_nil _ _ _ _ _⟩
    · obtain rfl : p = (3, q, []) := by simpa using hj.symm
      exact ⟨_, rfl, rfl, rfl, Kd.R_nil _ _ _ _ _⟩
    · obtain rfl : p = (2, 0, []) := by simpa using hj.symm
      exact ⟨_, rfl, rfl, rfl, Kd.R_nil _ _ _ _ _⟩
    · obtain rfl : p = (4, 1, []) := by simpa using hj.symm
      exact ⟨_, rfl, rfl, rfl, Kd.R_nil _ _ _ _ _⟩
theorem zeros_R (W : World) (B m : Nat) (hB : B ≤ W.heap.size) (hm : m ≤ 1000) (ok : Nat → Prop) (hok : ok W.heap.size) : (Kd.int .u8).R 5 (W.alloc (.cells (madeCells #[.int .u8 0] m) 5)) B ok (.slice (some ⟨W.heap.size, 0, none⟩) m m) (List.replicate m 0) := by
  have h := own_made W B 5 .u8 m hB (by omega)
  refine Kd.R_of_own ?_ (fun k hk => ?_)
  · rw [List.length_replicate]; exact h
  · have : k = W.heap.size := by simpa [Value.ownBlock] using hk.symm
    rw [this]; exact hok
def lit6 (v v' : Value) : Array Value := #[.int .i64 0, .int .i64 0, v, .int .i64 0, .int .i64 0, v', .int .i64 0, .int .i64 0, .slice none 0 0, .int .i64 1, .int .i64 0, .slice none 0 0, .int .i64 4, .int .i64 5, .slice none 0 0, .int .i64 4, .int .i64 3, .slice none 0 0]
def six (z z' : List Int) : List Do := [(0, 0, z), (0, 0, z'), (0, 0, []), (1, 0, []), (4, 5, []), (4, 3, [])]
theorem six_M (W : World) (B b : Nat) (okp : Nat → Prop) (v v' : Value) (z z' : List Int) (hv : (Kd.int .u8).R 5 W B okp v z) (hv' : (Kd.int .u8).R 5 W B okp v' z') (hb : W.heap[b]? = some (.cells (lit6 v v') 48 (0, 0))) :
    ReadsRow (doK.M W B okp) doK.sz W (some ⟨b, 0, none⟩) 6 (six z z') := by
  refine dos_M W B b okp (six z z') (lit6 v v') hb (by simp [maxLen, six]) ?_
  intro j p hj
  have hj6 : j = 0 ∨ j = 1 ∨ j = 2 ∨ j = 3 ∨ j = 4 ∨ j = 5 := by
    have := (List.getElem?_eq_some_iff.1 hj).1; simp [six] at this; omega
  rcases hj6 with rfl | rfl | rfl | rfl | rfl | rfl
  · cases hj; exact ⟨_, rfl, rfl, rfl, hv⟩
  · cases hj; exact ⟨_, rfl, rfl, rfl, hv'⟩
  · cases hj; exact ⟨_, rfl, rfl, rfl, Kd.R_nil _ _ _ _ _⟩
  · cases hj; exact ⟨_, rfl, rfl, rfl, Kd.R_nil _ _ _ _ _⟩
  · cases hj; exact ⟨_, rfl, rfl, rfl, Kd.R_nil _ _ _ _ _⟩
  · cases hj; exact ⟨_, rfl, rfl, rfl, Kd.R_nil _ _ _ _ _⟩
theorem six_a (wr : World) (B : Nat) (Z1 Z2 : Array Value) (z1 z2 : List Int) (hB : B ≤ wr.heap.size)
    (h1 : ∀ X : World, B ≤ X.heap.size → ∀ ok : Nat → Prop, ok X.heap.size → (Kd.int .u8).R 5 (X.alloc (.cells Z1 5)) B ok (.slice (some ⟨X.heap.size, 0, none⟩) 256 256) z1)
    (h2 : ∀ X : World, B ≤ X.heap.size → ∀ ok : Nat → Prop, ok X.heap.size → (Kd.int .u8).R 5 (X.alloc (.cells Z2 5)) B ok (.slice (some ⟨X.heap.size, 0, none⟩) 257 257) z2) :
    ReadsRow (doK.M (((wr.alloc (.cells Z1 5)).alloc (.cells Z2 5)).alloc (.cells (lit6 (.slice (some ⟨wr.heap.size, 0, none⟩) 256 256) (.slice (some ⟨wr.heap.size + 1, 0, none⟩) 257 257)) 48)).drew B (fun j => wr.heap.size ≤ j)) doK.sz (((wr.alloc (.cells Z1 5)).alloc (.cells Z2 5)).alloc (.cells (lit6 (.slice (some ⟨wr.heap.size, 0, none⟩) 256 256) (.slice (some ⟨wr.heap.size + 1, 0, none⟩) 257 257)) 48)).drew (some ⟨wr.heap.size + 1 + 1, 0, none⟩) 6 (six z1 z2) := by
  have k1 := h1 wr hB (fun j => wr.heap.size ≤ j) (Nat.le_refl _)
  have k2 := h2 (wr.alloc (.cells Z1 5)) (by simp; omega) (fun j => wr.heap.size ≤ j) (by simp)
  have k3 := heap_alloc_new ((wr.alloc (.cells Z1 5)).alloc (.cells Z2 5)) (.cells (lit6 (.slice (some ⟨wr.heap.size, 0, none⟩) 256 256) (.slice (some ⟨wr.heap.size + 1, 0, none⟩) 257 257)) 48)
  rw [World.size_alloc] at k2
  rw [World.size_alloc, World.size_alloc] at k3
  exact six_M _ B _ _ _ _ z1 z2 (Kd.R_drew (Kd.R_alloc (Kd.R_alloc k1 _) _)) (Kd.R_drew (Kd.R_alloc k2 _)) k3
theorem six_b (wr : World) (B : Nat) (Z1 Z2 : Array Value) (z1 z2 : List Int) (hB : B ≤ wr.heap.size)
    (h1 : ∀ X : World, B ≤ X.heap.size → ∀ ok : Nat → Prop, ok X.heap.size → (Kd.int .u8).R 5 (X.alloc (.cells Z1 5)) B ok (.slice (some ⟨X.heap.size, 0, none⟩) 256 256) z1)
    (h2 : ∀ X : World, B ≤ X.heap.size → ∀ ok : Nat → Prop, ok X.heap.size → (Kd.int .u8).R 5 (X.alloc (.cells Z2 5)) B ok (.slice (some ⟨X.heap.size, 0, none⟩) 257 257) z2) :
    ReadsRow (doK.M (((wr.alloc (.cells Z2 5)).alloc (.cells Z1 5)).alloc (.cells (lit6 (.slice (some ⟨wr.heap.size + 1, 0, none⟩) 256 256) (.slice (some ⟨wr.heap.size, 0, none⟩) 257 257)) 48)).drew B (fun j => wr.heap.size ≤ j)) doK.sz (((wr.alloc (.cells Z2 5)).alloc (.cells Z1 5)).alloc (.cells (lit6 (.slice (some ⟨wr.heap.size + 1, 0, none⟩) 256 256) (.slice (some ⟨wr.heap.size, 0, none⟩) 257 257)) 48)).drew (some ⟨wr.heap.size + 1 + 1, 0, none⟩) 6 (six z1 z2) := by
  have k1 := h2 wr hB (fun j => wr.heap.size ≤ j) (Nat.le_refl _)
  have k2 := h1 (wr.alloc (.cells Z2 5)) (by simp; omega) (fun j => wr.heap.size ≤ j) (by simp)
  have k3 := heap_alloc_new ((wr.alloc (.cells Z2 5)).alloc (.cells Z1 5)) (.cells (lit6 (.slice (some ⟨wr.heap.size + 1, 0, none⟩) 256 256) (.slice (some ⟨wr.heap.size, 0, none⟩) 257 257)) 48)
  rw [World.size_alloc] at k2
  rw [World.size_alloc, World.size_alloc] at k3
  exact six_M _ B _ _ _ _ z1 z2 (Kd.R_drew (Kd.R_alloc k2 _)) (Kd.R_drew (Kd.R_alloc (Kd.R_alloc k1 _) _)) k3
theorem below3 {B : Nat} {w wr : World} (h : Below B w wr) (hS : B ≤ wr.heap.size) (o1 o2 o3 : Obj) : Below B w (((wr.alloc o1).alloc o2).alloc o3).drew :=
  below_drew1 (((h.alloc hS o1).alloc (by simp; omega) o2).alloc (by simp; omega) o3)
theorem below2 {B : Nat} {w wr : World} (h : Below B w wr) (hS : B ≤ wr.heap.size) (o1 o2 : Obj) : Below B w ((wr.alloc o1).alloc o2) :=
  (h.alloc hS o1).alloc (by simp; omega) o2
theorem next {B : Nat} {w wr w1 : World} (h : Below B w wr) (hB : B ≤ wr.heap.size) (hb : Below wr.heap.size wr w1) : Below B w w1 := h.trans (hb.mono hB)
set_option maxHeartbeats 4000000 in
set_option maxRecDepth 100000 in
theorem known_c (w : World) : Calls Try.prog 4 #[] w fun e w' => e = .returned (.bool true) ∧ Below w.heap.size w w' := by
  have hu48 := Try.underlying48
  have hu45 := Try.underlying45
  go_enter Try.func4, Try.ntmps4
  go_wp2_with fail
  go_loopw [1, 2] (fun v1 v2 wr => ∃ (i : Nat) (p : Option Addr), i ≤ 2 ∧ v1 = .pointer p ∧ v2 = .int .i64 (i : Int) ∧ Bx (NoneI wr p) ∧ Bx (Below w.heap.size w wr)) (fun _ v _ => 2 - (intOf v).toNat)
  case atStart => exact ⟨0, none, by omega, rfl, rfl, ⟨.inl rfl⟩, ⟨Below.refl _ _⟩⟩
  case round =>
    obtain ⟨i, p, hi, rfl, rfl, HN, HB⟩ := hrel
    by_cases h : i < 2
    · go_wp2_with (first | (go_at_call 13; (with_reducible refine (heard_nil _ _ _ HN.out).mono ?_); rintro e w' ⟨rfl, rfl⟩) | (go_at_call 10; (with_reducible refine (put_nil _ _ _ _ _ HN.out).mono ?_); rintro e w' ⟨rfl, rfl⟩) | (go_at_call 11; (with_reducible refine (fresh_nil _ _ HN.out).mono ?_); rintro e w' ⟨rfl, rfl⟩) | (go_at_call 14; (with_reducible refine (again_nil _ _ HN.out).mono ?_); rintro e w' ⟨rfl, rfl⟩) | (go_at_call 15; (with_reducible refine (left_nil _ _ HN.out).mono ?_); rintro e w' ⟨rfl, rfl⟩) | (go_at_call 16; (with_reducible refine (said_nil _ _ HN.out).mono ?_); rintro e w' ⟨rfl, rfl⟩) | (go_at_call 17; (with_reducible refine (next_nil _ _ HN.out).mono ?_); rintro e w' ⟨rfl, rfl⟩))
      go_roundw
      case rel => exact ⟨i + 1, _, by omega, rfl, by simp, ⟨newNoneI _⟩, ⟨HB.out.alloc HB.out.size _⟩⟩
      case measure => simp [intOf]; omega
    · obtain ⟨wo, rfl⟩ : ∃ wo : World, wo = wr := ⟨_, rfl⟩
      go_wp2_with fail
      clear HN h hi
      have hE := ends_new wo
      have HB0 := Bx.mk (HB.out.alloc HB.out.size (.cells endsCells 3))
      unfold endsCells at hE HB0
      generalize (wo.alloc (.cells #[.int .i64 (-9223372036854775808), .int .i64 (-1), .int .i64 0, .int .i64 1, .int .i64 4, .int .i64 5, .int .i64 65534, .int .i64 65535, .int .i64 65536, .int .i64 9223372036854775807] 3)) = W0 at *
      generalize wo.heap.size = ad at *
      have HE := Bx.mk hE
      clear hE HB
      go_loopw [6, 7] (fun v6 v7 wr => ∃ (k : Nat) (xs : List Do), k ≤ 10 ∧ v7 = .int .i64 (k : Int) ∧ Bx (xs.length = 5 * k) ∧ Bx (doK.R 48 wr w.heap.size (fun j => j ≠ ad) v6 xs) ∧ Bx (Below w.heap.size w wr) ∧ Bx (EndsAt wr ad)) (fun _ v _ => 10 - (intOf v).toNat)
      case atStart => exact ⟨0, [], by omega, rfl, ⟨rfl⟩, ⟨Kd.R_nil _ _ _ _ _⟩, HB0, HE⟩
      case round =>
        clear HB0 HE
        obtain ⟨k, xs, hk, rfl, HX, HR, HB, HE⟩ := hrel
        obtain ⟨A6, c6, rfl, hc6, hC6⟩ := Kd.R_reads HR.out
        have HC6 := Bx.mk hC6
        clear hC6
        have k0 : (0 : Int) ≤ (k : Int) := by omega
        by_cases hk2 : k < 10
        · have k1 : (k : Int) < 10 := by omega
          have hce := HE.out k hk2
          generalize ends.getD k 0 = q at hce
          have hce2 : ∀ o, (wr.alloc o).cell? ⟨ad, k, none⟩ = some (.int .i64 q) := fun o => pw_cell_below (below_alloc (Below.refl _ wr) o) hce
          have hkx := HX.out
          have HRL := Bx.mk (And.intro (Kd.R_lt HR.out) (And.intro (show ∀ e, (Value.slice A6 xs.length c6).ownBlock = some e → e ≠ ad from fun e he => HR.out.1 e he) HE.out.lt))
          go_wp2_with (at_builtin; (refine Kd.R_append_rows doK (w0 := w) w.heap.size rfl (.tmp 54) (.tmp 67) 46 48 (.agg #[.int .i64 0, .int .i64 0, .slice none 0 0]) 40 rfl Try.underlying46 infoDo rfl (by decide) (by omega) (.slice A6 xs.length c6) xs [(0, 0, [(k : Int)]), (1, 0, []), (3, q, []), (2, 0, []), (4, 1, [])] _ _ _ (fun j => j ≠ ad) (fun j => j = wr.heap.size) rfl rfl ?aO ?aR (fun _ _ h => h) ?aH ?aF ?aB ?aS ?aL ?_; (case aO => exact Kd.R_alloc (Kd.R_alloc HR.out _) _); (case aR => exact five_new wr _ q k HB.out.size); (case aH => exact fun j hj => (by have h1 := HRL.out.2.2; refine ⟨by omega, fun e => ?_⟩; have h2 := HRL.out.1 j e.symm; omega)); (case aF => exact fun j hj => Nat.ne_of_gt (Nat.lt_of_lt_of_le HRL.out.2.2 (Nat.le_trans (below2 (Below.refl _ wr) (Nat.le_refl _) _ _).size hj))); (case aB => exact below2 HB.out HB.out.size _ _); (case aS => exact Nat.le_trans HB.out.size (below2 (Below.refl _ wr) (Nat.le_refl _) _ _).size); (case aL => omega); intro v1 w1 ho hb hg hat; have n0 := Bx.mk ho; have n1 := Bx.mk hb; have n3 := Bx.mk (EndsAt.grown (HE.out.below (below2 (Below.refl _ wr) (Nat.le_refl _) _ _)) hg (fun e => HRL.out.2.1 ad e.symm rfl)); clear ho hb hg hat))
          go_roundw
          case rel => exact ⟨k + 1, _, by omega, by simp, ⟨by simp; omega⟩, n0, n1, n3⟩
          case measure => simp [intOf]; omega
        · obtain rfl : k = 10 := by omega
          obtain ⟨wo2, rfl⟩ : ∃ wo2 : World, wo2 = wr := ⟨_, rfl⟩
          have hz1 : ∀ X : World, (Instr.makeSlice 31 (.int .i64 256) (.int .i64 256)).run Try.prog X = .ok (.slice (some ⟨X.heap.size, 0, none⟩) 256 256) (X.alloc (.cells (madeCells #[.int .u8 0] 256) 5)) := print_make 31 5 .u8 1 Try.underlying31 infoB (by decide) 256 (by decide)
          have hz2 : ∀ X : World, (Instr.makeSlice 31 (.int .i64 257) (.int .i64 257)).run Try.prog X = .ok (.slice (some ⟨X.heap.size, 0, none⟩) 257 257) (X.alloc (.cells (madeCells #[.int .u8 0] 257) 5)) := print_make 31 5 .u8 1 Try.underlying31 infoB (by decide) 257 (by decide)
          have hZ1 : Bx (∃ z1, ∀ X : World, w.heap.size ≤ X.heap.size → ∀ ok : Nat → Prop, ok X.heap.size → (Kd.int .u8).R 5 (X.alloc (.cells (madeCells #[.int .u8 0] 256) 5)) w.heap.size ok (.slice (some ⟨X.heap.size, 0, none⟩) 256 256) z1) := ⟨_, fun X h ok k => zeros_R X w.heap.size 256 h (by decide) ok k⟩
          have hZ2 : Bx (∃ z2, ∀ X : World, w.heap.size ≤ X.heap.size → ∀ ok : Nat → Prop, ok X.heap.size → (Kd.int .u8).R 5 (X.alloc (.cells (madeCells #[.int .u8 0] 257) 5)) w.heap.size ok (.slice (some ⟨X.heap.size, 0, none⟩) 257 257) z2) := ⟨_, fun X h ok k => zeros_R X w.heap.size 257 h (by decide) ok k⟩
          generalize madeCells #[.int .u8 0] 256 = Z1 at hz1 hZ1
          generalize madeCells #[.int .u8 0] 257 = Z2 at hz2 hZ2
          obtain ⟨z1, hy1⟩ := hZ1.out
          obtain ⟨z2, hy2⟩ := hZ2.out
          have Y1 := Bx.mk hy1
          have Y2 := Bx.mk hy2
          have HRL := Bx.mk (And.intro (Kd.R_lt HR.out) (And.intro (show ∀ e, (Value.slice A6 xs.length c6).ownBlock = some e → e ≠ ad from fun e he => HR.out.1 e he) HE.out.lt))
          clear hZ1 hZ2 hy1 hy2 HC6
          go_wp2_with fail
          go_region_held3 (fun _ => True) (first | exact trivial | go_keep) (first | ((refine Kd.R_append_rows_step doK (w0 := w) w.heap.size (by rfl) (.tmp 69) (.tmp 78) 46 48 (.agg #[.int .i64 0, .int .i64 0, .slice none 0 0]) 40 rfl Try.underlying46 infoDo rfl (by decide) (by omega) (.slice A6 xs.length c6) xs (six z1 z2) _ _ _ (fun j => j ≠ ad) (fun j => wo2.heap.size ≤ j) rfl rfl ?aO ?aR (fun _ _ h => h) ?aH ?aF ?aB ?aS ?aL ?_); (case aO => exact Kd.R_drew (Kd.R_alloc (Kd.R_alloc (Kd.R_alloc HR.out _) _) _)); (case aR => first | exact six_a wo2 w.heap.size Z1 Z2 z1 z2 HB.out.size Y1.out Y2.out | exact six_b wo2 w.heap.size Z1 Z2 z1 z2 HB.out.size Y1.out Y2.out); (case aH => exact fun j hj => (by have h1 := HRL.out.2.2; refine ⟨by omega, fun e => ?_⟩; have h2 := HRL.out.1 j e.symm; omega)); (case aF => exact fun j hj => Nat.ne_of_gt (Nat.lt_of_lt_of_le HRL.out.2.2 (Nat.le_trans (below3 (Below.refl _ wo2) (Nat.le_refl _) _ _ _).size hj))); (case aB => exact below3 HB.out HB.out.size _ _ _); (case aS => exact Nat.le_trans HB.out.size (below3 (Below.refl _ wo2) (Nat.le_refl _) _ _ _).size); (case aL => have := HX.out; omega); intro v1 w1 ho hb hg hat; have n0 := Bx.mk ho; have n1 := Bx.mk hb; have n3 := Bx.mk (EndsAt.grown (HE.out.below (below3 (Below.refl _ wo2) (Nat.le_refl _) _ _ _)) hg (fun e => HRL.out.2.1 ad e.symm rfl)); clear ho hb hg hat))
          all_goals
            obtain ⟨A7, c7, rfl, hc7, hC7⟩ := Kd.R_reads n0.out
            have m0 := Bx.mk hC7
            clear hC7 n0 HR HB HE HX Y1 Y2 hz1 hz2 HRL
            obtain ⟨ys, hys⟩ : ∃ ys, ys = xs ++ six z1 z2 := ⟨_, rfl⟩
            rw [← hys] at m0 hc7
            rw [← hys]
            clear hys
            go_wp2_with fail
            go_loopw [8] (fun v wr => ∃ i : Nat, i ≤ 10 ∧ v = .int .i64 (i : Int) ∧ Bx (Below w.heap.size w wr) ∧ Bx (EndsAt wr ad) ∧ Bx (doK.C wr A7 ys.length ys)) (fun v _ => 10 - (intOf v).toNat)
            case atStart => exact ⟨0, by omega, rfl, n1, n3, m0⟩
            case round =>
              clear n1 n3 m0
              obtain ⟨i, hi, rfl, HB, HE, HC⟩ := hrel
              have i0 : (0 : Int) ≤ (i : Int) := by omega
              by_cases h : i < 10
              · have i1 : (i : Int) < 10 := by omega
                obtain ⟨wo3, rfl⟩ : ∃ wo3 : World, wo3 = wr := ⟨_, rfl⟩
                go_wp2_with fail
                go_loopw [9] (fun v wr => ∃ k : Nat, k ≤ 10 ∧ v = .int .i64 (k : Int) ∧ Bx (Below w.heap.size w wr) ∧ Bx (EndsAt wr ad) ∧ Bx (doK.C wr A7 ys.length ys)) (fun v _ => 10 - (intOf v).toNat)
                case atStart => exact ⟨0, by omega, rfl, HB, HE, HC⟩
                case round =>
                  clear HB HE HC
                  obtain ⟨k, hk, rfl, HB, HE, HC⟩ := hrel
                  have k0 : (0 : Int) ≤ (k : Int) := by omega
                  by_cases hk2 : k < 10
                  · have k1 : (k : Int) < 10 := by omega
                    have hce1 := HE.out i h
                    have hce2 := HE.out k hk2
                    generalize ends.getD i 0 = q1 at hce1
                    generalize ends.getD k 0 = q2 at hce2
                    go_wp2_with fail
                    go_region_held3 (fun w' => w'.cell? ⟨ad, i, none⟩ = some (.int .i64 q1) ∧ w'.cell? ⟨ad, k, none⟩ = some (.int .i64 q2)) (first | exact ⟨hce1, hce2⟩ | go_keep) (first | (go_at_call 6; (with_reducible refine (plays_c _ _ A7 ys.length c7 ys _ ?hD rfl hc7).mono ?_); (case hD => first | exact HC.out | exact Kd.C_drewN HC.out _ | exact Kd.C_drewN (Kd.C_drew HC.out) _); rintro e w5 ⟨rfl, hb⟩; have l0 := Bx.mk (next HB.out HB.out.size ⟨hb.os, hb.tape, hb.output, hb.size, hb.block⟩); have l1 := Bx.mk (HE.out.below ⟨hb.os, hb.tape, hb.output, hb.size, hb.block⟩); have l2 := Bx.mk (Kd.C_below HC.out ⟨hb.os, hb.tape, hb.output, hb.size, hb.block⟩); have l3 := pw_cell_below hb hce1; have l4 := pw_cell_below hb hce2; clear hb HB HE HC hce1 hce2; have HB := l0; have HE := l1; have HC := l2; have hce1 := l3; have hce2 := l4; clear l0 l1 l2 l3 l4))
                    clear hce1 hce2
                    go_wp2_with fail
                    go_roundw
                    case rel => exact ⟨k + 1, by omega, by simp, HB, HE, HC⟩
                    case measure => simp [intOf]; omega
                  · obtain rfl : k = 10 := by omega
                    go_wp2_with fail
                    go_roundw
                    case rel => exact ⟨i + 1, by omega, by simp, HB, HE, HC⟩
                    case measure => simp [intOf]; omega
              · obtain rfl : i = 10 := by omega
                go_wp2_with (go_at_call 7; (with_reducible refine (works_c _).mono ?_); rintro e w5 ⟨rfl, hb⟩; have l0 := Bx.mk (next HB.out HB.out.size hb); clear hb)
                go_ret
                exact ⟨rfl, l0.out⟩
end Go.Proofs.Ytbglagllgppggaa.Base
