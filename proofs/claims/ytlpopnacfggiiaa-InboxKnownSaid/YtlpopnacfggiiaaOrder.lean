/- Layer 14: InboxOrder's walk. -/
import Derived.Test.YtlpopnacfggiiaaInt
import Derived.Test.YtlpopnacfggiiaaWorks
import Derived.ProofKit
set_option linter.unusedVariables false
set_option linter.unusedSimpArgs false
namespace Go.Proofs.Ytlpopnacfggiiaa.Order
open Go.ChangeShapes Go.WideShapes Go.ChangeAt Go.RowKit Go.Deep Go.Proofs.Ytlpopnacfggiiaa.Base Go.Proofs.Ytlpopnacfggiiaa.Int Go.Proofs.YtlpopnacfggiiaaW.PrintWords Go.Proofs.YtlpopnacfggiiaaW.PrintLast Go.Proofs.YtlpopnacfggiiaaW.PrintMore

theorem intCell {w : World} {A : Option Addr} {xs : List Int} (h : (Kd.int .i64).C w A xs.length xs) (i : Nat) (hi : i < xs.length) : ∃ ad, A = some ad ∧ w.cell? (ad.add i) = some (.int .i64 xs[i]) := by
  obtain ⟨ad, c, rfl, hcl, hk, hcc⟩ := Kd.C_get h 0 (i : Int) (by omega) (by omega)
  have hk' : c = [Value.int .i64 (xs.getD i 0)] := by simpa [Kd.int, Kd.scalar] using hk
  subst hk'
  refine ⟨ad, rfl, ?_⟩
  have := hcc 0 _ rfl
  simpa [Kd.int, Kd.scalar, hi] using this
theorem open_ints41 {H : Type} {enc : TypeId × Value → H} {W : World} {a : Option Addr} {n c : Nat} {d : DataW H} {p : List MemPlace} (h : DataW.Trod enc Try.prog W 0 (fun _ => true) true 41 (.slice a n c) d p) :
    ∃ zs : List Int, (Kd.int .i64).C W a zs.length zs ∧ zs.length = n ∧ n ≤ c := by
  obtain ⟨fuel, hf⟩ := h
  rcases open_ints Try.underlying41 Try.underlying3 (by kernel_rfl) hf with ⟨hcs, _⟩ | ⟨x, l, c', zs, hcs, _, hl, hm, hz, _, hcell, hwz⟩
  · simp [Value.cells] at hcs
    obtain ⟨rfl, rfl, rfl⟩ := hcs
    exact ⟨[], Kd.C_of_reads (d := (0 : Int)) (h1 := fun _ => rfl) ⟨rfl, by simp, fun h => by simp at h⟩, rfl, by omega⟩
  · simp [Value.cells] at hcs
    obtain ⟨rfl, rfl, rfl⟩ := hcs
    have hzl : zs.length = c := by simpa using hz
    refine ⟨zs.take n, ?_, by rw [List.length_take]; omega, hl⟩
    refine Kd.C_of_reads (d := (0 : Int)) (h1 := fun _ => rfl) ⟨rfl, by rw [List.length_take]; unfold maxLen at hm; omega, fun _ => ⟨x, rfl, fun j hj => ?_⟩⟩
    have hj' : j < n ∧ j < zs.length := by rw [List.length_take] at hj; omega
    rw [hcell j hj'.2]
    congr 2
    simp [List.getD, hj'.1]

/-- Which of the next four were sent. -/
structure F4 where
  a : Bool
  b : Bool
  c : Bool
  d : Bool
def mk (t : Int) (h : Bool) (j : Int) : Option Int := if h then some (t + j) else none
def keptOf (t : Int) (f : F4) : List (Option Int) := [mk t f.a 0, mk t f.b 1, mk t f.c 2, mk t f.d 3]
def shift (f : F4) : F4 := ⟨f.b, f.c, f.d, false⟩
def ld (f : F4) : Nat := if f.a then (if f.b then (if f.c then (if f.d then 4 else 3) else 2) else 1) else 0
def aft (f : F4) : F4 := if f.a then (if f.b then (if f.c then (if f.d then ⟨false, false, false, false⟩ else ⟨false, false, false, false⟩) else ⟨false, f.d, false, false⟩) else ⟨false, f.c, f.d, false⟩) else f
def setF (f : F4) (n : Nat) : F4 := ⟨f.a || n == 0, f.b || n == 1, f.c || n == 2, f.d || n == 3⟩
theorem ld_le (f : F4) : ld f ≤ 4 := by unfold ld; split <;> (try split) <;> (try split) <;> (try split) <;> omega
theorem ld_shift {f : F4} (h : f.a = true) : ld f = ld (shift f) + 1 := by
  obtain ⟨a, b, c, d⟩ := f; cases h; cases b <;> cases c <;> cases d <;> rfl
theorem aft_shift {f : F4} (h : f.a = true) : aft f = aft (shift f) := by
  obtain ⟨a, b, c, d⟩ := f; cases h; cases b <;> cases c <;> cases d <;> rfl
theorem ld_no {f : F4} (h : f.a = false) : ld f = 0 ∧ aft f = f := by
  obtain ⟨a, b, c, d⟩ := f; cases h; exact ⟨rfl, rfl⟩
theorem lead_kept (t : Int) (f : F4) : lead (keptOf t f) = ld f := by
  obtain ⟨a, b, c, d⟩ := f; cases a <;> cases b <;> cases c <;> cases d <;> rfl
theorem told_kept (t : Int) (f : F4) (k : Nat) (hk : k < ld f) : (told (keptOf t f)).getD k 0 = t + k := by
  obtain ⟨a, b, c, d⟩ := f
  have h4 := ld_le ⟨a, b, c, d⟩
  have hs : k = 0 ∨ k = 1 ∨ k = 2 ∨ k = 3 := by omega
  cases a <;> cases b <;> cases c <;> cases d <;> rcases hs with rfl | rfl | rfl | rfl <;> first | rfl | exact absurd hk (by decide)
theorem rest_kept (t : Int) (f : F4) : rest (keptOf t f) = keptOf (t + ld f) (aft f) := by
  obtain ⟨a, b, c, d⟩ := f
  cases a <;> cases b <;> cases c <;> cases d <;> simp [rest, lead, keptOf, mk, ld, aft, List.takeWhile_cons] <;> omega
theorem came_kept (t : Int) (f : F4) (n : Nat) (hn : n < 4) : came (keptOf t f) n (t + n) = keptOf t (setF f n) := by
  obtain ⟨a, b, c, d⟩ := f
  have hs : n = 0 ∨ n = 1 ∨ n = 2 ∨ n = 3 := by omega
  rcases hs with rfl | rfl | rfl | rfl <;> cases a <;> cases b <;> cases c <;> cases d <;> simp [came, keptOf, mk, setF]
def flags (f : F4) : Array Value := #[.bool f.a, .bool f.b, .bool f.c, .bool f.d]

theorem flags_size (f : F4) : (flags f).size = 4 := rfl
theorem R_low {w w' : World} {B q : Nat} {v : Value} {xs : List Int} (h : (Kd.int .i64).R 3 w B (fun _ => True) v xs) (o : Two q q w w') (hq : q < B) : (Kd.int .i64).R 3 w' B (fun _ => True) v xs := R_two h o hq hq
theorem IA.two {w w' : World} {g b q : Nat} {nx : Int} {a : List (Option Int)} (h : Is w g b nx a) (o : Two q q w w') (hg : g ≠ q) (hb : b ≠ q) : Is w' g b nx a :=
  ⟨(o.block g (Array.getElem?_eq_some_iff.1 h.hg).1 hg hg).trans h.hg, h.hm.kept (o.block b h.hm.lt hb hb), h.h0, h.h1, h.hl⟩
theorem w64 {n : Int} (h : -9223372036854775808 ≤ n ∧ n ≤ 9223372036854775807) : wrap64 n = n := by
  unfold wrap64; omega
theorem retInt {k : IntKind} {a b : Int} (h : a = b) : Ending.returned (.int k a) = .returned (.int k b) := by rw [h]
theorem tmodNeg (a m : Int) (hm : 0 < m) (h : Int.tmod a m < 0) : Int.tmod a m + m = a % m := by
  have hmo := Int.tmod_eq_emod (a := a) (b := m)
  have e0 := Int.emod_nonneg a (b := m) (by omega)
  by_cases h : 0 ≤ a ∨ m ∣ a
  · rw [if_pos h] at hmo; omega
  · rw [if_neg h] at hmo
    have hn : ((m.natAbs : Nat) : Int) = m := by omega
    omega
theorem tmodPos (a m : Int) (hm : 0 < m) (h : ¬ Int.tmod a m < 0) : Int.tmod a m = a % m := by
  have hmo := Int.tmod_eq_emod (a := a) (b := m)
  have e1 := Int.emod_lt_of_pos a (b := m) hm
  by_cases h : 0 ≤ a ∨ m ∣ a
  · rw [if_pos h] at hmo; omega
  · rw [if_neg h] at hmo
    have hn : ((m.natAbs : Nat) : Int) = m := by omega
    omega
set_option maxHeartbeats 400000 in
theorem bring_c (a m : Int) (w : World) (hm : 0 < m) (hm' : m ≤ 1099511627776) :
    Calls Try.prog 10 #[.int .i64 a, .int .i64 m] w fun e w' => e = .returned (.int .i64 (a % m)) ∧ w = w' := by
  have hz : (m == 0) = false := by rw [beq_eq_false_iff_ne]; omega
  have e0 := Int.emod_nonneg a (b := m) (by omega)
  have e1 := Int.emod_lt_of_pos a (b := m) hm
  by_cases h : Int.tmod a m < 0
  · have hd : decide (Int.tmod a m < 0) = true := decide_eq_true h
    have ht := Bx.mk (tmodNeg a m hm h)
    clear h
    go_enter Try.func10, Try.ntmps10
    go_wp2
    go_ret
    exact ⟨retInt (by rw [ht.out]; exact w64 (by omega)), rfl⟩
  · have hd : decide (Int.tmod a m < 0) = false := decide_eq_false h
    have ht := Bx.mk (tmodPos a m hm h)
    clear h
    go_enter Try.func10, Try.ntmps10
    go_wp2
    go_ret
    exact ⟨retInt ht.out, rfl⟩

set_option maxRecDepth 100000 in
set_option maxHeartbeats 4000000 in
theorem order_walk (first : Int) (A : Option Addr) (n c' : Nat) (zs : List Int) (w : World) (hZ : (Kd.int .i64).C w A zs.length zs) (hz : zs.length = n) (hnc : n ≤ c') : Calls Try.prog 4 #[.int .i64 first, .slice A n c'] w fun e w' => e = .returned (.bool true) ∧ Below w.heap.size w w' := by
  have HZ := Bx.mk hZ
  have HN := Bx.mk hz
  clear hZ hz
  have hu45 := Try.underlying45
  go_enter Try.func4, Try.ntmps4
  go_wp2_with fail
  refine (Str.works_c _).mono ?_
  rintro e w1 ⟨rfl, hb1⟩
  have HB1 := Bx.mk hb1
  clear hb1
  go_wp2_with fail
  refine (bring_c first 65536 _ (by decide) (by decide)).mono ?_
  rintro e _ ⟨rfl, rfl⟩
  have x0 := Int.emod_nonneg first (b := 65536) (by decide)
  have x1 : first % 65536 < 2 ^ 16 := Int.emod_lt_of_pos first (b := 65536) (by decide)
  generalize first % 65536 = base at *
  go_wp2_with fail
  refine (new_yes base _ x0 (by omega)).mono ?_
  rintro e w2 ⟨rfl, ha, hb⟩
  obtain ⟨g, hgg⟩ : ∃ g, g = w1.heap.size + 1 := ⟨_, rfl⟩
  obtain ⟨b, hbb⟩ : ∃ b, b = w1.heap.size := ⟨_, rfl⟩
  rw [← hgg, ← hbb] at ha
  rw [← hgg]
  have hs1 := HB1.out.size
  have HA2 := Bx.mk ha
  have HB2 := Bx.mk (HB1.out.trans (hb.mono HB1.out.size))
  have HGB := Bx.mk (show w.heap.size ≤ g ∧ w.heap.size ≤ b by omega)
  clear ha hb hgg hbb hs1 HB1
  go_wp2_with fail
  have hq0 := heap_alloc_new w2 (.cells #[.bool false, .bool false, .bool false, .bool false] 45)
  have hS2 := HB2.out.size
  have HA3 := Bx.mk (HA2.out.below ((Below.refl _ w2).alloc (Nat.le_refl _) (.cells #[.bool false, .bool false, .bool false, .bool false] 45)))
  have HB3 := Bx.mk (HB2.out.alloc HB2.out.size (.cells #[.bool false, .bool false, .bool false, .bool false] 45))
  have HL := Bx.mk (And.intro (Array.getElem?_eq_some_iff.1 HA2.out.hg).1 HA2.out.hm.lt)
  generalize w2.alloc (.cells #[.bool false, .bool false, .bool false, .bool false] 45) = W3 at *
  obtain ⟨q, hq⟩ : ∃ q, q = w2.heap.size := ⟨_, rfl⟩
  rw [← hq] at hq0 HL ⊢
  have HQ := Bx.mk (show w.heap.size ≤ q ∧ g ≠ q ∧ b ≠ q by have := HL.out.1; have := HL.out.2; omega)
  have HQ0 := Bx.mk hq0
  clear hq0 hq HA2 HB2 hS2 HL
  go_loopw [8, 10] (fun v8 v10 wr => ∃ (i t : Nat) (f : F4), i ≤ 300 ∧ i ≤ n ∧ t ≤ 4 * i ∧ v8 = .int .i64 (t : Int) ∧ v10 = .int .i64 (i : Int) ∧ Bx (f.a = false) ∧ Bx (wr.heap[q]? = some (.cells (flags f) 45 (0, 0))) ∧ Bx (Is wr g b ((base + t) % 65536) (keptOf t f)) ∧ Bx (Below w.heap.size w wr)) (fun _ v _ => 300 - (intOf v).toNat)
  case atStart => exact ⟨0, 0, ⟨false, false, false, false⟩, by omega, by omega, by omega, rfl, rfl, ⟨rfl⟩, HQ0, ⟨by
      have e : (base + ((0 : Nat) : Int)) % 65536 = base := by omega
      rw [e]; exact HA3.out⟩, HB3⟩
  case round =>
    clear HA3 HB3 HQ0
    obtain ⟨i, t, f, hi, hin, ht, rfl, rfl, HF, HC, HA, HB⟩ := hrel
    by_cases h : i < n
    · by_cases h2 : i < 300
      · have i0 : (0 : Int) ≤ (i : Int) := by omega
        have i1 : (i : Int) < (n : Int) := by omega
        have i2 : (i : Int) < 300 := by omega
        have hzl : i < zs.length := by have := HN.out; omega
        obtain ⟨ad, rfl, hce⟩ := intCell HZ.out i hzl
        have hcl := pw_cell_below HB.out hce
        clear hce
        generalize zs[i] = r at hcl
        clear hzl
        go_wp2_with fail
        refine (bring_c r 9 _ (by decide) (by decide)).mono ?_
        rintro e _ ⟨rfl, rfl⟩
        have r0 := Int.emod_nonneg r (b := 9) (by decide)
        have r1 := Int.emod_lt_of_pos r (b := 9) (by decide)
        generalize r % 9 = x at *
        clear hcl
        go_wp2_with fail
        obtain ⟨wo, rfl⟩ : ∃ wo : World, wo = wr := ⟨_, rfl⟩
        obtain rfl | rfl | rfl | rfl | hx : x = 3 ∨ x = 4 ∨ x = 5 ∨ x = 6 ∨ ¬ (3 ≤ x ∧ x < 7) := by omega
        · have ev : (t : Int) + (3 - 3) = t + (0 : Nat) := by omega
          refine (take_c g b ((base + t) % 65536) _ (keptOf t f) 0 _ _ HA.out (by omega) (by omega) (by omega) (by decide)).mono ?_
          rintro e w5 ⟨vv, rfl, hr, ha, ht5⟩
          rw [ev, came_kept t f 0 (by decide)] at hr ha
          rw [lead_kept, rest_kept] at ha
          have hq5 := (ht5.block q (Array.getElem?_eq_some_iff.1 HC.out).1 HQ.out.2.1.symm HQ.out.2.2.symm).trans HC.out
          have n1 := Bx.mk (ht5.below HB.out HB.out.size HGB.out.1 HGB.out.2)
          have n2 := Bx.mk ha
          have hys := told_kept t (setF f 0)
          have hyl : (told (keptOf t (setF f 0))).length = ld (setF f 0) := by rw [lead_told, lead_kept]
          generalize told (keptOf t (setF f 0)) = ys at *
          have HR := Bx.mk hr
          have HYS := Bx.mk hys
          have HQL := Bx.mk (show q < wo.heap.size from (Array.getElem?_eq_some_iff.1 HC.out).1)
          obtain ⟨A5, c5, rfl, hc5, _⟩ := Kd.R_reads hr
          have hF := HF.out
          obtain ⟨fa, fb, fc, fd⟩ := f
          obtain rfl : fa = false := hF
          have hq5' : w5.heap[q]? = some (.cells #[.bool false, .bool fb, .bool fc, .bool fd] 45 (0, 0)) := hq5
          have k0 := cell_of_row w5 q 0 _ 45 (0, 0) hq5'
          have z0 := frozen_of_row w5 q 0 _ _ hq5'
          have HQ5 := Bx.mk hq5'
          clear ha ht5 hr hq5 hq5' HA HB hys HF HC
          go_wp2_with fail
          have hq6 : (w5.setCell ⟨q, 0, none⟩ (.bool true)).heap[q]? = some (.cells (flags (setF ⟨false, fb, fc, fd⟩ 0)) 45 (0, 0)) := by
            have := blk_set HQ5.out 0 (.bool true)
            simpa [flags, setF] using this
          have ht6 := set_two w5 q q 0 (.bool true)
          generalize setF ⟨false, fb, fc, fd⟩ 0 = F at *
          generalize w5.setCell ⟨q, 0, none⟩ (.bool true) = w6 at *
          have HR6 := Bx.mk (R_low HR.out ht6 HQL.out)
          have N2 := Bx.mk (IA.two n2.out ht6 HQ.out.2.1 HQ.out.2.2)
          have N1 := Bx.mk (ht6.below n1.out n1.out.size HQ.out.1 HQ.out.1)
          have HQ6 := Bx.mk hq6
          have HYL := Bx.mk hyl
          clear ht6 hq6 n1 n2 HR HQ5 k0 z0 hyl
          have hl4 := ld_le F
          go_loopw [15] (fun v wr => ∃ (c : Nat) (f2 : F4), v = .int .i64 (c : Int) ∧ c ≤ 4 ∧ Bx (c + ld f2 = ld F) ∧ Bx (aft f2 = aft F) ∧ Bx (wr.heap[q]? = some (.cells (flags f2) 45 (0, 0))) ∧ Bx (Two q q w6 wr)) (fun v _ => 4 - (intOf v).toNat)
          case atStart => exact ⟨0, F, rfl, by omega, ⟨by simp⟩, ⟨rfl⟩, HQ6, ⟨Two.refl _ _ _⟩⟩
          case round =>
            obtain ⟨c, f2, rfl, hc4, HC, HAF, HQ7, HT7⟩ := hrel
            obtain ⟨fa, fb2, fc2, fd2⟩ := f2
            have hq7 : wr.heap[q]? = some (.cells #[.bool fa, .bool fb2, .bool fc2, .bool fd2] 45 (0, 0)) := HQ7.out
            have k0 := cell_of_row wr q 0 _ 45 (0, 0) hq7
            have k1 := cell_of_row wr q 1 _ 45 (0, 0) hq7
            have k2 := cell_of_row wr q 2 _ 45 (0, 0) hq7
            have k3 := cell_of_row wr q 3 _ 45 (0, 0) hq7
            have z0 := frozen_of_row wr q 0 _ _ hq7
            have z1 := frozen_of_row wr q 1 _ _ hq7
            have z2 := frozen_of_row wr q 2 _ _ hq7
            have z3 := frozen_of_row wr q 3 _ _ hq7
            clear hq7
            cases fa
            · obtain rfl : c = ld F := by have := HC.out; rw [(ld_no rfl).1] at this; omega
              have haf := HAF.out
              rw [(ld_no (f := ⟨false, fb2, fc2, fd2⟩) rfl).2] at haf
              have HR7 := Bx.mk (R_low HR6.out HT7.out HQL.out)
              have n2 := Bx.mk (IA.two N2.out HT7.out HQ.out.2.1 HQ.out.2.2)
              have n1 := Bx.mk (HT7.out.below N1.out N1.out.size HQ.out.1 HQ.out.1)
              rw [← haf] at n2
              obtain ⟨_, _, hA5, _, hC5⟩ := Kd.R_reads HR7.out
              injection hA5 with hA5 _ _
              rw [← hA5] at hC5
              have HC5 := Bx.mk hC5
              have HQ8 := Bx.mk HQ7.out
              have hyl := HYL.out
              clear HR6 N2 N1 HQ6 HC haf HAF HT7 hC5 hA5 z0 z1 z2 z3 k1 k2 k3
              go_wp2_with fail
              obtain ⟨w8, rfl⟩ : ∃ w8 : World, w8 = wr := ⟨_, rfl⟩
              clear k0 hyl
              go_loop [16] (fun v => ∃ k : Nat, v = .int .i64 (k : Int) ∧ k ≤ ld F) (fun v => ld F - (intOf v).toNat)
              case atStart => exact ⟨0, rfl, by omega⟩
              case round =>
                obtain ⟨k, rfl, hk⟩ := hrel
                have hyl := HYL.out
                by_cases hkF : k < ld F
                · obtain ⟨ad5, rfl, hce⟩ := intCell HC5.out k (by omega)
                  have hy := HYS.out k hkF
                  have hy' : ys[k]'(by omega) = (t : Int) + k := by rw [← hy]; simp [List.getD, show k < ys.length by omega]
                  rw [hy'] at hce
                  have k0 : (0 : Int) ≤ (k : Int) := by omega
                  have k1 : (k : Int) < (ld F : Int) := by omega
                  clear hy hy'
                  go_wp2_with fail
                  go_round
                  case rel => exact ⟨k + 1, by simp, by omega⟩
                  case measure => simp [intOf]; omega
                · have k1 : ¬ ((k : Int) < (ld F : Int)) := by omega
                  have e9 : ((base + (t : Int)) % 65536 + ((ld F : Nat) : Int)) % 65536 = (base + ((t : Int) + ((ld F : Nat) : Int))) % 65536 := by omega
                  rw [e9] at n2
                  have N9 := n2
                  clear e9 n2
                  go_wp2_with fail
                  refine (ack_c g b _ _ _ N9.out).mono ?_
                  rintro e _ ⟨rfl, rfl⟩
                  go_wp2_with fail
                  go_roundw
                  case rel =>
                    refine ⟨i + 1, t + ld F, ⟨false, fb2, fc2, fd2⟩, by omega, by omega, by omega, by simp, by simp, ⟨rfl⟩, HQ8, ⟨?_⟩, n1⟩
                    rw [Int.natCast_add]; exact N9.out
                  case measure => simp [intOf]; omega
            · have hcl : c + 1 + ld ⟨fb2, fc2, fd2, false⟩ = ld F := by
                have := HC.out
                rw [ld_shift (f := ⟨true, fb2, fc2, fd2⟩) rfl] at this
                simp only [shift] at this
                omega
              have haf : aft ⟨fb2, fc2, fd2, false⟩ = aft F := by rw [← HAF.out, aft_shift (f := ⟨true, fb2, fc2, fd2⟩) rfl]; rfl
              go_wp2_with fail
              go_roundw
              case rel =>
                refine ⟨c + 1, ⟨fb2, fc2, fd2, false⟩, by simp, by omega, ⟨hcl⟩, ⟨haf⟩, ⟨?_⟩, ⟨(((HT7.out.trans (set_two _ q q 0 _)).trans (set_two _ q q 1 _)).trans (set_two _ q q 2 _)).trans (set_two _ q q 3 _)⟩⟩
                have b0 := blk_set (show wr.heap[q]? = some (.cells #[.bool true, .bool fb2, .bool fc2, .bool fd2] 45 (0, 0)) from HQ7.out) 0 (.bool fb2)
                have b1 := blk_set b0 1 (.bool fc2)
                have b2 := blk_set b1 2 (.bool fd2)
                simpa [flags] using blk_set b2 3 (.bool false)
              case measure => simp [intOf]; omega
        · have ev : (t : Int) + (4 - 3) = t + (1 : Nat) := by omega
          refine (take_c g b ((base + t) % 65536) _ (keptOf t f) 1 _ _ HA.out (by omega) (by omega) (by omega) (by decide)).mono ?_
          rintro e w5 ⟨vv, rfl, hr, ha, ht5⟩
          rw [ev, came_kept t f 1 (by decide)] at hr ha
          rw [lead_kept, rest_kept] at ha
          have hq5 := (ht5.block q (Array.getElem?_eq_some_iff.1 HC.out).1 HQ.out.2.1.symm HQ.out.2.2.symm).trans HC.out
          have n1 := Bx.mk (ht5.below HB.out HB.out.size HGB.out.1 HGB.out.2)
          have n2 := Bx.mk ha
          have hys := told_kept t (setF f 1)
          have hyl : (told (keptOf t (setF f 1))).length = ld (setF f 1) := by rw [lead_told, lead_kept]
          generalize told (keptOf t (setF f 1)) = ys at *
          have HR := Bx.mk hr
          have HYS := Bx.mk hys
          have HQL := Bx.mk (show q < wo.heap.size from (Array.getElem?_eq_some_iff.1 HC.out).1)
          obtain ⟨A5, c5, rfl, hc5, _⟩ := Kd.R_reads hr
          have hF := HF.out
          obtain ⟨fa, fb, fc, fd⟩ := f
          obtain rfl : fa = false := hF
          have hq5' : w5.heap[q]? = some (.cells #[.bool false, .bool fb, .bool fc, .bool fd] 45 (0, 0)) := hq5
          have k1 := cell_of_row w5 q 1 _ 45 (0, 0) hq5'
          have z1 := frozen_of_row w5 q 1 _ _ hq5'
          have HQ5 := Bx.mk hq5'
          clear ha ht5 hr hq5 hq5' HA HB hys HF HC
          go_wp2_with fail
          have hq6 : (w5.setCell ⟨q, 1, none⟩ (.bool true)).heap[q]? = some (.cells (flags (setF ⟨false, fb, fc, fd⟩ 1)) 45 (0, 0)) := by
            have := blk_set HQ5.out 1 (.bool true)
            simpa [flags, setF] using this
          have ht6 := set_two w5 q q 1 (.bool true)
          generalize setF ⟨false, fb, fc, fd⟩ 1 = F at *
          generalize w5.setCell ⟨q, 1, none⟩ (.bool true) = w6 at *
          have HR6 := Bx.mk (R_low HR.out ht6 HQL.out)
          have N2 := Bx.mk (IA.two n2.out ht6 HQ.out.2.1 HQ.out.2.2)
          have N1 := Bx.mk (ht6.below n1.out n1.out.size HQ.out.1 HQ.out.1)
          have HQ6 := Bx.mk hq6
          have HYL := Bx.mk hyl
          clear ht6 hq6 n1 n2 HR HQ5 k1 z1 hyl
          have hl4 := ld_le F
          go_loopw [15] (fun v wr => ∃ (c : Nat) (f2 : F4), v = .int .i64 (c : Int) ∧ c ≤ 4 ∧ Bx (c + ld f2 = ld F) ∧ Bx (aft f2 = aft F) ∧ Bx (wr.heap[q]? = some (.cells (flags f2) 45 (0, 0))) ∧ Bx (Two q q w6 wr)) (fun v _ => 4 - (intOf v).toNat)
          case atStart => exact ⟨0, F, rfl, by omega, ⟨by simp⟩, ⟨rfl⟩, HQ6, ⟨Two.refl _ _ _⟩⟩
          case round =>
            obtain ⟨c, f2, rfl, hc4, HC, HAF, HQ7, HT7⟩ := hrel
            obtain ⟨fa, fb2, fc2, fd2⟩ := f2
            have hq7 : wr.heap[q]? = some (.cells #[.bool fa, .bool fb2, .bool fc2, .bool fd2] 45 (0, 0)) := HQ7.out
            have k0 := cell_of_row wr q 0 _ 45 (0, 0) hq7
            have k1 := cell_of_row wr q 1 _ 45 (0, 0) hq7
            have k2 := cell_of_row wr q 2 _ 45 (0, 0) hq7
            have k3 := cell_of_row wr q 3 _ 45 (0, 0) hq7
            have z0 := frozen_of_row wr q 0 _ _ hq7
            have z1 := frozen_of_row wr q 1 _ _ hq7
            have z2 := frozen_of_row wr q 2 _ _ hq7
            have z3 := frozen_of_row wr q 3 _ _ hq7
            clear hq7
            cases fa
            · obtain rfl : c = ld F := by have := HC.out; rw [(ld_no rfl).1] at this; omega
              have haf := HAF.out
              rw [(ld_no (f := ⟨false, fb2, fc2, fd2⟩) rfl).2] at haf
              have HR7 := Bx.mk (R_low HR6.out HT7.out HQL.out)
              have n2 := Bx.mk (IA.two N2.out HT7.out HQ.out.2.1 HQ.out.2.2)
              have n1 := Bx.mk (HT7.out.below N1.out N1.out.size HQ.out.1 HQ.out.1)
              rw [← haf] at n2
              obtain ⟨_, _, hA5, _, hC5⟩ := Kd.R_reads HR7.out
              injection hA5 with hA5 _ _
              rw [← hA5] at hC5
              have HC5 := Bx.mk hC5
              have HQ8 := Bx.mk HQ7.out
              have hyl := HYL.out
              clear HR6 N2 N1 HQ6 HC haf HAF HT7 hC5 hA5 z0 z1 z2 z3 k1 k2 k3
              go_wp2_with fail
              obtain ⟨w8, rfl⟩ : ∃ w8 : World, w8 = wr := ⟨_, rfl⟩
              clear k0 hyl
              go_loop [16] (fun v => ∃ k : Nat, v = .int .i64 (k : Int) ∧ k ≤ ld F) (fun v => ld F - (intOf v).toNat)
              case atStart => exact ⟨0, rfl, by omega⟩
              case round =>
                obtain ⟨k, rfl, hk⟩ := hrel
                have hyl := HYL.out
                by_cases hkF : k < ld F
                · obtain ⟨ad5, rfl, hce⟩ := intCell HC5.out k (by omega)
                  have hy := HYS.out k hkF
                  have hy' : ys[k]'(by omega) = (t : Int) + k := by rw [← hy]; simp [List.getD, show k < ys.length by omega]
                  rw [hy'] at hce
                  have k0 : (0 : Int) ≤ (k : Int) := by omega
                  have k1 : (k : Int) < (ld F : Int) := by omega
                  clear hy hy'
                  go_wp2_with fail
                  go_round
                  case rel => exact ⟨k + 1, by simp, by omega⟩
                  case measure => simp [intOf]; omega
                · have k1 : ¬ ((k : Int) < (ld F : Int)) := by omega
                  have e9 : ((base + (t : Int)) % 65536 + ((ld F : Nat) : Int)) % 65536 = (base + ((t : Int) + ((ld F : Nat) : Int))) % 65536 := by omega
                  rw [e9] at n2
                  have N9 := n2
                  clear e9 n2
                  go_wp2_with fail
                  refine (ack_c g b _ _ _ N9.out).mono ?_
                  rintro e _ ⟨rfl, rfl⟩
                  go_wp2_with fail
                  go_roundw
                  case rel =>
                    refine ⟨i + 1, t + ld F, ⟨false, fb2, fc2, fd2⟩, by omega, by omega, by omega, by simp, by simp, ⟨rfl⟩, HQ8, ⟨?_⟩, n1⟩
                    rw [Int.natCast_add]; exact N9.out
                  case measure => simp [intOf]; omega
            · have hcl : c + 1 + ld ⟨fb2, fc2, fd2, false⟩ = ld F := by
                have := HC.out
                rw [ld_shift (f := ⟨true, fb2, fc2, fd2⟩) rfl] at this
                simp only [shift] at this
                omega
              have haf : aft ⟨fb2, fc2, fd2, false⟩ = aft F := by rw [← HAF.out, aft_shift (f := ⟨true, fb2, fc2, fd2⟩) rfl]; rfl
              go_wp2_with fail
              go_roundw
              case rel =>
                refine ⟨c + 1, ⟨fb2, fc2, fd2, false⟩, by simp, by omega, ⟨hcl⟩, ⟨haf⟩, ⟨?_⟩, ⟨(((HT7.out.trans (set_two _ q q 0 _)).trans (set_two _ q q 1 _)).trans (set_two _ q q 2 _)).trans (set_two _ q q 3 _)⟩⟩
                have b0 := blk_set (show wr.heap[q]? = some (.cells #[.bool true, .bool fb2, .bool fc2, .bool fd2] 45 (0, 0)) from HQ7.out) 0 (.bool fb2)
                have b1 := blk_set b0 1 (.bool fc2)
                have b2 := blk_set b1 2 (.bool fd2)
                simpa [flags] using blk_set b2 3 (.bool false)
              case measure => simp [intOf]; omega
        · have ev : (t : Int) + (5 - 3) = t + (2 : Nat) := by omega
          refine (take_c g b ((base + t) % 65536) _ (keptOf t f) 2 _ _ HA.out (by omega) (by omega) (by omega) (by decide)).mono ?_
          rintro e w5 ⟨vv, rfl, hr, ha, ht5⟩
          rw [ev, came_kept t f 2 (by decide)] at hr ha
          rw [lead_kept, rest_kept] at ha
          have hq5 := (ht5.block q (Array.getElem?_eq_some_iff.1 HC.out).1 HQ.out.2.1.symm HQ.out.2.2.symm).trans HC.out
          have n1 := Bx.mk (ht5.below HB.out HB.out.size HGB.out.1 HGB.out.2)
          have n2 := Bx.mk ha
          have hys := told_kept t (setF f 2)
          have hyl : (told (keptOf t (setF f 2))).length = ld (setF f 2) := by rw [lead_told, lead_kept]
          generalize told (keptOf t (setF f 2)) = ys at *
          have HR := Bx.mk hr
          have HYS := Bx.mk hys
          have HQL := Bx.mk (show q < wo.heap.size from (Array.getElem?_eq_some_iff.1 HC.out).1)
          obtain ⟨A5, c5, rfl, hc5, _⟩ := Kd.R_reads hr
          have hF := HF.out
          obtain ⟨fa, fb, fc, fd⟩ := f
          obtain rfl : fa = false := hF
          have hq5' : w5.heap[q]? = some (.cells #[.bool false, .bool fb, .bool fc, .bool fd] 45 (0, 0)) := hq5
          have k2 := cell_of_row w5 q 2 _ 45 (0, 0) hq5'
          have z2 := frozen_of_row w5 q 2 _ _ hq5'
          have HQ5 := Bx.mk hq5'
          clear ha ht5 hr hq5 hq5' HA HB hys HF HC
          go_wp2_with fail
          have hq6 : (w5.setCell ⟨q, 2, none⟩ (.bool true)).heap[q]? = some (.cells (flags (setF ⟨false, fb, fc, fd⟩ 2)) 45 (0, 0)) := by
            have := blk_set HQ5.out 2 (.bool true)
            simpa [flags, setF] using this
          have ht6 := set_two w5 q q 2 (.bool true)
          generalize setF ⟨false, fb, fc, fd⟩ 2 = F at *
          generalize w5.setCell ⟨q, 2, none⟩ (.bool true) = w6 at *
          have HR6 := Bx.mk (R_low HR.out ht6 HQL.out)
          have N2 := Bx.mk (IA.two n2.out ht6 HQ.out.2.1 HQ.out.2.2)
          have N1 := Bx.mk (ht6.below n1.out n1.out.size HQ.out.1 HQ.out.1)
          have HQ6 := Bx.mk hq6
          have HYL := Bx.mk hyl
          clear ht6 hq6 n1 n2 HR HQ5 k2 z2 hyl
          have hl4 := ld_le F
          go_loopw [15] (fun v wr => ∃ (c : Nat) (f2 : F4), v = .int .i64 (c : Int) ∧ c ≤ 4 ∧ Bx (c + ld f2 = ld F) ∧ Bx (aft f2 = aft F) ∧ Bx (wr.heap[q]? = some (.cells (flags f2) 45 (0, 0))) ∧ Bx (Two q q w6 wr)) (fun v _ => 4 - (intOf v).toNat)
          case atStart => exact ⟨0, F, rfl, by omega, ⟨by simp⟩, ⟨rfl⟩, HQ6, ⟨Two.refl _ _ _⟩⟩
          case round =>
            obtain ⟨c, f2, rfl, hc4, HC, HAF, HQ7, HT7⟩ := hrel
            obtain ⟨fa, fb2, fc2, fd2⟩ := f2
            have hq7 : wr.heap[q]? = some (.cells #[.bool fa, .bool fb2, .bool fc2, .bool fd2] 45 (0, 0)) := HQ7.out
            have k0 := cell_of_row wr q 0 _ 45 (0, 0) hq7
            have k1 := cell_of_row wr q 1 _ 45 (0, 0) hq7
            have k2 := cell_of_row wr q 2 _ 45 (0, 0) hq7
            have k3 := cell_of_row wr q 3 _ 45 (0, 0) hq7
            have z0 := frozen_of_row wr q 0 _ _ hq7
            have z1 := frozen_of_row wr q 1 _ _ hq7
            have z2 := frozen_of_row wr q 2 _ _ hq7
            have z3 := frozen_of_row wr q 3 _ _ hq7
            clear hq7
            cases fa
            · obtain rfl : c = ld F := by have := HC.out; rw [(ld_no rfl).1] at this; omega
              have haf := HAF.out
              rw [(ld_no (f := ⟨false, fb2, fc2, fd2⟩) rfl).2] at haf
              have HR7 := Bx.mk (R_low HR6.out HT7.out HQL.out)
              have n2 := Bx.mk (IA.two N2.out HT7.out HQ.out.2.1 HQ.out.2.2)
              have n1 := Bx.mk (HT7.out.below N1.out N1.out.size HQ.out.1 HQ.out.1)
              rw [← haf] at n2
              obtain ⟨_, _, hA5, _, hC5⟩ := Kd.R_reads HR7.out
              injection hA5 with hA5 _ _
              rw [← hA5] at hC5
              have HC5 := Bx.mk hC5
              have HQ8 := Bx.mk HQ7.out
              have hyl := HYL.out
              clear HR6 N2 N1 HQ6 HC haf HAF HT7 hC5 hA5 z0 z1 z2 z3 k1 k2 k3
              go_wp2_with fail
              obtain ⟨w8, rfl⟩ : ∃ w8 : World, w8 = wr := ⟨_, rfl⟩
              clear k0 hyl
              go_loop [16] (fun v => ∃ k : Nat, v = .int .i64 (k : Int) ∧ k ≤ ld F) (fun v => ld F - (intOf v).toNat)
              case atStart => exact ⟨0, rfl, by omega⟩
              case round =>
                obtain ⟨k, rfl, hk⟩ := hrel
                have hyl := HYL.out
                by_cases hkF : k < ld F
                · obtain ⟨ad5, rfl, hce⟩ := intCell HC5.out k (by omega)
                  have hy := HYS.out k hkF
                  have hy' : ys[k]'(by omega) = (t : Int) + k := by rw [← hy]; simp [List.getD, show k < ys.length by omega]
                  rw [hy'] at hce
                  have k0 : (0 : Int) ≤ (k : Int) := by omega
                  have k1 : (k : Int) < (ld F : Int) := by omega
                  clear hy hy'
                  go_wp2_with fail
                  go_round
                  case rel => exact ⟨k + 1, by simp, by omega⟩
                  case measure => simp [intOf]; omega
                · have k1 : ¬ ((k : Int) < (ld F : Int)) := by omega
                  have e9 : ((base + (t : Int)) % 65536 + ((ld F : Nat) : Int)) % 65536 = (base + ((t : Int) + ((ld F : Nat) : Int))) % 65536 := by omega
                  rw [e9] at n2
                  have N9 := n2
                  clear e9 n2
                  go_wp2_with fail
                  refine (ack_c g b _ _ _ N9.out).mono ?_
                  rintro e _ ⟨rfl, rfl⟩
                  go_wp2_with fail
                  go_roundw
                  case rel =>
                    refine ⟨i + 1, t + ld F, ⟨false, fb2, fc2, fd2⟩, by omega, by omega, by omega, by simp, by simp, ⟨rfl⟩, HQ8, ⟨?_⟩, n1⟩
                    rw [Int.natCast_add]; exact N9.out
                  case measure => simp [intOf]; omega
            · have hcl : c + 1 + ld ⟨fb2, fc2, fd2, false⟩ = ld F := by
                have := HC.out
                rw [ld_shift (f := ⟨true, fb2, fc2, fd2⟩) rfl] at this
                simp only [shift] at this
                omega
              have haf : aft ⟨fb2, fc2, fd2, false⟩ = aft F := by rw [← HAF.out, aft_shift (f := ⟨true, fb2, fc2, fd2⟩) rfl]; rfl
              go_wp2_with fail
              go_roundw
              case rel =>
                refine ⟨c + 1, ⟨fb2, fc2, fd2, false⟩, by simp, by omega, ⟨hcl⟩, ⟨haf⟩, ⟨?_⟩, ⟨(((HT7.out.trans (set_two _ q q 0 _)).trans (set_two _ q q 1 _)).trans (set_two _ q q 2 _)).trans (set_two _ q q 3 _)⟩⟩
                have b0 := blk_set (show wr.heap[q]? = some (.cells #[.bool true, .bool fb2, .bool fc2, .bool fd2] 45 (0, 0)) from HQ7.out) 0 (.bool fb2)
                have b1 := blk_set b0 1 (.bool fc2)
                have b2 := blk_set b1 2 (.bool fd2)
                simpa [flags] using blk_set b2 3 (.bool false)
              case measure => simp [intOf]; omega
        · have ev : (t : Int) + (6 - 3) = t + (3 : Nat) := by omega
          refine (take_c g b ((base + t) % 65536) _ (keptOf t f) 3 _ _ HA.out (by omega) (by omega) (by omega) (by decide)).mono ?_
          rintro e w5 ⟨vv, rfl, hr, ha, ht5⟩
          rw [ev, came_kept t f 3 (by decide)] at hr ha
          rw [lead_kept, rest_kept] at ha
          have hq5 := (ht5.block q (Array.getElem?_eq_some_iff.1 HC.out).1 HQ.out.2.1.symm HQ.out.2.2.symm).trans HC.out
          have n1 := Bx.mk (ht5.below HB.out HB.out.size HGB.out.1 HGB.out.2)
          have n2 := Bx.mk ha
          have hys := told_kept t (setF f 3)
          have hyl : (told (keptOf t (setF f 3))).length = ld (setF f 3) := by rw [lead_told, lead_kept]
          generalize told (keptOf t (setF f 3)) = ys at *
          have HR := Bx.mk hr
          have HYS := Bx.mk hys
          have HQL := Bx.mk (show q < wo.heap.size from (Array.getElem?_eq_some_iff.1 HC.out).1)
          obtain ⟨A5, c5, rfl, hc5, _⟩ := Kd.R_reads hr
          have hF := HF.out
          obtain ⟨fa, fb, fc, fd⟩ := f
          obtain rfl : fa = false := hF
          have hq5' : w5.heap[q]? = some (.cells #[.bool false, .bool fb, .bool fc, .bool fd] 45 (0, 0)) := hq5
          have k3 := cell_of_row w5 q 3 _ 45 (0, 0) hq5'
          have z3 := frozen_of_row w5 q 3 _ _ hq5'
          have HQ5 := Bx.mk hq5'
          clear ha ht5 hr hq5 hq5' HA HB hys HF HC
          go_wp2_with fail
          have hq6 : (w5.setCell ⟨q, 3, none⟩ (.bool true)).heap[q]? = some (.cells (flags (setF ⟨false, fb, fc, fd⟩ 3)) 45 (0, 0)) := by
            have := blk_set HQ5.out 3 (.bool true)
            simpa [flags, setF] using this
          have ht6 := set_two w5 q q 3 (.bool true)
          generalize setF ⟨false, fb, fc, fd⟩ 3 = F at *
          generalize w5.setCell ⟨q, 3, none⟩ (.bool true) = w6 at *
          have HR6 := Bx.mk (R_low HR.out ht6 HQL.out)
          have N2 := Bx.mk (IA.two n2.out ht6 HQ.out.2.1 HQ.out.2.2)
          have N1 := Bx.mk (ht6.below n1.out n1.out.size HQ.out.1 HQ.out.1)
          have HQ6 := Bx.mk hq6
          have HYL := Bx.mk hyl
          clear ht6 hq6 n1 n2 HR HQ5 k3 z3 hyl
          have hl4 := ld_le F
          go_loopw [15] (fun v wr => ∃ (c : Nat) (f2 : F4), v = .int .i64 (c : Int) ∧ c ≤ 4 ∧ Bx (c + ld f2 = ld F) ∧ Bx (aft f2 = aft F) ∧ Bx (wr.heap[q]? = some (.cells (flags f2) 45 (0, 0))) ∧ Bx (Two q q w6 wr)) (fun v _ => 4 - (intOf v).toNat)
          case atStart => exact ⟨0, F, rfl, by omega, ⟨by simp⟩, ⟨rfl⟩, HQ6, ⟨Two.refl _ _ _⟩⟩
          case round =>
            obtain ⟨c, f2, rfl, hc4, HC, HAF, HQ7, HT7⟩ := hrel
            obtain ⟨fa, fb2, fc2, fd2⟩ := f2
            have hq7 : wr.heap[q]? = some (.cells #[.bool fa, .bool fb2, .bool fc2, .bool fd2] 45 (0, 0)) := HQ7.out
            have k0 := cell_of_row wr q 0 _ 45 (0, 0) hq7
            have k1 := cell_of_row wr q 1 _ 45 (0, 0) hq7
            have k2 := cell_of_row wr q 2 _ 45 (0, 0) hq7
            have k3 := cell_of_row wr q 3 _ 45 (0, 0) hq7
            have z0 := frozen_of_row wr q 0 _ _ hq7
            have z1 := frozen_of_row wr q 1 _ _ hq7
            have z2 := frozen_of_row wr q 2 _ _ hq7
            have z3 := frozen_of_row wr q 3 _ _ hq7
            clear hq7
            cases fa
            · obtain rfl : c = ld F := by have := HC.out; rw [(ld_no rfl).1] at this; omega
              have haf := HAF.out
              rw [(ld_no (f := ⟨false, fb2, fc2, fd2⟩) rfl).2] at haf
              have HR7 := Bx.mk (R_low HR6.out HT7.out HQL.out)
              have n2 := Bx.mk (IA.two N2.out HT7.out HQ.out.2.1 HQ.out.2.2)
              have n1 := Bx.mk (HT7.out.below N1.out N1.out.size HQ.out.1 HQ.out.1)
              rw [← haf] at n2
              obtain ⟨_, _, hA5, _, hC5⟩ := Kd.R_reads HR7.out
              injection hA5 with hA5 _ _
              rw [← hA5] at hC5
              have HC5 := Bx.mk hC5
              have HQ8 := Bx.mk HQ7.out
              have hyl := HYL.out
              clear HR6 N2 N1 HQ6 HC haf HAF HT7 hC5 hA5 z0 z1 z2 z3 k1 k2 k3
              go_wp2_with fail
              obtain ⟨w8, rfl⟩ : ∃ w8 : World, w8 = wr := ⟨_, rfl⟩
              clear k0 hyl
              go_loop [16] (fun v => ∃ k : Nat, v = .int .i64 (k : Int) ∧ k ≤ ld F) (fun v => ld F - (intOf v).toNat)
              case atStart => exact ⟨0, rfl, by omega⟩
              case round =>
                obtain ⟨k, rfl, hk⟩ := hrel
                have hyl := HYL.out
                by_cases hkF : k < ld F
                · obtain ⟨ad5, rfl, hce⟩ := intCell HC5.out k (by omega)
                  have hy := HYS.out k hkF
                  have hy' : ys[k]'(by omega) = (t : Int) + k := by rw [← hy]; simp [List.getD, show k < ys.length by omega]
                  rw [hy'] at hce
                  have k0 : (0 : Int) ≤ (k : Int) := by omega
                  have k1 : (k : Int) < (ld F : Int) := by omega
                  clear hy hy'
                  go_wp2_with fail
                  go_round
                  case rel => exact ⟨k + 1, by simp, by omega⟩
                  case measure => simp [intOf]; omega
                · have k1 : ¬ ((k : Int) < (ld F : Int)) := by omega
                  have e9 : ((base + (t : Int)) % 65536 + ((ld F : Nat) : Int)) % 65536 = (base + ((t : Int) + ((ld F : Nat) : Int))) % 65536 := by omega
                  rw [e9] at n2
                  have N9 := n2
                  clear e9 n2
                  go_wp2_with fail
                  refine (ack_c g b _ _ _ N9.out).mono ?_
                  rintro e _ ⟨rfl, rfl⟩
                  go_wp2_with fail
                  go_roundw
                  case rel =>
                    refine ⟨i + 1, t + ld F, ⟨false, fb2, fc2, fd2⟩, by omega, by omega, by omega, by simp, by simp, ⟨rfl⟩, HQ8, ⟨?_⟩, n1⟩
                    rw [Int.natCast_add]; exact N9.out
                  case measure => simp [intOf]; omega
            · have hcl : c + 1 + ld ⟨fb2, fc2, fd2, false⟩ = ld F := by
                have := HC.out
                rw [ld_shift (f := ⟨true, fb2, fc2, fd2⟩) rfl] at this
                simp only [shift] at this
                omega
              have haf : aft ⟨fb2, fc2, fd2, false⟩ = aft F := by rw [← HAF.out, aft_shift (f := ⟨true, fb2, fc2, fd2⟩) rfl]; rfl
              go_wp2_with fail
              go_roundw
              case rel =>
                refine ⟨c + 1, ⟨fb2, fc2, fd2, false⟩, by simp, by omega, ⟨hcl⟩, ⟨haf⟩, ⟨?_⟩, ⟨(((HT7.out.trans (set_two _ q q 0 _)).trans (set_two _ q q 1 _)).trans (set_two _ q q 2 _)).trans (set_two _ q q 3 _)⟩⟩
                have b0 := blk_set (show wr.heap[q]? = some (.cells #[.bool true, .bool fb2, .bool fc2, .bool fd2] 45 (0, 0)) from HQ7.out) 0 (.bool fb2)
                have b1 := blk_set b0 1 (.bool fc2)
                have b2 := blk_set b1 2 (.bool fd2)
                simpa [flags] using blk_set b2 3 (.bool false)
              case measure => simp [intOf]; omega
        · obtain hx1 | hx1 : x < 3 ∨ 7 ≤ x := by omega
          · refine (take_far g b ((base + t) % 65536) _ (keptOf t f) _ _ HA.out (by omega) (by omega) (by omega)).mono ?_
            rintro e w5 ⟨rfl, hb⟩
            have n0 := Bx.mk (HA.out.below hb)
            have n1 := Bx.mk (HB.out.trans (hb.mono HB.out.size))
            have n2 := Bx.mk ((hb.block q (Array.getElem?_eq_some_iff.1 HC.out).1).trans HC.out)
            have hF := HF.out
            obtain ⟨fa, fb, fc, fd⟩ := f
            obtain rfl : fa = false := hF
            have k0 := cell_of_row w5 q 0 _ 45 (0, 0) (show w5.heap[q]? = some (.cells #[.bool false, .bool fb, .bool fc, .bool fd] 45 (0, 0)) from n2.out)
            clear HA HB HC hb HF
            go_wp2_with fail
            go_loopw [15] (fun v wr => v = .int .i64 0 ∧ wr = w5) (fun v _ => 0)
            case atStart => exact ⟨rfl, rfl⟩
            case round =>
              obtain ⟨rfl, rfl⟩ := hrel
              go_wp2_with fail
              go_loop [16] (fun v => v = .int .i64 0) (fun v => 0)
              case atStart => rfl
              case round =>
                obtain rfl := hrel
                go_wp2_with fail
                refine (ack_c g b _ _ _ n0.out).mono ?_
                rintro e _ ⟨rfl, rfl⟩
                go_wp2_with fail
                go_roundw
                case rel => exact ⟨i + 1, t, ⟨false, fb, fc, fd⟩, by omega, by omega, by omega, rfl, by simp, ⟨rfl⟩, n2, n0, n1⟩
                case measure => simp [intOf]; omega
          · refine (take_far g b ((base + t) % 65536) _ (keptOf t f) _ _ HA.out (by omega) (by omega) (by omega)).mono ?_
            rintro e w5 ⟨rfl, hb⟩
            have n0 := Bx.mk (HA.out.below hb)
            have n1 := Bx.mk (HB.out.trans (hb.mono HB.out.size))
            have n2 := Bx.mk ((hb.block q (Array.getElem?_eq_some_iff.1 HC.out).1).trans HC.out)
            have hF := HF.out
            obtain ⟨fa, fb, fc, fd⟩ := f
            obtain rfl : fa = false := hF
            have k0 := cell_of_row w5 q 0 _ 45 (0, 0) (show w5.heap[q]? = some (.cells #[.bool false, .bool fb, .bool fc, .bool fd] 45 (0, 0)) from n2.out)
            clear HA HB HC hb HF
            go_wp2_with fail
            go_loopw [15] (fun v wr => v = .int .i64 0 ∧ wr = w5) (fun v _ => 0)
            case atStart => exact ⟨rfl, rfl⟩
            case round =>
              obtain ⟨rfl, rfl⟩ := hrel
              go_wp2_with fail
              go_loop [16] (fun v => v = .int .i64 0) (fun v => 0)
              case atStart => rfl
              case round =>
                obtain rfl := hrel
                go_wp2_with fail
                refine (ack_c g b _ _ _ n0.out).mono ?_
                rintro e _ ⟨rfl, rfl⟩
                go_wp2_with fail
                go_roundw
                case rel => exact ⟨i + 1, t, ⟨false, fb, fc, fd⟩, by omega, by omega, by omega, rfl, by simp, ⟨rfl⟩, n2, n0, n1⟩
                case measure => simp [intOf]; omega
      · have i2 : ¬ ((i : Int) < 300) := by omega
        have i1 : (i : Int) < (n : Int) := by omega
        go_wp2_with fail
        go_ret
        exact ⟨rfl, HB.out⟩
    · have i1 : ¬ ((i : Int) < (n : Int)) := by omega
      go_wp2_with fail
      go_ret
      exact ⟨rfl, HB.out⟩
end Go.Proofs.Ytlpopnacfggiiaa.Order
