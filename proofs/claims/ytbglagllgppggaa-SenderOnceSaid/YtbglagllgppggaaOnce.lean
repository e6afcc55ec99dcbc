/- Layer 13: SenderOnce's walk. -/
import Derived.Test.YtbglagllgppggaaFull
import Derived.ProofKit
set_option linter.unusedVariables false
set_option linter.unusedSimpArgs false
namespace Go.Proofs.Ytbglagllgppggaa.Base
open Go.ChangeShapes Go.WideShapes Go.ChangeAt Go.RowKit Go.Proofs.YtbglagllgppggaaW.PrintWords Go.Proofs.YtbglagllgppggaaW.PrintLast Go.Proofs.YtbglagllgppggaaW.PrintMore
open Go.Proofs.Ytbglagllgppggaa.Comm Go.Proofs.Ytbglagllgppggaa.PSenderPlays
attribute [local go_sem] max2_int min2_int max_two min_two

/-- The message of a number. -/
def msg (p : Nat) : List Int := [(p : Int) % 256, (p : Int) / 256 % 256]
def msgs (a n : Nat) : List (List Int) := (List.range n).map fun k => msg (a + k)
theorem msgs_len (a n : Nat) : (msgs a n).length = n := by simp [msgs]
theorem msgs_snoc (a n : Nat) : msgs a n ++ [msg (a + n)] = msgs a (n + 1) := by simp [msgs, List.range_succ]
theorem msgs_get (a n k : Nat) (h : k < n) : (msgs a n).getD k [] = msg (a + k) := by simp [msgs, List.getD, h]
theorem msgs_drop (a n k : Nat) (h : k ≤ n) : (msgs a n).drop k = msgs (a + k) (n - k) := by
  apply List.ext_getElem
  · simp [msgs]
  · intro j h1 h2
    simp [msgs, Nat.add_assoc]
theorem wrapA (b : Int) (a : Nat) (h0 : 0 ≤ b) (h1 : b < 2 ^ 16) (ha : a ≤ 1000) : wrap64 (b + (a : Int)) = b + (a : Int) := by unfold wrap64; omega
theorem wrapB (b : Int) (a k : Nat) (h0 : 0 ≤ b) (h1 : b < 2 ^ 16) (ha : a + k ≤ 1000) : wrap64 (b + (a : Int) + (k : Int)) = b + (a : Int) + (k : Int) := by unfold wrap64; omega
theorem tmodB (b : Int) (a k : Nat) (h0 : 0 ≤ b) : Int.tmod (b + (a : Int) + (k : Int)) 65536 = (b + ((a + k : Nat) : Int)) % 65536 := by
  rw [Int.tmod_eq_emod_of_nonneg (by omega)]
  have : b + (a : Int) + (k : Int) = b + ((a + k : Nat) : Int) := by omega
  rw [this]
theorem tmodA (b : Int) (a : Nat) (h0 : 0 ≤ b) : Int.tmod (b + (a : Int)) 65536 = (b + (a : Int)) % 65536 := Int.tmod_eq_emod_of_nonneg (by omega)
theorem wrapN (a k : Nat) (ha : a + k ≤ 1000) : wrap64 ((a : Int) + (k : Int)) = ((a + k : Nat) : Int) := by unfold wrap64; omega
theorem fr1 (s hd W : Nat) (h : hd ≤ s) (h2 : s ≤ hd + W) (h3 : W ≤ 4) : wrap64 ((s : Int) - (hd : Int)) = (s : Int) - (hd : Int) := by unfold wrap64; omega
theorem fr2 (s hd W : Nat) (h : hd ≤ s) (h2 : s ≤ hd + W) : decide ((W : Int) < (s : Int) - (hd : Int)) = false := decide_eq_false (by omega)
theorem fr3 (hd W : Nat) (h : hd ≤ 1000) (h3 : W ≤ 4) : wrap64 ((hd : Int) + (W : Int)) = (hd : Int) + (W : Int) := by unfold wrap64; omega
theorem fr4 (s hd W p : Nat) (h : s = p ∧ p ≤ hd + W ∨ s = hd + W ∧ hd + W < p) : (if (hd : Int) + (W : Int) < (p : Int) then (hd : Int) + (W : Int) else (p : Int)) = (s : Int) := by
  rcases h with ⟨h1, h2⟩ | ⟨h1, h2⟩
  · rw [if_neg (by omega)]; omega
  · rw [if_pos (by omega)]; omega
theorem hea1 (h s : Nat) (hle : h ≤ s) : decide ((h : Int) ≤ (s : Int)) = true := decide_eq_true (by omega)
theorem hea2 (h s : Nat) (hle : ¬ h ≤ s) : decide ((h : Int) ≤ (s : Int)) = false := decide_eq_false (by omega)
theorem heaK (base : Int) (hd kk : Nat) (h : kk < 6) : 0 ≤ (base + ((hd + kk : Nat) : Int)) % 65536 ∧ (base + ((hd + kk : Nat) : Int)) % 65536 ≤ 65535 ∧ ((base + ((hd + kk : Nat) : Int)) % 65536 - (base + (hd : Int)) % 65536) % 65536 = ((kk : Nat) : Int) := by omega
theorem bytes2 (W : World) (x y : Int) (b : Nat) (hb : W.heap.size = b) : (Kd.int .u8).C (W.alloc (.cells #[.int .u8 x, .int .u8 y] 5)) (some ⟨b, 0, none⟩) 2 [x, y] := by
  subst hb
  refine Kd.C_of_reads (d := (0 : Int)) (h1 := fun _ => rfl) ⟨rfl, by simp, fun _ => ⟨_, rfl, fun j hj => ?_⟩⟩
  rw [Go.Proofs.YtbglagllgppggaaW.PrintWords.add_plain]
  have hj2 : j < 2 := hj
  have h : j = 0 ∨ j = 1 := by omega
  rcases h with rfl | rfl
  · exact cell_of_row _ _ 0 _ _ (0, 0) (heap_alloc_new W _)
  · exact cell_of_row _ _ 1 _ _ (0, 0) (heap_alloc_new W _)
theorem open_ints22 {H : Type} {enc : TypeId × Value → H} {W : World} {a : Option Addr} {n c : Nat} {d : DataW H} {p : List MemPlace} (h : DataW.Trod enc Try.prog W 0 (fun _ => true) true 22 (.slice a n c) d p) :
    ∃ zs : List Int, (Kd.int .i64).C W a zs.length zs ∧ zs.length = n ∧ n ≤ c := by
  obtain ⟨fuel, hf⟩ := h
  rcases open_ints Try.underlying22 Try.underlying3 (by kernel_rfl) hf with ⟨hcs, _⟩ | ⟨x, l, c', zs, hcs, _, hl, hm, hz, _, hcell, hwz⟩
  · simp [Value.cells] at hcs
    obtain ⟨rfl, rfl, rfl⟩ := hcs
    exact ⟨[], Kd.C_of_reads (d := (0 : Int)) (h1 := fun _ => rfl) ⟨rfl, by simp, fun h => by simp at h⟩, rfl, by omega⟩
  · simp [Value.cells] at hcs
    obtain ⟨rfl, rfl, rfl⟩ := hcs
    have hzl : zs.length = c := by simpa using hz
    refine ⟨zs.take n, ?_, by rw [List.length_take]; omega, hl⟩
    refine Kd.C_of_reads (d := (0 : Int)) (h1 := fun _ => rfl) ⟨rfl, by rw [List.length_take]; unfold maxLen at hm; omega, fun _ => ⟨x, rfl, fun j hj => ?_⟩⟩
    have hj' : j < n ∧ j < zs.length := by rw [List.length_take] at hj; omega
    rw [hcell j hj'.2]
    congr 2
    simp [List.getD, hj'.1]
theorem intCell {w : World} {A : Option Addr} {xs : List Int} (h : (Kd.int .i64).C w A xs.length xs) (i : Nat) (hi : i < xs.length) : ∃ ad, A = some ad ∧ w.cell? (ad.add i) = some (.int .i64 xs[i]) := by
  obtain ⟨ad, c, rfl, hcl, hk, hcc⟩ := Kd.C_get h 0 (i : Int) (by omega) (by omega)
  have hk' : c = [Value.int .i64 (xs.getD i 0)] := by simpa [Kd.int, Kd.scalar] using hk
  subst hk'
  refine ⟨ad, rfl, ?_⟩
  have := hcc 0 _ rfl
  simpa [Kd.int, Kd.scalar, hi] using this
set_option maxRecDepth 100000 in
set_option maxHeartbeats 4000000 in
theorem once_c (window first : Int) (A : Option Addr) (n c' : Nat) (zs : List Int) (w : World) (hZ : (Kd.int .i64).C w A zs.length zs) (hz : zs.length = n) (hnc : n ≤ c') : Calls Try.prog 3 #[.int .i64 window, .int .i64 first, .slice A n c'] w fun e w' => e = .returned (.bool true) ∧ Below w.heap.size w w' := by
  have HZ := Bx.mk hZ
  have HN := Bx.mk hz
  clear hZ hz
  go_enter Try.func3, Try.ntmps3
  go_wp2_with fail
  refine (works_c _).mono ?_
  rintro e w1 ⟨rfl, hb0⟩
  have HB0 := Bx.mk hb0
  clear hb0
  go_wp2_with fail
  refine (bring_c window 4 _ (by decide) (by decide)).mono ?_
  rintro e _ ⟨rfl, rfl⟩
  obtain ⟨W, hW, W1, W4⟩ : ∃ W : Nat, wrap64 (1 + window % 4) = (W : Int) ∧ 1 ≤ W ∧ W ≤ 4 := by
    have h0 := Int.emod_nonneg window (b := 4) (by decide)
    have h1 := Int.emod_lt_of_pos window (b := 4) (by decide)
    exact ⟨(1 + window % 4).toNat, by unfold wrap64; omega, by omega, by omega⟩
  generalize window % 4 = q at *
  go_wp2_with fail
  refine (bring_c first 65536 _ (by decide) (by decide)).mono ?_
  rintro e _ ⟨rfl, rfl⟩
  have b0 := Int.emod_nonneg first (b := 65536) (by decide)
  have b1 : first % 65536 < 2 ^ 16 := Int.emod_lt_of_pos first (b := 65536) (by decide)
  generalize first % 65536 = base at *
  go_wp2_with fail
  have HBS := Bx.mk (And.intro b0 b1)
  refine (new_b W base _ W1 W4 b0 (by omega)).mono ?_
  rintro e w2 ⟨rfl, ha, hb⟩
  obtain ⟨g, hg⟩ : ∃ g, g = w1.heap.size + 1 := ⟨_, rfl⟩
  obtain ⟨ch, hch⟩ : ∃ c, c = w1.heap.size := ⟨_, rfl⟩
  rw [← hg] at ha
  rw [← hg]
  have HA1 : Bx (SB w1.heap.size w2 g ch W base [] 0 0) := ⟨by rw [hch]; exact ha⟩
  have HB1 := Bx.mk hb
  have HWW := Bx.mk (And.intro W1 W4)
  clear ha hb hg hch hW W1 W4 b0 b1
  go_wp2_with fail
  go_loopw [11, 12, 13, 14] (fun v11 v12 v13 v14 wr => ∃ (i pt st hd : Nat), v14 = .int .i64 (i : Int) ∧ v11 = .int .i64 (pt : Int) ∧ v12 = .int .i64 (st : Int) ∧ v13 = .int .i64 (hd : Int) ∧ Bx (hd ≤ st ∧ st ≤ pt ∧ pt ≤ i ∧ i ≤ 300 ∧ st ≤ hd + W) ∧ Bx (SB w1.heap.size wr g ch W ((base + (hd : Int)) % 65536) (msgs hd (pt - hd)) (st - hd) pt) ∧ Bx (Below w1.heap.size w1 wr)) (fun _ _ _ v _ => 300 - (intOf v).toNat)
  case atStart => exact ⟨0, 0, 0, 0, rfl, rfl, rfl, rfl, ⟨by omega⟩, ⟨by
    have e : (base + ((0 : Nat) : Int)) % 65536 = base := by have := HBS.out; omega
    rw [e]; exact HA1.out⟩, HB1⟩
  case round =>
    clear HA1 HB1
    obtain ⟨i, pt, st, hd, rfl, rfl, rfl, rfl, HI, HA, HB⟩ := hrel
    have i0 : (0 : Int) ≤ (i : Int) := by omega
    have HBW := Bx.mk (HB0.out.trans (HB.out.mono HB0.out.size))
    by_cases hin : i < n
    · have i1 : (i : Int) < (n : Int) := by omega
      by_cases hi3 : i < 300
      · have i3 : (i : Int) < 300 := by omega
        obtain ⟨ad, rfl, hce⟩ := intCell HZ.out i (by have := HN.out; omega)
        have hce2 := pw_cell_below HBW.out hce
        clear hce
        generalize zs[i]'(by have := HN.out; omega) = r at hce2
        have HI3 := Bx.mk hi3
        clear hi3 hin
        go_wp2_with fail
        refine (bring_c r 40 _ (by decide) (by decide)).mono ?_
        rintro e _ ⟨rfl, rfl⟩
        have x0 := Int.emod_nonneg r (b := 40) (by decide)
        have x1 := Int.emod_lt_of_pos r (b := 40) (by decide)
        generalize r % 40 = x at *
        have h4 : Int.tmod x 4 = x % 4 := Int.tmod_eq_emod_of_nonneg x0
        have h5 : x % 4 = 0 ∨ x % 4 = 1 ∨ x % 4 = 2 ∨ x % 4 = 3 := by omega
        clear hce2 i1 i3 i0
        rcases h5 with h5 | h5 | h5 | h5
        · rw [h5] at h4
          go_wp2_with fail
          have hs := HA.out.size
          have HA2 := Bx.mk (SA.below HA.out ((Below.refl wr.heap.size wr).alloc (Nat.le_refl _) (.cells #[.int .u8 ((pt : Int) % 256), .int .u8 ((pt : Int) / 256 % 256)] 5)))
          have HB2 := Bx.mk (HB.out.alloc hs (.cells #[.int .u8 ((pt : Int) % 256), .int .u8 ((pt : Int) / 256 % 256)] 5))
          have HC := Bx.mk (bytes2 wr ((pt : Int) % 256) ((pt : Int) / 256 % 256) _ rfl)
          clear hs HA HB HBW
          refine (put_b (some ⟨wr.heap.size, 0, none⟩) (msg pt) 2 HA2.out HB2.out HC.out (by simp [msg]) (by simp [msg]) (by simp [msg]) (by have := HI.out; omega) (by rw [msgs_len]; have := HI.out; omega)).mono ?_
          rintro e w3 ⟨rfl, ha, hb⟩
          obtain ⟨p2, hp2⟩ : ∃ p2, p2 = pt + 1 := ⟨_, rfl⟩
          have hms : msgs hd (pt - hd) ++ [msg pt] = msgs hd (p2 - hd) := by
            have h1 := msgs_snoc hd (pt - hd)
            rw [show hd + (pt - hd) = pt from by have := HI.out; omega, show pt - hd + 1 = p2 - hd from by have := HI.out; omega] at h1
            exact h1
          rw [hms, ← hp2] at ha
          have HA3 := Bx.mk ha
          have HB3 := Bx.mk hb
          have HI2 : Bx (hd ≤ st ∧ st ≤ p2 ∧ p2 ≤ i + 1 ∧ i + 1 ≤ 300 ∧ st ≤ hd + W) := ⟨by have h1 := HI.out; have h2 := HI3.out; omega⟩
          have hwp : wrap64 ((pt : Int) + 1) = (p2 : Int) := by have := HI.out; unfold wrap64; omega
          have HWP := Bx.mk hwp
          clear ha hb hms hp2 HA2 HB2 HC hwp
          go_wp2_with fail
          rw [HWP.out]
          refine (again_c HA3.out).mono ?_
          rintro e w4 ⟨v, rfl, hr, hb⟩
          have hlen := items_len ((base + (hd : Int)) % 65536) (msgs hd (p2 - hd)) 0 (st - hd)
          have HXS : Bx (∀ k : Nat, k < st - hd → rd_T35 (items ((base + (hd : Int)) % 65536) (msgs hd (p2 - hd)) 0 (st - hd)) (k : Int) = ⟨(base + ((hd + k : Nat) : Int)) % 65536, msg (hd + k)⟩) := ⟨fun k hk => by
            have h1 := msgs_get hd (p2 - hd) k (by have := HI2.out; omega)
            have h2 : ((base + (hd : Int)) % 65536 + (k : Int)) % 65536 = (base + ((hd + k : Nat) : Int)) % 65536 := by omega
            have h3 : (items ((base + (hd : Int)) % 65536) (msgs hd (p2 - hd)) 0 (st - hd)).getD k z35 = ⟨((base + (hd : Int)) % 65536 + ((0 + k : Nat) : Int)) % 65536, (msgs hd (p2 - hd)).getD (0 + k) []⟩ := by
              unfold items
              rw [List.getD_eq_getElem?_getD, List.getElem?_map, List.getElem?_range hk]
              rfl
            rw [Nat.zero_add, h1, h2] at h3
            exact h3⟩
          generalize items ((base + (hd : Int)) % 65536) (msgs hd (p2 - hd)) 0 (st - hd) = xs at *
          obtain ⟨A5, c5, rfl, hc5, hC5⟩ := Kd.R_reads hr
          have HC5 := Bx.mk hC5
          have HA4 := Bx.mk (SA.below HA3.out hb)
          have HB4 := Bx.mk (HB3.out.trans (hb.mono HA3.out.size))
          have HXL := Bx.mk hlen
          have HCL := Bx.mk hc5
          have hleft := left_c HA4.out
          rw [msgs_len, show ((p2 - hd : Nat) : Int) = wrap64 ((p2 : Int) - (hd : Int)) from by have := HI2.out; unfold wrap64; omega] at hleft
          have hsaid := said_c HA4.out
          have d1 : wrap64 ((st : Int) - (hd : Int)) = (xs.length : Int) := by have := HI2.out; rw [hlen]; unfold wrap64; omega
          rw [← hlen] at hsaid
          clear hlen hr hb hc5 hC5
          go_wp2_with (first | (go_at_call 15; (with_reducible refine hleft.mono ?_); rintro e _ ⟨rfl, rfl⟩) | (go_at_call 16; (with_reducible refine hsaid.mono ?_); rintro e _ ⟨rfl, rfl⟩))
          clear d1 hleft hsaid
          go_loopw [22] (fun v wr => ∃ k : Nat, k ≤ xs.length ∧ v = .int .i64 (k : Int) ∧ Bx (SB w1.heap.size wr g ch W ((base + (hd : Int)) % 65536) (msgs hd (p2 - hd)) (st - hd) p2) ∧ Bx (Below w1.heap.size w1 wr) ∧ Bx (k35.C wr A5 xs.length xs)) (fun v _ => xs.length - (intOf v).toNat)
          case atStart => exact ⟨0, by omega, rfl, HA4, HB4, HC5⟩
          case round =>
            clear HA4 HB4 HC5 HA3 HB3
            obtain ⟨k, hk, rfl, HA, HB, HC⟩ := hrel
            have k0 : (0 : Int) ≤ (k : Int) := by omega
            by_cases hkx : k < xs.length
            · have k1 : (k : Int) < (xs.length : Int) := by omega
              obtain ⟨ad5, A1, c1, rfl, ca, cb, hlc, hCb⟩ := at_T35 HC.out (k : Int) k0 k1
              have hrd := HXS.out k (by rw [← HXL.out]; exact hkx)
              rw [hrd] at ca cb hlc hCb
              rw [Int.toNat_natCast] at ca cb
              simp only at ca cb hlc hCb
              have hkb : hd + k ≤ 1000 ∧ xs.length ≤ 300 := by have h1 := HXL.out; have h2 := HI2.out; omega
              obtain ⟨p, hp⟩ : ∃ p, p = hd + k := ⟨_, rfl⟩
              rw [← hp] at ca cb hlc hCb
              obtain ⟨sq, hsq⟩ : ∃ sq, sq = (base + (p : Int)) % 65536 := ⟨_, rfl⟩
              rw [← hsq] at ca
              have e1 := wrapA base hd HBS.out.1 HBS.out.2 (by omega)
              have e2 := wrapB base hd k HBS.out.1 HBS.out.2 hkb.1
              have e3 := tmodB base hd k HBS.out.1
              rw [← hp, ← hsq] at e3
              have e4 := wrapN hd k hkb.1
              rw [← hp] at e4
              have HKB := Bx.mk hkb
              have HCb := Bx.mk hCb
              have HLC := Bx.mk hlc
              have HKX := Bx.mk (And.intro hkx hkb.2)
              clear hlc hCb hrd hkx hk hp hsq hkb
              go_wp2_with fail
              have hbl := (Below.refl wr.heap.size wr).alloc (Nat.le_refl _) (.cells #[.int .u8 ((p : Int) % 256), .int .u8 ((p : Int) / 256 % 256)] 5)
              have HA6 := Bx.mk (SA.below HA.out hbl)
              have HB6 := Bx.mk (HB.out.alloc HA.out.size (.cells #[.int .u8 ((p : Int) % 256), .int .u8 ((p : Int) / 256 % 256)] 5))
              have HC6 := Bx.mk (Kd.C_below HC.out hbl)
              refine (catenaryref00_EqBytes.calls A1 c1 (msg p) (some ⟨wr.heap.size, 0, none⟩) 2 (msg p) true _ (Kd.C_below HCb.out hbl) HLC.out (bytes2 wr ((p : Int) % 256) ((p : Int) / 256 % 256) _ rfl) (by simp [msg]) (by unfold catenaryref00_EqBytes.f; simp)).mono ?_
              rintro e w5 ⟨rfl, hdr⟩
              obtain ⟨nd, rfl⟩ := hdr.out
              have HA7 := Bx.mk (SA.below HA6.out (pw_below_drewN (Below.refl _ _) nd))
              have HB7 := Bx.mk (HB6.out.trans (pw_below_drewN (Below.refl w1.heap.size _) nd))
              have HC7 := Bx.mk (Kd.C_drewN HC6.out nd)
              clear hbl HA6 HB6 HC6 hdr ca cb e1 e2 e3 e4 HA HB HC HCb HLC
              generalize (wr.alloc (.cells #[.int .u8 ((p : Int) % 256), .int .u8 ((p : Int) / 256 % 256)] 5)).drewN nd = w6 at *
              go_wp2_with fail
              have hwk : wrap64 ((k : Int) + 1) = ((k + 1 : Nat) : Int) := by have := HKX.out; unfold wrap64; omega
              rw [hwk]
              go_roundw
              case rel => exact ⟨k + 1, by have := HKX.out; omega, rfl, HA7, HB7, HC7⟩
              case measure => have := HKX.out; simp only [intOf]; omega
            · have k1 : ¬ (k : Int) < (xs.length : Int) := by omega
              go_wp2_with fail
              have hwi : wrap64 ((i : Int) + 1) = ((i + 1 : Nat) : Int) := by have := HI2.out; unfold wrap64; omega
              rw [hwi]
              go_roundw
              case rel => exact ⟨i + 1, p2, st, hd, rfl, rfl, rfl, rfl, HI2, HA, HB⟩
              case measure => have := HI2.out; simp only [intOf]; omega
        · rw [h5] at h4
          go_wp2_with fail
          have hs := HA.out.size
          have HA2 := Bx.mk (SA.below HA.out ((Below.refl wr.heap.size wr).alloc (Nat.le_refl _) (.cells #[.int .u8 ((pt : Int) % 256), .int .u8 ((pt : Int) / 256 % 256)] 5)))
          have HB2 := Bx.mk (HB.out.alloc hs (.cells #[.int .u8 ((pt : Int) % 256), .int .u8 ((pt : Int) / 256 % 256)] 5))
          have HC := Bx.mk (bytes2 wr ((pt : Int) % 256) ((pt : Int) / 256 % 256) _ rfl)
          clear hs HA HB HBW
          refine (put_b (some ⟨wr.heap.size, 0, none⟩) (msg pt) 2 HA2.out HB2.out HC.out (by simp [msg]) (by simp [msg]) (by simp [msg]) (by have := HI.out; omega) (by rw [msgs_len]; have := HI.out; omega)).mono ?_
          rintro e w3 ⟨rfl, ha, hb⟩
          obtain ⟨p2, hp2⟩ : ∃ p2, p2 = pt + 1 := ⟨_, rfl⟩
          have hms : msgs hd (pt - hd) ++ [msg pt] = msgs hd (p2 - hd) := by
            have h1 := msgs_snoc hd (pt - hd)
            rw [show hd + (pt - hd) = pt from by have := HI.out; omega, show pt - hd + 1 = p2 - hd from by have := HI.out; omega] at h1
            exact h1
          rw [hms, ← hp2] at ha
          have HA3 := Bx.mk ha
          have HB3 := Bx.mk hb
          have HI2 : Bx (hd ≤ st ∧ st ≤ p2 ∧ p2 ≤ i + 1 ∧ i + 1 ≤ 300 ∧ st ≤ hd + W) := ⟨by have h1 := HI.out; have h2 := HI3.out; omega⟩
          have hwp : wrap64 ((pt : Int) + 1) = (p2 : Int) := by have := HI.out; unfold wrap64; omega
          have HWP := Bx.mk hwp
          clear ha hb hms hp2 HA2 HB2 HC hwp
          go_wp2_with fail
          rw [HWP.out]
          refine (again_c HA3.out).mono ?_
          rintro e w4 ⟨v, rfl, hr, hb⟩
          have hlen := items_len ((base + (hd : Int)) % 65536) (msgs hd (p2 - hd)) 0 (st - hd)
          have HXS : Bx (∀ k : Nat, k < st - hd → rd_T35 (items ((base + (hd : Int)) % 65536) (msgs hd (p2 - hd)) 0 (st - hd)) (k : Int) = ⟨(base + ((hd + k : Nat) : Int)) % 65536, msg (hd + k)⟩) := ⟨fun k hk => by
            have h1 := msgs_get hd (p2 - hd) k (by have := HI2.out; omega)
            have h2 : ((base + (hd : Int)) % 65536 + (k : Int)) % 65536 = (base + ((hd + k : Nat) : Int)) % 65536 := by omega
            have h3 : (items ((base + (hd : Int)) % 65536) (msgs hd (p2 - hd)) 0 (st - hd)).getD k z35 = ⟨((base + (hd : Int)) % 65536 + ((0 + k : Nat) : Int)) % 65536, (msgs hd (p2 - hd)).getD (0 + k) []⟩ := by
              unfold items
              rw [List.getD_eq_getElem?_getD, List.getElem?_map, List.getElem?_range hk]
              rfl
            rw [Nat.zero_add, h1, h2] at h3
            exact h3⟩
          generalize items ((base + (hd : Int)) % 65536) (msgs hd (p2 - hd)) 0 (st - hd) = xs at *
          obtain ⟨A5, c5, rfl, hc5, hC5⟩ := Kd.R_reads hr
          have HC5 := Bx.mk hC5
          have HA4 := Bx.mk (SA.below HA3.out hb)
          have HB4 := Bx.mk (HB3.out.trans (hb.mono HA3.out.size))
          have HXL := Bx.mk hlen
          have HCL := Bx.mk hc5
          have hleft := left_c HA4.out
          rw [msgs_len, show ((p2 - hd : Nat) : Int) = wrap64 ((p2 : Int) - (hd : Int)) from by have := HI2.out; unfold wrap64; omega] at hleft
          have hsaid := said_c HA4.out
          have d1 : wrap64 ((st : Int) - (hd : Int)) = (xs.length : Int) := by have := HI2.out; rw [hlen]; unfold wrap64; omega
          rw [← hlen] at hsaid
          clear hlen hr hb hc5 hC5
          go_wp2_with (first | (go_at_call 15; (with_reducible refine hleft.mono ?_); rintro e _ ⟨rfl, rfl⟩) | (go_at_call 16; (with_reducible refine hsaid.mono ?_); rintro e _ ⟨rfl, rfl⟩))
          clear d1 hleft hsaid
          go_loopw [22] (fun v wr => ∃ k : Nat, k ≤ xs.length ∧ v = .int .i64 (k : Int) ∧ Bx (SB w1.heap.size wr g ch W ((base + (hd : Int)) % 65536) (msgs hd (p2 - hd)) (st - hd) p2) ∧ Bx (Below w1.heap.size w1 wr) ∧ Bx (k35.C wr A5 xs.length xs)) (fun v _ => xs.length - (intOf v).toNat)
          case atStart => exact ⟨0, by omega, rfl, HA4, HB4, HC5⟩
          case round =>
            clear HA4 HB4 HC5 HA3 HB3
            obtain ⟨k, hk, rfl, HA, HB, HC⟩ := hrel
            have k0 : (0 : Int) ≤ (k : Int) := by omega
            by_cases hkx : k < xs.length
            · have k1 : (k : Int) < (xs.length : Int) := by omega
              obtain ⟨ad5, A1, c1, rfl, ca, cb, hlc, hCb⟩ := at_T35 HC.out (k : Int) k0 k1
              have hrd := HXS.out k (by rw [← HXL.out]; exact hkx)
              rw [hrd] at ca cb hlc hCb
              rw [Int.toNat_natCast] at ca cb
              simp only at ca cb hlc hCb
              have hkb : hd + k ≤ 1000 ∧ xs.length ≤ 300 := by have h1 := HXL.out; have h2 := HI2.out; omega
              obtain ⟨p, hp⟩ : ∃ p, p = hd + k := ⟨_, rfl⟩
              rw [← hp] at ca cb hlc hCb
              obtain ⟨sq, hsq⟩ : ∃ sq, sq = (base + (p : Int)) % 65536 := ⟨_, rfl⟩
              rw [← hsq] at ca
              have e1 := wrapA base hd HBS.out.1 HBS.out.2 (by omega)
              have e2 := wrapB base hd k HBS.out.1 HBS.out.2 hkb.1
              have e3 := tmodB base hd k HBS.out.1
              rw [← hp, ← hsq] at e3
              have e4 := wrapN hd k hkb.1
              rw [← hp] at e4
              have HKB := Bx.mk hkb
              have HCb := Bx.mk hCb
              have HLC := Bx.mk hlc
              have HKX := Bx.mk (And.intro hkx hkb.2)
              clear hlc hCb hrd hkx hk hp hsq hkb
              go_wp2_with fail
              have hbl := (Below.refl wr.heap.size wr).alloc (Nat.le_refl _) (.cells #[.int .u8 ((p : Int) % 256), .int .u8 ((p : Int) / 256 % 256)] 5)
              have HA6 := Bx.mk (SA.below HA.out hbl)
              have HB6 := Bx.mk (HB.out.alloc HA.out.size (.cells #[.int .u8 ((p : Int) % 256), .int .u8 ((p : Int) / 256 % 256)] 5))
              have HC6 := Bx.mk (Kd.C_below HC.out hbl)
              refine (catenaryref00_EqBytes.calls A1 c1 (msg p) (some ⟨wr.heap.size, 0, none⟩) 2 (msg p) true _ (Kd.C_below HCb.out hbl) HLC.out (bytes2 wr ((p : Int) % 256) ((p : Int) / 256 % 256) _ rfl) (by simp [msg]) (by unfold catenaryref00_EqBytes.f; simp)).mono ?_
              rintro e w5 ⟨rfl, hdr⟩
              obtain ⟨nd, rfl⟩ := hdr.out
              have HA7 := Bx.mk (SA.below HA6.out (pw_below_drewN (Below.refl _ _) nd))
              have HB7 := Bx.mk (HB6.out.trans (pw_below_drewN (Below.refl w1.heap.size _) nd))
              have HC7 := Bx.mk (Kd.C_drewN HC6.out nd)
              clear hbl HA6 HB6 HC6 hdr ca cb e1 e2 e3 e4 HA HB HC HCb HLC
              generalize (wr.alloc (.cells #[.int .u8 ((p : Int) % 256), .int .u8 ((p : Int) / 256 % 256)] 5)).drewN nd = w6 at *
              go_wp2_with fail
              have hwk : wrap64 ((k : Int) + 1) = ((k + 1 : Nat) : Int) := by have := HKX.out; unfold wrap64; omega
              rw [hwk]
              go_roundw
              case rel => exact ⟨k + 1, by have := HKX.out; omega, rfl, HA7, HB7, HC7⟩
              case measure => have := HKX.out; simp only [intOf]; omega
            · have k1 : ¬ (k : Int) < (xs.length : Int) := by omega
              go_wp2_with fail
              have hwi : wrap64 ((i : Int) + 1) = ((i + 1 : Nat) : Int) := by have := HI2.out; unfold wrap64; omega
              rw [hwi]
              go_roundw
              case rel => exact ⟨i + 1, p2, st, hd, rfl, rfl, rfl, rfl, HI2, HA, HB⟩
              case measure => have := HI2.out; simp only [intOf]; omega
        · rw [h5] at h4
          go_wp2_with fail
          refine (fresh_b HA.out HB.out).mono ?_
          rintro e w3 ⟨v, rfl, hr, ha, hb⟩
          obtain ⟨s2, hs2⟩ : ∃ s2, s2 = hd + min W (pt - hd) := ⟨_, rfl⟩
          have hnw : min W (msgs hd (pt - hd)).length - (st - hd) = s2 - st := by rw [msgs_len]; have := HI.out; omega
          have hsd : min W (msgs hd (pt - hd)).length = s2 - hd := by rw [msgs_len]; omega
          rw [hnw] at hr
          rw [hsd] at ha
          have HS2 := Bx.mk (show st ≤ s2 ∧ s2 ≤ pt ∧ s2 ≤ hd + W ∧ (s2 = pt ∧ pt ≤ hd + W ∨ s2 = hd + W ∧ hd + W < pt) by have := HI.out; omega)
          have hlen := items_len ((base + (hd : Int)) % 65536) (msgs hd (pt - hd)) (st - hd) (s2 - st)
          have HXS : Bx (∀ k : Nat, k < s2 - st → rd_T35 (items ((base + (hd : Int)) % 65536) (msgs hd (pt - hd)) (st - hd) (s2 - st)) (k : Int) = ⟨(base + ((st + k : Nat) : Int)) % 65536, msg (st + k)⟩) := ⟨fun k hk => by
            have h1 := msgs_get hd (pt - hd) (st - hd + k) (by have := HI.out; have := HS2.out; omega)
            have h4 : hd + (st - hd + k) = st + k := by have := HI.out; omega
            rw [h4] at h1
            have h2 : ((base + (hd : Int)) % 65536 + ((st - hd + k : Nat) : Int)) % 65536 = (base + ((st + k : Nat) : Int)) % 65536 := by have := HI.out; omega
            have h3 : (items ((base + (hd : Int)) % 65536) (msgs hd (pt - hd)) (st - hd) (s2 - st)).getD k z35 = ⟨((base + (hd : Int)) % 65536 + ((st - hd + k : Nat) : Int)) % 65536, (msgs hd (pt - hd)).getD (st - hd + k) []⟩ := by
              unfold items
              rw [List.getD_eq_getElem?_getD, List.getElem?_map, List.getElem?_range hk]
              rfl
            rw [h1, h2] at h3
            exact h3⟩
          generalize items ((base + (hd : Int)) % 65536) (msgs hd (pt - hd)) (st - hd) (s2 - st) = ys at *
          obtain ⟨A6, c6, rfl, hc6, hC6⟩ := Kd.R_reads hr
          have HC3 := Bx.mk hC6
          have HA3 := Bx.mk ha
          have HB3 := Bx.mk hb
          have HXL := Bx.mk hlen
          clear hlen hr ha hb hc6 hC6 hnw hsd hs2 HA HB HBW
          go_wp2_with fail
          go_loopw [12, 17] (fun v12 v17 wr => ∃ k p : Nat, k ≤ ys.length ∧ v17 = .int .i64 (k : Int) ∧ v12 = .int .i64 (p : Int) ∧ Bx (p = st + k) ∧ Bx (SB w1.heap.size wr g ch W ((base + (hd : Int)) % 65536) (msgs hd (pt - hd)) (s2 - hd) pt) ∧ Bx (Below w1.heap.size w1 wr) ∧ Bx (k35.C wr A6 ys.length ys)) (fun _ v _ => ys.length - (intOf v).toNat)
          case atStart => exact ⟨0, st, by omega, rfl, rfl, ⟨rfl⟩, HA3, HB3, HC3⟩
          case round =>
            clear HA3 HB3 HC3
            obtain ⟨k, p, hk, rfl, rfl, HP, HA, HB, HC⟩ := hrel
            have k0 : (0 : Int) ≤ (k : Int) := by omega
            by_cases hkx : k < ys.length
            · have k1 : (k : Int) < (ys.length : Int) := by omega
              obtain ⟨ad5, A1, c1, rfl, ca, cb, hlc, hCb⟩ := at_T35 HC.out (k : Int) k0 k1
              have hrd := HXS.out k (by rw [← HXL.out]; exact hkx)
              rw [hrd] at ca cb hlc hCb
              rw [Int.toNat_natCast] at ca cb
              simp only at ca cb hlc hCb
              have hkb : st + k ≤ 999 ∧ ys.length ≤ 300 := by have h1 := HXL.out; have h2 := HI.out; have h3 := HS2.out; omega
              have hp := HP.out
              rw [← hp] at ca cb hlc hCb
              obtain ⟨sq, hsq⟩ : ∃ sq, sq = (base + (p : Int)) % 65536 := ⟨_, rfl⟩
              rw [← hsq] at ca
              have hp9 : p ≤ 999 := by omega
              have e1 := wrapA base p HBS.out.1 HBS.out.2 (by omega)
              have e3 := tmodA base p HBS.out.1
              rw [← hsq] at e3
              have HKB := Bx.mk (show p = st + k ∧ p ≤ 999 ∧ k < ys.length ∧ ys.length ≤ 300 from ⟨hp, hp9, hkx, hkb.2⟩)
              have HCb := Bx.mk hCb
              have HLC := Bx.mk hlc
              clear hlc hCb hrd hkx hk hp hsq hkb hp9
              go_wp2_with fail
              have hbl := (Below.refl wr.heap.size wr).alloc (Nat.le_refl _) (.cells #[.int .u8 ((p : Int) % 256), .int .u8 ((p : Int) / 256 % 256)] 5)
              have HA6 := Bx.mk (SA.below HA.out hbl)
              have HB6 := Bx.mk (HB.out.alloc HA.out.size (.cells #[.int .u8 ((p : Int) % 256), .int .u8 ((p : Int) / 256 % 256)] 5))
              have HC6 := Bx.mk (Kd.C_below HC.out hbl)
              refine (catenaryref00_EqBytes.calls A1 c1 (msg p) (some ⟨wr.heap.size, 0, none⟩) 2 (msg p) true _ (Kd.C_below HCb.out hbl) HLC.out (bytes2 wr ((p : Int) % 256) ((p : Int) / 256 % 256) _ rfl) (by simp [msg]) (by unfold catenaryref00_EqBytes.f; simp)).mono ?_
              rintro e w5 ⟨rfl, hdr⟩
              obtain ⟨nd, rfl⟩ := hdr.out
              have HA7 := Bx.mk (SA.below HA6.out (pw_below_drewN (Below.refl _ _) nd))
              have HB7 := Bx.mk (HB6.out.trans (pw_below_drewN (Below.refl w1.heap.size _) nd))
              have HC7 := Bx.mk (Kd.C_drewN HC6.out nd)
              clear hbl HA6 HB6 HC6 hdr ca cb e1 e3 HA HB HC HCb HLC
              generalize (wr.alloc (.cells #[.int .u8 ((p : Int) % 256), .int .u8 ((p : Int) / 256 % 256)] 5)).drewN nd = w6 at *
              go_wp2_with fail
              have hwk : wrap64 ((k : Int) + 1) = ((k + 1 : Nat) : Int) := by have := HKB.out; unfold wrap64; omega
              have hwp : wrap64 ((p : Int) + 1) = ((p + 1 : Nat) : Int) := by have := HKB.out; unfold wrap64; omega
              rw [hwk, hwp]
              go_roundw
              case rel => exact ⟨k + 1, p + 1, by have := HKB.out; omega, rfl, rfl, ⟨by have := HKB.out; omega⟩, HA7, HB7, HC7⟩
              case measure => have := HKB.out; simp only [intOf]; omega
            · have k1 : ¬ (k : Int) < (ys.length : Int) := by omega
              have hps : s2 = p := by have h1 := HXL.out; have h2 := HS2.out; have h3 := HP.out; omega
              subst hps
              have HA9 := Bx.mk HA.out
              have HB9 := Bx.mk HB.out
              have HI9 : Bx (hd ≤ s2 ∧ s2 ≤ pt ∧ pt ≤ i + 1 ∧ i + 1 ≤ 300 ∧ s2 ≤ hd + W) := ⟨by have h1 := HI.out; have h2 := HS2.out; have h3 := HI3.out; omega⟩
              have f1 := fr1 s2 hd W HI9.out.1 HI9.out.2.2.2.2 HWW.out.2
              have f2 := fr2 s2 hd W HI9.out.1 HI9.out.2.2.2.2
              have f3 := fr3 hd W (by have := HI9.out; omega) HWW.out.2
              have f4 := fr4 s2 hd W pt HS2.out.2.2.2
              clear HC HA HB
              go_wp2_with fail
              clear f1 f2 f3 f4
              refine (again_c HA9.out).mono ?_
              rintro e w4 ⟨v, rfl, hr, hb⟩
              have hlen := items_len ((base + (hd : Int)) % 65536) (msgs hd (pt - hd)) 0 (s2 - hd)
              have HXS : Bx (∀ k : Nat, k < s2 - hd → rd_T35 (items ((base + (hd : Int)) % 65536) (msgs hd (pt - hd)) 0 (s2 - hd)) (k : Int) = ⟨(base + ((hd + k : Nat) : Int)) % 65536, msg (hd + k)⟩) := ⟨fun k hk => by
                have h1 := msgs_get hd (pt - hd) k (by have := HI9.out; omega)
                have h2 : ((base + (hd : Int)) % 65536 + (k : Int)) % 65536 = (base + ((hd + k : Nat) : Int)) % 65536 := by omega
                have h3 : (items ((base + (hd : Int)) % 65536) (msgs hd (pt - hd)) 0 (s2 - hd)).getD k z35 = ⟨((base + (hd : Int)) % 65536 + ((0 + k : Nat) : Int)) % 65536, (msgs hd (pt - hd)).getD (0 + k) []⟩ := by
                  unfold items
                  rw [List.getD_eq_getElem?_getD, List.getElem?_map, List.getElem?_range hk]
                  rfl
                rw [Nat.zero_add, h1, h2] at h3
                exact h3⟩
              generalize items ((base + (hd : Int)) % 65536) (msgs hd (pt - hd)) 0 (s2 - hd) = xs at *
              obtain ⟨A5, c5, rfl, hc5, hC5⟩ := Kd.R_reads hr
              have HC5 := Bx.mk hC5
              have HA4 := Bx.mk (SA.below HA9.out hb)
              have HB4 := Bx.mk (HB9.out.trans (hb.mono HA9.out.size))
              have HXL := Bx.mk hlen
              have HCL := Bx.mk hc5
              have hleft := left_c HA4.out
              rw [msgs_len, show ((pt - hd : Nat) : Int) = wrap64 ((pt : Int) - (hd : Int)) from by have := HI9.out; unfold wrap64; omega] at hleft
              have hsaid := said_c HA4.out
              have d1 : wrap64 ((s2 : Int) - (hd : Int)) = (xs.length : Int) := by have := HI9.out; rw [hlen]; unfold wrap64; omega
              rw [← hlen] at hsaid
              clear hlen hr hb hc5 hC5
              go_wp2_with (first | (go_at_call 15; (with_reducible refine hleft.mono ?_); rintro e _ ⟨rfl, rfl⟩) | (go_at_call 16; (with_reducible refine hsaid.mono ?_); rintro e _ ⟨rfl, rfl⟩))
              clear d1 hleft hsaid
              go_loopw [22] (fun v wr => ∃ k : Nat, k ≤ xs.length ∧ v = .int .i64 (k : Int) ∧ Bx (SB w1.heap.size wr g ch W ((base + (hd : Int)) % 65536) (msgs hd (pt - hd)) (s2 - hd) pt) ∧ Bx (Below w1.heap.size w1 wr) ∧ Bx (k35.C wr A5 xs.length xs)) (fun v _ => xs.length - (intOf v).toNat)
              case atStart => exact ⟨0, by omega, rfl, HA4, HB4, HC5⟩
              case round =>
                clear HA4 HB4 HC5 HA9 HB9
                obtain ⟨k, hk, rfl, HA, HB, HC⟩ := hrel
                have k0 : (0 : Int) ≤ (k : Int) := by omega
                by_cases hkx : k < xs.length
                · have k1 : (k : Int) < (xs.length : Int) := by omega
                  obtain ⟨ad5, A1, c1, rfl, ca, cb, hlc, hCb⟩ := at_T35 HC.out (k : Int) k0 k1
                  have hrd := HXS.out k (by rw [← HXL.out]; exact hkx)
                  rw [hrd] at ca cb hlc hCb
                  rw [Int.toNat_natCast] at ca cb
                  simp only at ca cb hlc hCb
                  have hkb : hd + k ≤ 1000 ∧ xs.length ≤ 300 := by have h1 := HXL.out; have h2 := HI9.out; omega
                  obtain ⟨p, hp⟩ : ∃ p, p = hd + k := ⟨_, rfl⟩
                  rw [← hp] at ca cb hlc hCb
                  obtain ⟨sq, hsq⟩ : ∃ sq, sq = (base + (p : Int)) % 65536 := ⟨_, rfl⟩
                  rw [← hsq] at ca
                  have e1 := wrapA base hd HBS.out.1 HBS.out.2 (by omega)
                  have e2 := wrapB base hd k HBS.out.1 HBS.out.2 hkb.1
                  have e3 := tmodB base hd k HBS.out.1
                  rw [← hp, ← hsq] at e3
                  have e4 := wrapN hd k hkb.1
                  rw [← hp] at e4
                  have HKB := Bx.mk hkb
                  have HCb := Bx.mk hCb
                  have HLC := Bx.mk hlc
                  have HKX := Bx.mk (And.intro hkx hkb.2)
                  clear hlc hCb hrd hkx hk hp hsq hkb
                  go_wp2_with fail
                  have hbl := (Below.refl wr.heap.size wr).alloc (Nat.le_refl _) (.cells #[.int .u8 ((p : Int) % 256), .int .u8 ((p : Int) / 256 % 256)] 5)
                  have HA6 := Bx.mk (SA.below HA.out hbl)
                  have HB6 := Bx.mk (HB.out.alloc HA.out.size (.cells #[.int .u8 ((p : Int) % 256), .int .u8 ((p : Int) / 256 % 256)] 5))
                  have HC6 := Bx.mk (Kd.C_below HC.out hbl)
                  refine (catenaryref00_EqBytes.calls A1 c1 (msg p) (some ⟨wr.heap.size, 0, none⟩) 2 (msg p) true _ (Kd.C_below HCb.out hbl) HLC.out (bytes2 wr ((p : Int) % 256) ((p : Int) / 256 % 256) _ rfl) (by simp [msg]) (by unfold catenaryref00_EqBytes.f; simp)).mono ?_
                  rintro e w5 ⟨rfl, hdr⟩
                  obtain ⟨nd, rfl⟩ := hdr.out
                  have HA7 := Bx.mk (SA.below HA6.out (pw_below_drewN (Below.refl _ _) nd))
                  have HB7 := Bx.mk (HB6.out.trans (pw_below_drewN (Below.refl w1.heap.size _) nd))
                  have HC7 := Bx.mk (Kd.C_drewN HC6.out nd)
                  clear hbl HA6 HB6 HC6 hdr ca cb e1 e2 e3 e4 HA HB HC HCb HLC
                  generalize (wr.alloc (.cells #[.int .u8 ((p : Int) % 256), .int .u8 ((p : Int) / 256 % 256)] 5)).drewN nd = w6 at *
                  go_wp2_with fail
                  have hwk : wrap64 ((k : Int) + 1) = ((k + 1 : Nat) : Int) := by have := HKX.out; unfold wrap64; omega
                  rw [hwk]
                  go_roundw
                  case rel => exact ⟨k + 1, by have := HKX.out; omega, rfl, HA7, HB7, HC7⟩
                  case measure => have := HKX.out; simp only [intOf]; omega
                · have k1 : ¬ (k : Int) < (xs.length : Int) := by omega
                  go_wp2_with fail
                  have hwi : wrap64 ((i : Int) + 1) = ((i + 1 : Nat) : Int) := by have := HI9.out; unfold wrap64; omega
                  rw [hwi]
                  go_roundw
                  case rel => exact ⟨i + 1, pt, s2, hd, rfl, rfl, rfl, rfl, HI9, HA, HB⟩
                  case measure => have := HI9.out; simp only [intOf]; omega
        · rw [h5] at h4
          have q1 : Int.tdiv x 4 = x / 4 := Int.tdiv_eq_ediv_of_nonneg x0
          have q0 : wrap64 (x / 4) = x / 4 := by unfold wrap64; omega
          obtain ⟨kk, q2, hk6⟩ : ∃ kk : Nat, Int.tmod (x / 4) 6 = (kk : Int) ∧ kk < 6 := by
            refine ⟨(x / 4 % 6).toNat, ?_, by omega⟩
            rw [Int.tmod_eq_emod_of_nonneg (by omega)]; omega
          have hkb : hd + kk ≤ 1000 := by have := HI.out; omega
          obtain ⟨nh, hh2⟩ : ∃ nh, nh = hd + kk := ⟨_, rfl⟩
          have HAK : Bx (0 ≤ (base + (nh : Int)) % 65536 ∧ (base + (nh : Int)) % 65536 ≤ 65535 ∧ ((base + (nh : Int)) % 65536 - (base + (hd : Int)) % 65536) % 65536 = ((kk : Nat) : Int)) := ⟨by rw [hh2]; exact heaK base hd kk hk6⟩
          obtain ⟨ack, hack⟩ : ∃ ack, ack = (base + (nh : Int)) % 65536 := ⟨_, rfl⟩
          rw [← hack] at HAK
          have HE : Bx ((wrap64 (wrap64 (base + (hd : Int)) + (kk : Int))).tmod 65536 = ack ∧ wrap64 ((hd : Int) + (kk : Int)) = (nh : Int)) := ⟨by rw [wrapA base hd HBS.out.1 HBS.out.2 (by omega), wrapB base hd kk HBS.out.1 HBS.out.2 hkb, tmodB base hd kk HBS.out.1, wrapN hd kk hkb, ← hh2, ← hack]; exact ⟨rfl, rfl⟩⟩
          have HH2 := Bx.mk (And.intro hh2 (And.intro hack hk6))
          have HKB := Bx.mk hkb
          clear hkb hh2 hack hk6 h5 x0 x1
          go_wp2_with fail
          rw [HE.out.1]
          clear q0 q1 q2 h4
          by_cases hok : kk ≤ st - hd
          · have HOK := Bx.mk hok
            have HLE : Bx (nh ≤ st) := ⟨by have h1 := HH2.out.1; have h3 := HI.out; omega⟩
            clear hok
            refine (heard_b ack kk HA.out HB.out HAK.out.1 HAK.out.2.1 HAK.out.2.2 HOK.out).mono ?_
            rintro e w3 ⟨rfl, ha, hb⟩
            rw [msgs_drop hd (pt - hd) kk (by have h1 := HOK.out; have h2 := HI.out; omega), ← HH2.out.1, HH2.out.2.1, show pt - hd - kk = pt - nh from by have := HH2.out.1; omega, show st - hd - kk = st - nh from by have := HH2.out.1; omega] at ha
            have HA3 := Bx.mk ha
            have HB3 := Bx.mk hb
            have HI2 : Bx (nh ≤ st ∧ st ≤ pt ∧ pt ≤ i + 1 ∧ i + 1 ≤ 300 ∧ st ≤ nh + W) := ⟨by have h1 := HI.out; have h3 := HI3.out; have h4 := HOK.out; have h5 := HH2.out.1; omega⟩
            clear ha hb HA HB HBW
            have d1 := hea1 nh st HLE.out
            rw [← HE.out.2] at d1
            go_wp2_with fail
            clear d1
            rw [HE.out.2]
            refine (again_c HA3.out).mono ?_
            rintro e w4 ⟨v, rfl, hr, hb⟩
            have hlen := items_len ((base + (nh : Int)) % 65536) (msgs nh (pt - nh)) 0 (st - nh)
            have HXS : Bx (∀ k : Nat, k < st - nh → rd_T35 (items ((base + (nh : Int)) % 65536) (msgs nh (pt - nh)) 0 (st - nh)) (k : Int) = ⟨(base + ((nh + k : Nat) : Int)) % 65536, msg (nh + k)⟩) := ⟨fun k hk => by
              have h1 := msgs_get nh (pt - nh) k (by have := HI2.out; omega)
              have h2 : ((base + (nh : Int)) % 65536 + (k : Int)) % 65536 = (base + ((nh + k : Nat) : Int)) % 65536 := by omega
              have h3 : (items ((base + (nh : Int)) % 65536) (msgs nh (pt - nh)) 0 (st - nh)).getD k z35 = ⟨((base + (nh : Int)) % 65536 + ((0 + k : Nat) : Int)) % 65536, (msgs nh (pt - nh)).getD (0 + k) []⟩ := by
                unfold items
                rw [List.getD_eq_getElem?_getD, List.getElem?_map, List.getElem?_range hk]
                rfl
              rw [Nat.zero_add, h1, h2] at h3
              exact h3⟩
            generalize items ((base + (nh : Int)) % 65536) (msgs nh (pt - nh)) 0 (st - nh) = xs at *
            obtain ⟨A5, c5, rfl, hc5, hC5⟩ := Kd.R_reads hr
            have HC5 := Bx.mk hC5
            have HA4 := Bx.mk (SA.below HA3.out hb)
            have HB4 := Bx.mk (HB3.out.trans (hb.mono HA3.out.size))
            have HXL := Bx.mk hlen
            have HCL := Bx.mk hc5
            have hleft := left_c HA4.out
            rw [msgs_len, show ((pt - nh : Nat) : Int) = wrap64 ((pt : Int) - (nh : Int)) from by have := HI2.out; unfold wrap64; omega] at hleft
            have hsaid := said_c HA4.out
            have d1 : wrap64 ((st : Int) - (nh : Int)) = (xs.length : Int) := by have := HI2.out; rw [hlen]; unfold wrap64; omega
            rw [← hlen] at hsaid
            clear hlen hr hb hc5 hC5
            go_wp2_with (first | (go_at_call 15; (with_reducible refine hleft.mono ?_); rintro e _ ⟨rfl, rfl⟩) | (go_at_call 16; (with_reducible refine hsaid.mono ?_); rintro e _ ⟨rfl, rfl⟩))
            clear d1 hleft hsaid
            go_loopw [22] (fun v wr => ∃ k : Nat, k ≤ xs.length ∧ v = .int .i64 (k : Int) ∧ Bx (SB w1.heap.size wr g ch W ((base + (nh : Int)) % 65536) (msgs nh (pt - nh)) (st - nh) pt) ∧ Bx (Below w1.heap.size w1 wr) ∧ Bx (k35.C wr A5 xs.length xs)) (fun v _ => xs.length - (intOf v).toNat)
            case atStart => exact ⟨0, by omega, rfl, HA4, HB4, HC5⟩
            case round =>
              clear HA4 HB4 HC5 HA3 HB3
              obtain ⟨k, hk, rfl, HA, HB, HC⟩ := hrel
              have k0 : (0 : Int) ≤ (k : Int) := by omega
              by_cases hkx : k < xs.length
              · have k1 : (k : Int) < (xs.length : Int) := by omega
                obtain ⟨ad5, A1, c1, rfl, ca, cb, hlc, hCb⟩ := at_T35 HC.out (k : Int) k0 k1
                have hrd := HXS.out k (by rw [← HXL.out]; exact hkx)
                rw [hrd] at ca cb hlc hCb
                rw [Int.toNat_natCast] at ca cb
                simp only at ca cb hlc hCb
                have hkb : nh + k ≤ 1000 ∧ xs.length ≤ 300 := by have h1 := HXL.out; have h2 := HI2.out; omega
                obtain ⟨p, hp⟩ : ∃ p, p = nh + k := ⟨_, rfl⟩
                rw [← hp] at ca cb hlc hCb
                obtain ⟨sq, hsq⟩ : ∃ sq, sq = (base + (p : Int)) % 65536 := ⟨_, rfl⟩
                rw [← hsq] at ca
                have e1 := wrapA base nh HBS.out.1 HBS.out.2 (by omega)
                have e2 := wrapB base nh k HBS.out.1 HBS.out.2 hkb.1
                have e3 := tmodB base nh k HBS.out.1
                rw [← hp, ← hsq] at e3
                have e4 := wrapN nh k hkb.1
                rw [← hp] at e4
                have HKB := Bx.mk hkb
                have HCb := Bx.mk hCb
                have HLC := Bx.mk hlc
                have HKX := Bx.mk (And.intro hkx hkb.2)
                clear hlc hCb hrd hkx hk hp hsq hkb
                go_wp2_with fail
                have hbl := (Below.refl wr.heap.size wr).alloc (Nat.le_refl _) (.cells #[.int .u8 ((p : Int) % 256), .int .u8 ((p : Int) / 256 % 256)] 5)
                have HA6 := Bx.mk (SA.below HA.out hbl)
                have HB6 := Bx.mk (HB.out.alloc HA.out.size (.cells #[.int .u8 ((p : Int) % 256), .int .u8 ((p : Int) / 256 % 256)] 5))
                have HC6 := Bx.mk (Kd.C_below HC.out hbl)
                refine (catenaryref00_EqBytes.calls A1 c1 (msg p) (some ⟨wr.heap.size, 0, none⟩) 2 (msg p) true _ (Kd.C_below HCb.out hbl) HLC.out (bytes2 wr ((p : Int) % 256) ((p : Int) / 256 % 256) _ rfl) (by simp [msg]) (by unfold catenaryref00_EqBytes.f; simp)).mono ?_
                rintro e w5 ⟨rfl, hdr⟩
                obtain ⟨nd, rfl⟩ := hdr.out
                have HA7 := Bx.mk (SA.below HA6.out (pw_below_drewN (Below.refl _ _) nd))
                have HB7 := Bx.mk (HB6.out.trans (pw_below_drewN (Below.refl w1.heap.size _) nd))
                have HC7 := Bx.mk (Kd.C_drewN HC6.out nd)
                clear hbl HA6 HB6 HC6 hdr ca cb e1 e2 e3 e4 HA HB HC HCb HLC
                generalize (wr.alloc (.cells #[.int .u8 ((p : Int) % 256), .int .u8 ((p : Int) / 256 % 256)] 5)).drewN nd = w6 at *
                go_wp2_with fail
                have hwk : wrap64 ((k : Int) + 1) = ((k + 1 : Nat) : Int) := by have := HKX.out; unfold wrap64; omega
                rw [hwk]
                go_roundw
                case rel => exact ⟨k + 1, by have := HKX.out; omega, rfl, HA7, HB7, HC7⟩
                case measure => have := HKX.out; simp only [intOf]; omega
              · have k1 : ¬ (k : Int) < (xs.length : Int) := by omega
                go_wp2_with fail
                have hwi : wrap64 ((i : Int) + 1) = ((i + 1 : Nat) : Int) := by have := HI2.out; unfold wrap64; omega
                rw [hwi]
                go_roundw
                case rel => exact ⟨i + 1, pt, st, nh, rfl, rfl, rfl, rfl, HI2, HA, HB⟩
                case measure => have := HI2.out; simp only [intOf]; omega
          · have HOK := Bx.mk hok
            have HLE : Bx (¬ nh ≤ st) := ⟨by have h1 := HH2.out.1; have h3 := HI.out; omega⟩
            clear hok
            refine (heard_far ack HA.out HAK.out.1 HAK.out.2.1 (by rw [HAK.out.2.2]; have := HOK.out; omega)).mono ?_
            rintro e w3 ⟨rfl, hb⟩
            have HA3 : Bx (SB w1.heap.size w3 g ch W ((base + (hd : Int)) % 65536) (msgs hd (pt - hd)) (st - hd) pt) := ⟨SA.below HA.out hb⟩
            have HB3 := Bx.mk (HB.out.trans (hb.mono (SB.size HA.out)))
            have HI2 : Bx (hd ≤ st ∧ st ≤ pt ∧ pt ≤ i + 1 ∧ i + 1 ≤ 300 ∧ st ≤ hd + W) := ⟨by have h1 := HI.out; have h3 := HI3.out; omega⟩
            clear hb HA HB HBW
            have d1 := hea2 nh st HLE.out
            rw [← HE.out.2] at d1
            go_wp2_with fail
            clear d1
            refine (again_c HA3.out).mono ?_
            rintro e w4 ⟨v, rfl, hr, hb⟩
            have hlen := items_len ((base + (hd : Int)) % 65536) (msgs hd (pt - hd)) 0 (st - hd)
            have HXS : Bx (∀ k : Nat, k < st - hd → rd_T35 (items ((base + (hd : Int)) % 65536) (msgs hd (pt - hd)) 0 (st - hd)) (k : Int) = ⟨(base + ((hd + k : Nat) : Int)) % 65536, msg (hd + k)⟩) := ⟨fun k hk => by
              have h1 := msgs_get hd (pt - hd) k (by have := HI2.out; omega)
              have h2 : ((base + (hd : Int)) % 65536 + (k : Int)) % 65536 = (base + ((hd + k : Nat) : Int)) % 65536 := by omega
              have h3 : (items ((base + (hd : Int)) % 65536) (msgs hd (pt - hd)) 0 (st - hd)).getD k z35 = ⟨((base + (hd : Int)) % 65536 + ((0 + k : Nat) : Int)) % 65536, (msgs hd (pt - hd)).getD (0 + k) []⟩ := by
                unfold items
                rw [List.getD_eq_getElem?_getD, List.getElem?_map, List.getElem?_range hk]
                rfl
              rw [Nat.zero_add, h1, h2] at h3
              exact h3⟩
            generalize items ((base + (hd : Int)) % 65536) (msgs hd (pt - hd)) 0 (st - hd) = xs at *
            obtain ⟨A5, c5, rfl, hc5, hC5⟩ := Kd.R_reads hr
            have HC5 := Bx.mk hC5
            have HA4 := Bx.mk (SA.below HA3.out hb)
            have HB4 := Bx.mk (HB3.out.trans (hb.mono HA3.out.size))
            have HXL := Bx.mk hlen
            have HCL := Bx.mk hc5
            have hleft := left_c HA4.out
            rw [msgs_len, show ((pt - hd : Nat) : Int) = wrap64 ((pt : Int) - (hd : Int)) from by have := HI2.out; unfold wrap64; omega] at hleft
            have hsaid := said_c HA4.out
            have d1 : wrap64 ((st : Int) - (hd : Int)) = (xs.length : Int) := by have := HI2.out; rw [hlen]; unfold wrap64; omega
            rw [← hlen] at hsaid
            clear hlen hr hb hc5 hC5
            go_wp2_with (first | (go_at_call 15; (with_reducible refine hleft.mono ?_); rintro e _ ⟨rfl, rfl⟩) | (go_at_call 16; (with_reducible refine hsaid.mono ?_); rintro e _ ⟨rfl, rfl⟩))
            clear d1 hleft hsaid
            go_loopw [22] (fun v wr => ∃ k : Nat, k ≤ xs.length ∧ v = .int .i64 (k : Int) ∧ Bx (SB w1.heap.size wr g ch W ((base + (hd : Int)) % 65536) (msgs hd (pt - hd)) (st - hd) pt) ∧ Bx (Below w1.heap.size w1 wr) ∧ Bx (k35.C wr A5 xs.length xs)) (fun v _ => xs.length - (intOf v).toNat)
            case atStart => exact ⟨0, by omega, rfl, HA4, HB4, HC5⟩
            case round =>
              clear HA4 HB4 HC5 HA3 HB3
              obtain ⟨k, hk, rfl, HA, HB, HC⟩ := hrel
              have k0 : (0 : Int) ≤ (k : Int) := by omega
              by_cases hkx : k < xs.length
              · have k1 : (k : Int) < (xs.length : Int) := by omega
                obtain ⟨ad5, A1, c1, rfl, ca, cb, hlc, hCb⟩ := at_T35 HC.out (k : Int) k0 k1
                have hrd := HXS.out k (by rw [← HXL.out]; exact hkx)
                rw [hrd] at ca cb hlc hCb
                rw [Int.toNat_natCast] at ca cb
                simp only at ca cb hlc hCb
                have hkb : hd + k ≤ 1000 ∧ xs.length ≤ 300 := by have h1 := HXL.out; have h2 := HI2.out; omega
                obtain ⟨p, hp⟩ : ∃ p, p = hd + k := ⟨_, rfl⟩
                rw [← hp] at ca cb hlc hCb
                obtain ⟨sq, hsq⟩ : ∃ sq, sq = (base + (p : Int)) % 65536 := ⟨_, rfl⟩
                rw [← hsq] at ca
                have e1 := wrapA base hd HBS.out.1 HBS.out.2 (by omega)
                have e2 := wrapB base hd k HBS.out.1 HBS.out.2 hkb.1
                have e3 := tmodB base hd k HBS.out.1
                rw [← hp, ← hsq] at e3
                have e4 := wrapN hd k hkb.1
                rw [← hp] at e4
                have HKB := Bx.mk hkb
                have HCb := Bx.mk hCb
                have HLC := Bx.mk hlc
                have HKX := Bx.mk (And.intro hkx hkb.2)
                clear hlc hCb hrd hkx hk hp hsq hkb
                go_wp2_with fail
                have hbl := (Below.refl wr.heap.size wr).alloc (Nat.le_refl _) (.cells #[.int .u8 ((p : Int) % 256), .int .u8 ((p : Int) / 256 % 256)] 5)
                have HA6 := Bx.mk (SA.below HA.out hbl)
                have HB6 := Bx.mk (HB.out.alloc HA.out.size (.cells #[.int .u8 ((p : Int) % 256), .int .u8 ((p : Int) / 256 % 256)] 5))
                have HC6 := Bx.mk (Kd.C_below HC.out hbl)
                refine (catenaryref00_EqBytes.calls A1 c1 (msg p) (some ⟨wr.heap.size, 0, none⟩) 2 (msg p) true _ (Kd.C_below HCb.out hbl) HLC.out (bytes2 wr ((p : Int) % 256) ((p : Int) / 256 % 256) _ rfl) (by simp [msg]) (by unfold catenaryref00_EqBytes.f; simp)).mono ?_
                rintro e w5 ⟨rfl, hdr⟩
                obtain ⟨nd, rfl⟩ := hdr.out
                have HA7 := Bx.mk (SA.below HA6.out (pw_below_drewN (Below.refl _ _) nd))
                have HB7 := Bx.mk (HB6.out.trans (pw_below_drewN (Below.refl w1.heap.size _) nd))
                have HC7 := Bx.mk (Kd.C_drewN HC6.out nd)
                clear hbl HA6 HB6 HC6 hdr ca cb e1 e2 e3 e4 HA HB HC HCb HLC
                generalize (wr.alloc (.cells #[.int .u8 ((p : Int) % 256), .int .u8 ((p : Int) / 256 % 256)] 5)).drewN nd = w6 at *
                go_wp2_with fail
                have hwk : wrap64 ((k : Int) + 1) = ((k + 1 : Nat) : Int) := by have := HKX.out; unfold wrap64; omega
                rw [hwk]
                go_roundw
                case rel => exact ⟨k + 1, by have := HKX.out; omega, rfl, HA7, HB7, HC7⟩
                case measure => have := HKX.out; simp only [intOf]; omega
              · have k1 : ¬ (k : Int) < (xs.length : Int) := by omega
                go_wp2_with fail
                have hwi : wrap64 ((i : Int) + 1) = ((i + 1 : Nat) : Int) := by have := HI2.out; unfold wrap64; omega
                rw [hwi]
                go_roundw
                case rel => exact ⟨i + 1, pt, st, hd, rfl, rfl, rfl, rfl, HI2, HA, HB⟩
                case measure => have := HI2.out; simp only [intOf]; omega
      · have i3 : ¬ (i : Int) < 300 := by omega
        go_wp2_with fail
        go_ret
        exact ⟨rfl, HBW.out⟩
    · have i1 : ¬ (i : Int) < (n : Int) := by omega
      go_wp2_with fail
      go_ret
      exact ⟨rfl, HBW.out⟩
end Go.Proofs.Ytbglagllgppggaa.Base
