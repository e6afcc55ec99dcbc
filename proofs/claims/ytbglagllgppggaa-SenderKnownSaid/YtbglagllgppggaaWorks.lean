/- Layer 13: works: the chapter's sender. -/
import Derived.Test.YtbglagllgppggaaIs
import Derived.Lib.SlBytesConst
set_option linter.unusedVariables false
set_option linter.unusedSimpArgs false
namespace Go.Proofs.Ytbglagllgppggaa.Base
open Go.RowKit Go.Proofs.YtbglagllgppggaaW.PrintWords Go.Proofs.YtbglagllgppggaaW.PrintLast Go.Proofs.YtbglagllgppggaaW.PrintMore
open Go.Proofs.Ytbglagllgppggaa.Comm Go.Proofs.Ytbglagllgppggaa.PSenderPlays

/-- A sender that is known by its blocks alone: its rows lie where no other block of ours is. -/
abbrev SB (B : Nat) (w : World) (g ch W : Nat) (nx : Int) (ms : List (List Int)) (sd al : Nat) : Prop := SA B (fun k => B ≤ k ∧ k ≠ g ∧ k ≠ ch) w g ch W nx ms sd al
theorem byte_C (W : World) (x : Int) (b : Nat) (hb : W.heap.size = b) : (Kd.int .u8).C (W.alloc (.cells #[.int .u8 x] 5 (1, 2))) (some ⟨b, 0, none⟩) 1 [x] := by
  subst hb
  refine Kd.C_of_reads (d := (0 : Int)) (h1 := fun _ => rfl) ⟨rfl, by simp, fun _ => ⟨_, rfl, fun j hj => ?_⟩⟩
  have : j = 0 := by simpa using hj
  subst this
  rw [add_plain]
  exact cell_of_row _ _ 0 _ _ (1, 2) (heap_alloc_new W _)
theorem texts1 (W : World) (x : ByteArray) (b : Nat) (hb : W.heap.size = b) : Kd.string.C (W.alloc (.cells #[.string x] 9)) (some ⟨b, 0, none⟩) 1 [x] := by
  subst hb
  refine Kd.C_of_reads (d := ByteArray.empty) (h1 := fun _ => rfl) ⟨rfl, by simp, fun _ => ⟨_, rfl, fun j hj => ?_⟩⟩
  have : j = 0 := by simpa using hj
  subst this
  rw [add_plain]
  exact cell_of_row _ _ 0 _ _ (0, 0) (heap_alloc_new W _)
theorem texts2 (W : World) (x y : ByteArray) (b : Nat) (hb : W.heap.size = b) : Kd.string.C (W.alloc (.cells #[.string x, .string y] 9)) (some ⟨b, 0, none⟩) 2 [x, y] := by
  subst hb
  refine Kd.C_of_reads (d := ByteArray.empty) (h1 := fun _ => rfl) ⟨rfl, by simp, fun _ => ⟨_, rfl, fun j hj => ?_⟩⟩
  rw [add_plain]
  have hj2 : j < 2 := hj
  have h : j = 0 ∨ j = 1 := by omega
  rcases h with rfl | rfl
  · exact cell_of_row _ _ 0 _ _ (0, 0) (heap_alloc_new W _)
  · exact cell_of_row _ _ 1 _ _ (0, 0) (heap_alloc_new W _)
theorem new_b (W : Nat) (nx : Int) (w : World) (W1 : 1 ≤ W) (W4 : W ≤ 4) (h0 : 0 ≤ nx) (h1 : nx ≤ 65535) :
    Calls Try.prog 9 #[.int .i64 (W : Int), .int .i64 nx] w fun e w' => e = .returned (.tuple #[.pointer (some ⟨w.heap.size + 1, 0, none⟩), .int .i64 0]) ∧ SB w.heap.size w' (w.heap.size + 1) w.heap.size W nx [] 0 0 ∧ Below w.heap.size w w' :=
  (new_yes W nx w (fun _ => False) W1 W4 h0 h1 (fun _ h => h)).mono fun e w' ⟨a, b, c⟩ => ⟨a, b.mono (fun _ h => h.elim) (fun h => h.2.1 rfl) (fun h => h.2.2 rfl) (fun _ h => h.1), c⟩
section
variable {B : Nat} {w w0 w' : World} {g ch W : Nat} {nx : Int} {ms : List (List Int)} {sd al : Nat}
theorem put_b (A : Option Addr) (bs : List Int) (c : Nat) (h : SB B w g ch W nx ms sd al) (hb : Below B w0 w) (hC : (Kd.int .u8).C w A bs.length bs) (hcc : bs.length ≤ c) (h1 : 1 ≤ bs.length) (h2 : bs.length ≤ 256) (h3 : al < 20000) (h4 : ms.length < 512) :
    Calls Try.prog 10 #[.pointer (some ⟨g, 0, none⟩), .slice A bs.length c] w fun e w' => e = .returned (.int .i64 0) ∧ SB B w' g ch W nx (ms ++ [bs]) sd (al + 1) ∧ Below B w0 w' :=
  (put_ok A bs c h hC hcc h1 h2 h3 h4).mono fun e w' ⟨a, b, f⟩ => ⟨a, b.mono (fun k hk => by
    rcases hk with hk | hk
    · exact hk
    · have e1 := h.glt; have e2 := h.clt; have e3 := h.bg; exact ⟨by omega, by omega, by omega⟩) (fun h => h.2.1 rfl) (fun h => h.2.2 rfl) (fun _ h => h.1), f.below hb (by have := h.bg; have := h.glt; omega) (fun k hk => by
    rcases hk with hk | hk
    · exact hk.1
    · rw [hk]; exact h.bg)⟩
theorem gc_below (h : SB B w g ch W nx ms sd al) (hb : Below B w0 w) (f : Fr (fun j => j = g ∨ j = ch) w w') : Below B w0 w' :=
  f.below hb (by have := h.bg; have := h.glt; omega) (fun k hk => by
    rcases hk with hk | hk
    · rw [hk]; exact h.bg
    · rw [hk]; exact h.bc)
theorem fresh_b (h : SB B w g ch W nx ms sd al) (hb : Below B w0 w) :
    Calls Try.prog 11 #[.pointer (some ⟨g, 0, none⟩)] w fun e w' => ∃ v, e = .returned v ∧ k35.R 35 w' w.heap.size (fun _ => True) v (items nx ms sd (min W ms.length - sd)) ∧ SB B w' g ch W nx ms (min W ms.length) al ∧ Below B w0 w' :=
  (fresh_c h).mono fun e w' ⟨v, a, b, c, f⟩ => ⟨v, a, b, c, gc_below h hb f⟩
theorem heard_b (ack : Int) (n : Nat) (h : SB B w g ch W nx ms sd al) (hb : Below B w0 w) (a0 : 0 ≤ ack) (a1 : ack ≤ 65535) (hn : (ack - nx) % 65536 = n) (hns : n ≤ sd) : Calls Try.prog 13 #[.pointer (some ⟨g, 0, none⟩), .int .i64 ack] w fun e w' => e = .returned (.tuple #[.int .i64 (n : Int), .int .i64 0]) ∧ SB B w' g ch W ack (ms.drop n) (sd - n) al ∧ Below B w0 w' :=
  (heard_ok ack n h a0 a1 hn hns).mono fun e w' ⟨a, b, f⟩ => ⟨a, b, gc_below h hb f⟩
end
set_option maxRecDepth 100000 in
set_option maxHeartbeats 4000000 in
theorem works_c (w : World) : Calls Try.prog 7 #[] w fun e w' => e = .returned (.bool true) ∧ Below w.heap.size w w' := by
  have hcv : ∀ (w : World) (C : Array Value) (n c : Nat), (convert 31 31 (.slice (some ⟨w.heap.size, 0, none⟩) n c)).run Try.prog (w.alloc (.cells C 5)) = .ok (.slice (some ⟨w.heap.size, 0, none⟩) n c) (w.alloc (.cells C 5 (C.size, C.size + 1))) := fun w C n c => Go.Lib.run_convert_bytes_const w 31 5 C n c Try.underlying31 Try.underlying5
  go_enter Try.func7, Try.ntmps7
  go_wp2_with fail
  refine (new_b 2 65535 _ (by decide) (by decide) (by decide) (by decide)).mono ?_
  rintro e w1 ⟨rfl, ha, hb⟩
  obtain ⟨g, hg⟩ : ∃ g, g = w.heap.size + 1 := ⟨_, rfl⟩
  obtain ⟨ch, hch⟩ : ∃ c, c = w.heap.size := ⟨_, rfl⟩
  rw [← hg] at ha
  rw [← hg]
  have HA1 : Bx (SB w.heap.size w1 g ch 2 65535 [] 0 0) := ⟨by rw [hch]; exact ha⟩
  have HB1 := Bx.mk hb
  clear ha hb hg hch
  go_wp2_with fail
  have hbl := (Below.refl w1.heap.size w1).alloc (Nat.le_refl _) (.cells #[.int .u8 97] 5 (1, 2))
  have HA := Bx.mk (SA.below HA1.out hbl)
  have HB := Bx.mk (HB1.out.alloc (by have h1 := HA1.out.bg; have h2 := HA1.out.glt; omega) (.cells #[.int .u8 97] 5 (1, 2)))
  clear HA1 HB1 hbl
  refine (put_b (some ⟨w1.heap.size, 0, none⟩) [97] 1 HA.out HB.out (byte_C w1 97 _ rfl) (by decide) (by decide) (by decide) (by omega) (by decide)).mono ?_
  rintro e w2 ⟨rfl, ha, hb⟩
  have HA2 : Bx (SB w.heap.size w2 g ch 2 65535 [[97]] 0 1) := ⟨ha⟩
  have HB2 := Bx.mk hb
  clear ha hb HA HB
  go_wp2_with fail
  have hbl := (Below.refl w2.heap.size w2).alloc (Nat.le_refl _) (.cells #[.int .u8 98] 5 (1, 2))
  have HA := Bx.mk (SA.below HA2.out hbl)
  have HB := Bx.mk (HB2.out.alloc (by have h1 := HA2.out.bg; have h2 := HA2.out.glt; omega) (.cells #[.int .u8 98] 5 (1, 2)))
  clear HA2 HB2 hbl
  refine (put_b (some ⟨w2.heap.size, 0, none⟩) [98] 1 HA.out HB.out (byte_C w2 98 _ rfl) (by decide) (by decide) (by decide) (by omega) (by decide)).mono ?_
  rintro e w3 ⟨rfl, ha, hb⟩
  have HA3 : Bx (SB w.heap.size w3 g ch 2 65535 [[97], [98]] 0 2) := ⟨ha⟩
  have HB3 := Bx.mk hb
  clear ha hb HA HB
  go_wp2_with fail
  have hbl := (Below.refl w3.heap.size w3).alloc (Nat.le_refl _) (.cells #[.int .u8 99] 5 (1, 2))
  have HA := Bx.mk (SA.below HA3.out hbl)
  have HB := Bx.mk (HB3.out.alloc (by have h1 := HA3.out.bg; have h2 := HA3.out.glt; omega) (.cells #[.int .u8 99] 5 (1, 2)))
  clear HA3 HB3 hbl
  refine (put_b (some ⟨w3.heap.size, 0, none⟩) [99] 1 HA.out HB.out (byte_C w3 99 _ rfl) (by decide) (by decide) (by decide) (by omega) (by decide)).mono ?_
  rintro e w4 ⟨rfl, ha, hb⟩
  have HA4 : Bx (SB w.heap.size w4 g ch 2 65535 [[97], [98], [99]] 0 3) := ⟨ha⟩
  have HB4 := Bx.mk hb
  clear ha hb HA HB
  go_wp2_with fail
  refine (fresh_b HA4.out HB4.out).mono ?_
  rintro e w5 ⟨v, rfl, hr, ha, hb⟩
  have hr : k35.R 35 w5 w4.heap.size (fun _ => True) v [⟨65535, [97]⟩, ⟨0, [98]⟩] := hr
  have HA5 : Bx (SB w.heap.size w5 g ch 2 65535 [[97], [98], [99]] 2 3) := ⟨ha⟩
  have HB5 := Bx.mk hb
  obtain ⟨A4, c4, rfl, hc4, hC4⟩ := Kd.R_reads hr
  have HR := Bx.mk hC4
  clear ha hb hr HA4 HB4 hc4 hC4
  go_wp2_with fail
  have hbl := (Below.refl w5.heap.size w5).alloc (Nat.le_refl _) (.cells #[.string ⟨#[97]⟩, .string ⟨#[98]⟩] 9)
  have HA := Bx.mk (SA.below HA5.out hbl)
  have HB := Bx.mk (HB5.out.alloc (by have h1 := HA5.out.bg; have h2 := HA5.out.glt; omega) (.cells #[.string ⟨#[97]⟩, .string ⟨#[98]⟩] 9))
  have hC := Kd.C_below HR.out hbl
  clear HA5 HB5 hbl HR
  refine (is_yes A4 c4 [⟨65535, [97]⟩, ⟨0, [98]⟩] 65535 (some ⟨w5.heap.size, 0, none⟩) 2 [⟨#[97]⟩, ⟨#[98]⟩] _ hC (texts2 w5 ⟨#[97]⟩ ⟨#[98]⟩ _ rfl) rfl (by decide) (by decide) (by decide) (by intro i hi; have h : i = 0 ∨ i = 1 := (by simp at hi; omega); rcases h with rfl | rfl <;> exact ⟨rfl, rfl⟩)).mono ?_
  rintro e w6 ⟨rfl, hd⟩
  obtain ⟨nd, rfl⟩ := hd.out
  have HA6 := Bx.mk (SA.below HA.out (pw_below_drewN (Below.refl _ _) nd))
  have HB6 := Bx.mk (HB.out.trans (pw_below_drewN (Below.refl w.heap.size _) nd))
  clear HA HB hC hd
  generalize (w5.alloc (.cells #[.string ⟨#[97]⟩, .string ⟨#[98]⟩] 9)).drewN nd = w6 at *
  go_wp2_with fail
  refine (fresh_b HA6.out HB6.out).mono ?_
  rintro e w7 ⟨v, rfl, hr, ha, hb⟩
  have hr : k35.R 35 w7 w6.heap.size (fun _ => True) v [] := hr
  have HA7 : Bx (SB w.heap.size w7 g ch 2 65535 [[97], [98], [99]] 2 3) := ⟨ha⟩
  have HB7 := Bx.mk hb
  obtain ⟨A6, c6, rfl, hc6, hC6⟩ := Kd.R_reads hr
  have HR := Bx.mk hC6
  clear ha hb hr HA6 HB6 hc6 hC6
  go_wp2_with fail
  have hC := HR.out
  clear HR
  refine (is_yes A6 c6 [] 0 none 0 [] _ hC (Kd.C_nil _ _) rfl (by decide) (by decide) (by decide) (by intro i hi; exact absurd hi (Nat.not_lt_zero _))).mono ?_
  rintro e w8 ⟨rfl, hd⟩
  obtain ⟨nd, rfl⟩ := hd.out
  have HA8 := Bx.mk (SA.below HA7.out (pw_below_drewN (Below.refl _ _) nd))
  have HB8 := Bx.mk (HB7.out.trans (pw_below_drewN (Below.refl w.heap.size _) nd))
  clear HA7 HB7 hC hd
  generalize w7.drewN nd = w8 at *
  go_wp2_with fail
  refine (heard_b 0 1 HA8.out HB8.out (by decide) (by decide) (by decide) (by decide)).mono ?_
  rintro e w9 ⟨rfl, ha, hb⟩
  have HA9 : Bx (SB w.heap.size w9 g ch 2 0 [[98], [99]] 1 3) := ⟨ha⟩
  have HB9 := Bx.mk hb
  clear ha hb HA8 HB8
  go_wp2_with fail
  refine (fresh_b HA9.out HB9.out).mono ?_
  rintro e w10 ⟨v, rfl, hr, ha, hb⟩
  have hr : k35.R 35 w10 w9.heap.size (fun _ => True) v [⟨1, [99]⟩] := hr
  have HA10 : Bx (SB w.heap.size w10 g ch 2 0 [[98], [99]] 2 3) := ⟨ha⟩
  have HB10 := Bx.mk hb
  obtain ⟨A9, c9, rfl, hc9, hC9⟩ := Kd.R_reads hr
  have HR := Bx.mk hC9
  clear ha hb hr HA9 HB9 hc9 hC9
  go_wp2_with fail
  have hbl := (Below.refl w10.heap.size w10).alloc (Nat.le_refl _) (.cells #[.string ⟨#[99]⟩] 9)
  have HA := Bx.mk (SA.below HA10.out hbl)
  have HB := Bx.mk (HB10.out.alloc (by have h1 := HA10.out.bg; have h2 := HA10.out.glt; omega) (.cells #[.string ⟨#[99]⟩] 9))
  have hC := Kd.C_below HR.out hbl
  clear HA10 HB10 hbl HR
  refine (is_yes A9 c9 [⟨1, [99]⟩] 1 (some ⟨w10.heap.size, 0, none⟩) 1 [⟨#[99]⟩] _ hC (texts1 w10 ⟨#[99]⟩ _ rfl) rfl (by decide) (by decide) (by decide) (by intro i hi; have h : i = 0 := (by simpa using hi); subst h; exact ⟨rfl, rfl⟩)).mono ?_
  rintro e w11 ⟨rfl, hd⟩
  obtain ⟨nd, rfl⟩ := hd.out
  have HA11 := Bx.mk (SA.below HA.out (pw_below_drewN (Below.refl _ _) nd))
  have HB11 := Bx.mk (HB.out.trans (pw_below_drewN (Below.refl w.heap.size _) nd))
  clear HA HB hC hd
  generalize (w10.alloc (.cells #[.string ⟨#[99]⟩] 9)).drewN nd = w11 at *
  go_wp2_with fail
  refine (again_c HA11.out).mono ?_
  rintro e w12 ⟨v, rfl, hr, hb⟩
  have hr : k35.R 35 w12 w11.heap.size (fun _ => True) v [⟨0, [98]⟩, ⟨1, [99]⟩] := hr
  have HA12 := Bx.mk (SA.below HA11.out hb)
  have HB12 := Bx.mk (HB11.out.trans (hb.mono (by have h1 := HA11.out.bg; have h2 := HA11.out.glt; omega)))
  obtain ⟨A11, c11, rfl, hc11, hC11⟩ := Kd.R_reads hr
  have HR := Bx.mk hC11
  clear hb hr HA11 HB11 hc11 hC11
  go_wp2_with fail
  have hbl := (Below.refl w12.heap.size w12).alloc (Nat.le_refl _) (.cells #[.string ⟨#[98]⟩, .string ⟨#[99]⟩] 9)
  have HA := Bx.mk (SA.below HA12.out hbl)
  have HB := Bx.mk (HB12.out.alloc (by have h1 := HA12.out.bg; have h2 := HA12.out.glt; omega) (.cells #[.string ⟨#[98]⟩, .string ⟨#[99]⟩] 9))
  have hC := Kd.C_below HR.out hbl
  clear HA12 HB12 hbl HR
  refine (is_yes A11 c11 [⟨0, [98]⟩, ⟨1, [99]⟩] 0 (some ⟨w12.heap.size, 0, none⟩) 2 [⟨#[98]⟩, ⟨#[99]⟩] _ hC (texts2 w12 ⟨#[98]⟩ ⟨#[99]⟩ _ rfl) rfl (by decide) (by decide) (by decide) (by intro i hi; have h : i = 0 ∨ i = 1 := (by simp at hi; omega); rcases h with rfl | rfl <;> exact ⟨rfl, rfl⟩)).mono ?_
  rintro e w13 ⟨rfl, hd⟩
  obtain ⟨nd, rfl⟩ := hd.out
  have HA13 := Bx.mk (SA.below HA.out (pw_below_drewN (Below.refl _ _) nd))
  have HB13 := Bx.mk (HB.out.trans (pw_below_drewN (Below.refl w.heap.size _) nd))
  clear HA HB hC hd
  generalize (w12.alloc (.cells #[.string ⟨#[98]⟩, .string ⟨#[99]⟩] 9)).drewN nd = w13 at *
  go_wp2_with fail
  refine (heard_far 3 HA13.out (by decide) (by decide) (by decide)).mono ?_
  rintro e w14 ⟨rfl, hb⟩
  have HA14 := Bx.mk (SA.below HA13.out hb)
  have HB14 := Bx.mk (HB13.out.trans (hb.mono (by have h1 := HA13.out.bg; have h2 := HA13.out.glt; omega)))
  clear hb HA13 HB13
  go_wp2_with fail
  refine (heard_b 2 2 HA14.out HB14.out (by decide) (by decide) (by decide) (by decide)).mono ?_
  rintro e w15 ⟨rfl, ha, hb⟩
  have HA15 : Bx (SB w.heap.size w15 g ch 2 2 [] 0 3) := ⟨ha⟩
  have HB15 := Bx.mk hb
  clear ha hb HA14 HB14
  go_wp2_with (first | (go_at_call 15; (with_reducible refine (left_c HA15.out).mono ?_); rintro e _ ⟨rfl, rfl⟩) | (go_at_call 17; (with_reducible refine (next_c HA15.out).mono ?_); rintro e _ ⟨rfl, rfl⟩))
  go_ret
  exact ⟨rfl, HB15.out⟩
end Go.Proofs.Ytbglagllgppggaa.Base
