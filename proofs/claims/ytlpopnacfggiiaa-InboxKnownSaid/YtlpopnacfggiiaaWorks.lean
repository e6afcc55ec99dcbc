/- Layer 14: the chapter's inbox ('takes', 'works'), by its contract. -/
import Derived.Test.YtlpopnacfggiiaaStr
set_option linter.unusedVariables false
set_option linter.unusedSimpArgs false
namespace Go.Proofs.Ytlpopnacfggiiaa.Str
open Go.RowKit Go.Proofs.Ytlpopnacfggiiaa.Base Go.Proofs.YtlpopnacfggiiaaW.PrintWords Go.Proofs.YtlpopnacfggiiaaW.PrintLast Go.Proofs.YtlpopnacfggiiaaW.PrintMore

theorem strCell {w : World} {A : Option Addr} {xs : List ByteArray} (h : Kd.string.C w A xs.length xs) (i : Nat) (hi : i < xs.length) : ∃ ad, A = some ad ∧ w.cell? (ad.add i) = some (.string xs[i]) := by
  obtain ⟨ad, c, rfl, hcl, hk, hcc⟩ := Kd.C_get h ByteArray.empty (i : Int) (by omega) (by omega)
  have hk' : c = [Value.string (xs.getD i ByteArray.empty)] := by simpa [Kd.string, Kd.scalar] using hk
  subst hk'
  refine ⟨ad, rfl, ?_⟩
  have := hcc 0 _ rfl
  simpa [Kd.string, Kd.scalar, hi] using this
set_option maxRecDepth 100000 in
set_option maxHeartbeats 2000000 in
theorem takes_in (g b : Nat) (nx seq : Int) (a : List (Option ByteArray)) (d : Nat) (v : ByteArray) (A : Option Addr) (c : Nat) (want : List ByteArray) (w : World) (h : Is w g b nx a) (s0 : 0 ≤ seq) (s1 : seq ≤ 65535) (hd : (seq - nx) % 65536 = d) (hd4 : d < 4)
    (hC : ∀ w', Two g b w w' → Kd.string.C w' A want.length want) (hc : want.length ≤ c) (ht : told (came a d v) = want) :
    Calls Try.prog 30 #[.pointer (some ⟨g, 0, none⟩), .int .i64 seq, .string v, .int .i64 0, .slice A want.length c] w fun e w' => e = .returned (.bool true) ∧
      Is w' g b ((nx + (lead (came a d v) : Nat)) % 65536) (rest (came a d v)) ∧ Two g b w w' := by
  have H := Bx.mk h
  have HC := Bx.mk hC
  have HD := Bx.mk (And.intro hd hd4)
  have HW := Bx.mk ht
  have HN := Bx.mk h.ne
  have hwl : want.length ≤ 4 := by
    rw [← ht, lead_told, ← h.hl, ← came_length a d v]
    exact lead_le _
  clear h hC hd hd4 ht
  go_enter Try.func30, Try.ntmps30
  go_wp2_with fail
  refine (take_c g b nx seq a d v _ H.out s0 s1 HD.out.1 HD.out.2).mono ?_
  rintro e w1 ⟨vv, rfl, hr, ha, ht⟩
  rw [HW.out] at hr
  obtain ⟨A1, c1, rfl, hc1, hC1⟩ := Kd.R_reads hr
  have HR := Bx.mk hC1
  have HA := Bx.mk ha
  have HT := Bx.mk ht
  have HC1 := Bx.mk (HC.out w1 ht)
  clear hr hC1 ha ht HC
  go_wp2_with fail
  go_loopw [13] (fun v wr => ∃ i : Nat, i ≤ want.length ∧ v = .int .i64 (i : Int) ∧ Drawn0 w1 wr) (fun v _ => want.length - (intOf v).toNat)
  case atStart => exact ⟨0, by omega, rfl, Drawn0.refl _⟩
  case round =>
    obtain ⟨i, hi, rfl, hdr⟩ := hrel
    obtain ⟨nd, rfl⟩ := hdr.out
    clear hdr
    by_cases h : i < want.length
    · obtain ⟨ad1, rfl, k1⟩ := strCell HR.out i h
      obtain ⟨ad2, rfl, k2⟩ := strCell HC1.out i h
      have i0 : (0 : Int) ≤ (i : Int) := by omega
      have i1 : (i : Int) < (want.length : Int) := by omega
      generalize want[i] = q at k1 k2
      go_wp2_with fail
      go_quiet (fail)
      go_wp2_with fail
      go_roundw
      case rel => exact ⟨i + 1, by omega, by simp, ⟨⟨_, rfl⟩⟩⟩
      case measure => simp [intOf]; omega
    · have i1 : ¬ ((i : Int) < (want.length : Int)) := by omega
      go_wp2_with fail
      go_ret
      exact ⟨rfl, ⟨HA.out.hg, HA.out.hm, HA.out.h0, HA.out.h1, HA.out.hl⟩, ⟨HT.out.os, HT.out.tape, HT.out.output, HT.out.size, HT.out.block⟩⟩
theorem takes_far (g b : Nat) (nx seq : Int) (a : List (Option ByteArray)) (v : ByteArray) (w : World) (h : Is w g b nx a) (s0 : 0 ≤ seq) (s1 : seq ≤ 65535) (hd : ¬ (seq - nx) % 65536 < 4) :
    Calls Try.prog 30 #[.pointer (some ⟨g, 0, none⟩), .int .i64 seq, .string v, .int .i64 9, .slice none 0 0] w fun e w' => e = .returned (.bool true) ∧ Below w.heap.size w w' := by
  have H := Bx.mk h
  have HD := Bx.mk hd
  clear h hd
  go_enter Try.func30, Try.ntmps30
  go_wp2_with fail
  refine (take_far g b nx seq a v _ H.out s0 s1 (by have := HD.out; omega)).mono ?_
  rintro e w1 ⟨rfl, hb⟩
  have HB := Bx.mk hb
  clear hb
  go_wp2_with fail
  go_loopw [13] (fun v wr => v = .int .i64 0 ∧ wr = w1) (fun v _ => 0)
  case atStart => exact ⟨rfl, rfl⟩
  case round =>
    obtain ⟨rfl, rfl⟩ := hrel
    go_wp2_with fail
    go_ret
    exact ⟨rfl, HB.out⟩
theorem IA.two {w w' : World} {g b : Nat} {nx : Int} {a : List (Option ByteArray)} (h : Is w g b nx a) (hb : Below w.heap.size w w') : Is w' g b nx a := h.below hb
theorem nilC (w : World) : Kd.string.C w none 0 ([] : List ByteArray) := ⟨rfl, by omega, fun h => by omega⟩
theorem abC (w : World) (b : Nat) (hb : w.heap[b]? = some (.cells #[.string ⟨#[97]⟩, .string ⟨#[98]⟩] 9 (0, 0))) : Kd.string.C w (some ⟨b, 0, none⟩) 2 [⟨#[97]⟩, ⟨#[98]⟩] := by
  refine ⟨rfl, by omega, fun _ => ⟨_, rfl, ?_⟩⟩
  intro j p hj
  refine ⟨[.string p], rfl, rfl, ?_⟩
  intro i q hu
  rw [add_plain, blk_cell hb]
  have hj3 : j = 0 ∨ j = 1 := by
    have := (List.getElem?_eq_some_iff.1 hj).1; simp at this; omega
  have hi2 : i = 0 := by
    have := (List.getElem?_eq_some_iff.1 hu).1; simp at this; omega
  subst hi2
  rcases hj3 with rfl | rfl <;> simp at hj hu <;> subst hj hu <;> rfl
set_option maxRecDepth 100000 in
set_option maxHeartbeats 2000000 in
theorem works_c (w : World) : Calls Try.prog 17 #[] w fun e w' => e = .returned (.bool true) ∧ Below w.heap.size w w' := by
  go_enter Try.func17, Try.ntmps17
  go_wp2_with fail
  refine (new_yes 65535 _ (by decide) (by decide)).mono ?_
  rintro e w1 ⟨rfl, ha, hb⟩
  obtain ⟨b, hbb⟩ : ∃ b, b = w.heap.size := ⟨_, rfl⟩
  obtain ⟨g, hgg⟩ : ∃ g, g = w.heap.size + 1 := ⟨_, rfl⟩
  rw [← hgg, ← hbb] at ha
  rw [← hgg]
  have HA := Bx.mk ha
  have HB := Bx.mk hb
  have HS := Bx.mk hb.size
  have HGB := Bx.mk (show w.heap.size ≤ g ∧ w.heap.size ≤ b by omega)
  clear ha hb hbb hgg
  go_wp2_with fail
  refine (takes_in g b 65535 0 _ 1 ⟨#[98]⟩ none 0 [] _ HA.out (by decide) (by decide) (by decide) (by decide) (fun w' _ => nilC w') (by decide) (by rfl)).mono ?_
  rintro e w2 ⟨rfl, ha, ht⟩
  have n0 : Bx (Is w2 g b 65535 [none, some ⟨#[98]⟩, none, none]) := ⟨ha⟩
  have n1 := Bx.mk (ht.below HB.out HS.out HGB.out.1 HGB.out.2)
  have n2 := Bx.mk (Nat.le_trans HS.out ht.size)
  clear HA HB HS ha ht
  go_wp2_with fail
  refine (takes_in g b 65535 0 _ 1 ⟨#[120]⟩ none 0 [] _ n0.out (by decide) (by decide) (by decide) (by decide) (fun w' _ => nilC w') (by decide) (by rfl)).mono ?_
  rintro e w3 ⟨rfl, ha, ht⟩
  have HA : Bx (Is w3 g b 65535 [none, some ⟨#[98]⟩, none, none]) := ⟨ha⟩
  have HB := Bx.mk (ht.below n1.out n2.out HGB.out.1 HGB.out.2)
  have HS := Bx.mk (Nat.le_trans n2.out ht.size)
  clear n0 n1 n2 ha ht
  go_wp2_with fail
  have HLT := Bx.mk (show g < w3.heap.size ∧ b < w3.heap.size from ⟨(Array.getElem?_eq_some_iff.1 HA.out.hg).1, HA.out.hm.lt⟩)
  have hnew := heap_alloc_new w3 (.cells #[.string ⟨#[97]⟩, .string ⟨#[98]⟩] 9)
  have hbel := (Below.refl w3.heap.size w3).alloc (Nat.le_refl _) (.cells #[.string ⟨#[97]⟩, .string ⟨#[98]⟩] 9)
  refine (takes_in g b 65535 65535 _ 0 ⟨#[97]⟩ (some ⟨w3.heap.size, 0, none⟩) 2 [⟨#[97]⟩, ⟨#[98]⟩] _ (HA.out.below hbel) (by decide) (by decide) (by decide) (by decide)
    (fun w' h => abC w' _ ((h.block w3.heap.size (by simp) (by have := HLT.out.1; omega) (by have := HLT.out.2; omega)).trans hnew)) (by decide) (by rfl)).mono ?_
  rintro e w4 ⟨rfl, ha, ht⟩
  have n0 : Bx (Is w4 g b 1 [none, none, none, none]) := ⟨ha⟩
  have n1 := Bx.mk (ht.below (HB.out.trans (hbel.mono HS.out)) (by simp; have := HS.out; omega) HGB.out.1 HGB.out.2)
  have n2 := Bx.mk (show w.heap.size ≤ w4.heap.size from n1.out.size)
  clear HA HB HS ha ht hnew hbel
  go_wp2_with fail
  refine (ack_c g b 1 _ _ n0.out).mono ?_
  rintro e _ ⟨rfl, rfl⟩
  go_wp2_with fail
  refine (takes_far g b 1 65535 _ ⟨#[97]⟩ _ n0.out (by decide) (by decide) (by decide)).mono ?_
  rintro e w5 ⟨rfl, hb5⟩
  have HA := Bx.mk (n0.out.below hb5)
  have HB := Bx.mk (n1.out.trans (hb5.mono n2.out))
  have HS := Bx.mk (show w.heap.size ≤ w5.heap.size from HB.out.size)
  clear n0 n1 n2 hb5
  go_wp2_with fail
  refine (takes_far g b 1 5 _ ⟨#[122]⟩ _ HA.out (by decide) (by decide) (by decide)).mono ?_
  rintro e w6 ⟨rfl, hb5⟩
  have n0 := Bx.mk (HA.out.below hb5)
  have n1 := Bx.mk (HB.out.trans (hb5.mono HS.out))
  have n2 := Bx.mk (show w.heap.size ≤ w6.heap.size from n1.out.size)
  clear HA HB HS hb5
  go_wp2_with fail
  refine (takes_in g b 1 4 _ 3 ⟨#[121]⟩ none 0 [] _ n0.out (by decide) (by decide) (by decide) (by decide) (fun w' _ => nilC w') (by decide) (by rfl)).mono ?_
  rintro e w7 ⟨rfl, ha, ht⟩
  have HA : Bx (Is w7 g b 1 [none, none, none, some ⟨#[121]⟩]) := ⟨ha⟩
  have HB := Bx.mk (ht.below n1.out n2.out HGB.out.1 HGB.out.2)
  clear n0 n1 n2 ha ht
  go_wp2_with fail
  refine (waits_c g b 1 _ _ HA.out).mono ?_
  rintro e _ ⟨rfl, rfl⟩
  go_wp2_with fail
  go_ret
  exact ⟨rfl, HB.out⟩
end Go.Proofs.Ytlpopnacfggiiaa.Str
