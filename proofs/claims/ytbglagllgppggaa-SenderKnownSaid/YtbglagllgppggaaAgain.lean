/- Layer 13: Again, by its contract. -/
import Derived.Test.YtbglagllgppggaaItem
set_option linter.unusedVariables false
set_option linter.unusedSimpArgs false
namespace Go.Proofs.Ytbglagllgppggaa.Base
open Go.RowKit Go.Proofs.YtbglagllgppggaaW.PrintWords Go.Proofs.YtbglagllgppggaaW.PrintLast Go.Proofs.YtbglagllgppggaaW.PrintMore
open Go.Proofs.Ytbglagllgppggaa.Comm Go.Proofs.Ytbglagllgppggaa.PSenderPlays

/-- The items from a place on, as many as told. -/
def items (nx : Int) (ms : List (List Int)) (a n : Nat) : List S35 := (List.range n).map fun k => ⟨(nx + ((a + k : Nat) : Int)) % 65536, ms.getD (a + k) []⟩
theorem items_len (nx : Int) (ms : List (List Int)) (a n : Nat) : (items nx ms a n).length = n := by simp [items]
theorem items_succ (nx : Int) (ms : List (List Int)) (a n : Nat) : items nx ms a (n + 1) = items nx ms a n ++ [⟨(nx + ((a + n : Nat) : Int)) % 65536, ms.getD (a + n) []⟩] := by
  simp [items, List.range_succ]
theorem info35 : (Try.prog.info? 35).map (fun i => (i.zero, i.size, i.bytes)) = some (some (.agg #[.int .i64 0, .slice none 0 0]), 2, 32) := by kernel_rfl
section
variable {B : Nat} {M : Nat → Prop} {w w' : World} {g ch W : Nat} {nx : Int} {ms : List (List Int)} {sd al : Nat}
theorem item_d (i : Nat) (h : SA B M w g ch W nx ms sd al) (hi : i < ms.length) :
    Calls Try.prog 26 #[.pointer (some ⟨g, 0, none⟩), .int .i64 (i : Int)] w fun e w' => ∃ A c, e = .returned (.agg #[.int .i64 ((nx + i) % 65536), .slice A (ms.getD i []).length c]) ∧ (Kd.int .u8).R 5 w' w.heap.size (fun _ => True) (.slice A (ms.getD i []).length c) (ms.getD i []) ∧ Below w.heap.size w w' := by
  have e : ms.getD i [] = ms[i] := by simp [List.getD, hi]
  rw [e]; exact item_c i h hi
set_option maxRecDepth 100000 in
set_option maxHeartbeats 4000000 in
theorem again_c (h : SA B M w g ch W nx ms sd al) :
    Calls Try.prog 14 #[.pointer (some ⟨g, 0, none⟩)] w fun e w' => ∃ v, e = .returned v ∧ k35.R 35 w' w.heap.size (fun _ => True) v (items nx ms 0 sd) ∧ Below w.heap.size w w' := by
  obtain ⟨A2, cc, hg, hQ, hl, hC2, c0, c1, c2, c3, c4⟩ := h.cells
  have H := Bx.mk h
  have HS4 := Bx.mk (show sd ≤ 4 ∧ sd ≤ ms.length from ⟨Nat.le_trans h.s1 h.w4, h.s2⟩)
  clear h hg hQ hl hC2 c1 c2 c4
  go_enter Try.func14, Try.ntmps14
  go_wp2_with (go_at_call 24; (with_reducible refine (none_no _ ch _ ?hc).mono ?_); (case hc => exact c0); rintro e w' ⟨rfl, rfl⟩)
  clear c0 c3
  go_loopw [2, 10] (fun v2 v10 wr => ∃ k : Nat, k ≤ sd ∧ v10 = .int .i64 (k : Int) ∧ Bx (k35.R 35 wr w.heap.size (fun _ => True) v2 (items nx ms 0 k)) ∧ Bx (Below w.heap.size w wr)) (fun _ v _ => sd - (intOf v).toNat)
  case atStart => exact ⟨0, by omega, rfl, ⟨Kd.R_nil _ _ _ _ _⟩, ⟨Below.refl _ _⟩⟩
  case round =>
    obtain ⟨k, hk, rfl, HR, HB⟩ := hrel
    have hlen := items_len nx ms 0 k
    obtain ⟨xs, hxs⟩ : ∃ xs, xs = items nx ms 0 k := ⟨_, rfl⟩
    rw [← hxs] at HR hlen
    have HX := Bx.mk hxs
    have HXL := Bx.mk hlen
    clear hxs hlen
    obtain ⟨A3, c3, rfl, hc3, hC3⟩ := Kd.R_reads HR.out
    clear hc3 hC3
    have k0 : (0 : Int) ≤ (k : Int) := by omega
    by_cases hks : k < sd
    · have k1 : (k : Int) < (sd : Int) := by omega
      have HK := Bx.mk (show k < ms.length ∧ k < sd by have := HS4.out; omega)
      clear hks hk
      have hit := item_d k (H.out.below HB.out) HK.out.1
      obtain ⟨m, hm⟩ : ∃ m, m = ms.getD k [] := ⟨_, rfl⟩
      obtain ⟨sq, hsq⟩ : ∃ sq, sq = (nx + (k : Int)) % 65536 := ⟨_, rfl⟩
      rw [← hm, ← hsq] at hit
      have HMM := Bx.mk (And.intro hm hsq)
      clear hm hsq
      go_wp2_with fail
      refine hit.mono ?_
      rintro e w1 ⟨A4, c4, rfl, hr, hb⟩
      have HR4 := Bx.mk hr
      have HB4 := Bx.mk hb
      have HRW := Bx.mk (Kd.R_below HR.out hb)
      have HBW := Bx.mk (HB.out.trans (hb.mono HB.out.size))
      have HBS := Bx.mk HB.out.size
      have HRN := Bx.mk (Kd.R_lt HR.out)
      clear hr hb HR hit
      go_wp2_with (at_builtin; (refine Kd.R_append k35 (w0 := w) (W := w1) w.heap.size rfl (.tmp 13) (.tmp 17) 32 35 (.agg #[.int .i64 0, .slice none 0 0]) 32 rfl Try.underlying32 info35 rfl (by decide) (by omega) (.slice A3 xs.length c3) xs ⟨sq, m⟩ [.int .i64 sq, .slice A4 m.length c4] (fun _ => True) (fun j => wr.heap.size ≤ j) rfl rfl ?aP ?aK ?aF ?aQ ?aB ?aS ?aL ?_; (case aP => exact k35_mkM _ _ _ ⟨sq, m⟩ (Kd.R_mono (Kd.R_lower (Kd.R_bound HR4.out) HBS.out) (fun j hj => hj.2.1))); (case aK => exact fun j hj => ⟨trivial, fun e => by have := HRN.out j e.symm; omega⟩); (case aF => exact fun _ _ => trivial); (case aQ => exact HRW.out); (case aB => exact HBW.out); (case aS => exact HBW.out.size); (case aL => have h1 := HXL.out; have h2 := HK.out; have h3 := HS4.out; omega); intro v1 w2 ho hb hg hat; have n0 := Bx.mk ho; have n1 := Bx.mk hb; clear ho hb hg hat))
      go_roundw
      case rel =>
        refine ⟨k + 1, by have := HK.out; omega, by rw [show wrap64 ((k : Int) + 1) = ((k + 1 : Nat) : Int) from by have h1 := HK.out; have h2 := HS4.out; unfold wrap64; omega], ⟨?_⟩, n1⟩
        rw [items_succ, ← HX.out, Nat.zero_add, ← HMM.out.1, ← HMM.out.2]
        exact n0.out
      case measure => have h1 := HK.out; have h2 := HS4.out; rw [show wrap64 ((k : Int) + 1) = ((k + 1 : Nat) : Int) from by unfold wrap64; omega]; simp only [intOf]; omega
    · have k1 : ¬ (k : Int) < (sd : Int) := by omega
      obtain rfl : k = sd := by omega
      go_wp2_with fail
      go_ret
      exact ⟨_, rfl, by rw [← HX.out]; exact HR.out, HB.out⟩
end
end Go.Proofs.Ytbglagllgppggaa.Base
