/- Layer 10: GroupPlays, by its contract. -/
import Derived.Test.YtcfojkejajanlaaWorks
set_option linter.unusedVariables false
set_option linter.unusedSimpArgs false
namespace Go.Proofs.Ytcfojkejajanlaa.Base
open Go.RowKit Go.Proofs.YtcfojkejajanlaaW.PrintWords Go.Proofs.YtcfojkejajanlaaW.PrintLast Go.Proofs.YtcfojkejajanlaaW.PrintMore Go.Proofs.Ytcfojkejajanlaa.PGroupPlays
attribute [local go_sem] max2_int min2_int max_two min_two

/-- A slice of calls that is read. -/
def DoRow (w : World) (A : Option Addr) (n : Nat) (ds : List (Int × Bool)) : Prop :=
  ds.length = n ∧ n ≤ 9223372036854775807 ∧ (0 < n → ∃ ad, A = some ad ∧ ∀ i, i < n → w.cell? (ad.add (i * 2)) = some (.int .i64 (ds.getD i (0, false)).1) ∧ w.cell? ⟨(ad.add (i * 2)).block, (ad.add (i * 2)).off + 1, none⟩ = some (.bool (ds.getD i (0, false)).2))
theorem eqInts (xs : List Int) (hl : xs.length ≤ 1000) (d : Nat) : ∀ (k : Nat) (i : Int), 0 ≤ i → i ≤ xs.length → (xs.length : Int) - i = d → d < k → catenaryref00_EqInts.l0 k xs xs i = some true := by
  induction d with
  | zero =>
    intro k i h0 h1 hd hk
    obtain ⟨k, rfl⟩ : ∃ m, k = m + 1 := ⟨k - 1, by omega⟩
    simp only [catenaryref00_EqInts.l0]; rw [if_neg (by omega)]
  | succ d ih =>
    intro k i h0 h1 hd hk
    obtain ⟨k, rfl⟩ : ∃ m, k = m + 1 := ⟨k - 1, by omega⟩
    simp only [catenaryref00_EqInts.l0]
    have hw : wrap64 (i + 1) = i + 1 := by unfold wrap64; omega
    rw [if_pos (by omega), if_pos h0, if_pos (by omega), hw]
    simp only [if_true]
    exact ih k (i + 1) (by omega) (by omega) (by omega) (by omega)
theorem eq_c (A A' : Option Addr) (c c' : Nat) (xs : List Int) (w : World) (h : (Kd.int .i64).C w A xs.length xs) (hc : xs.length ≤ c) (h' : (Kd.int .i64).C w A' xs.length xs) (hc' : xs.length ≤ c') (hl : xs.length ≤ 1000) :
    Calls Try.prog 9 #[.slice A xs.length c, .slice A' xs.length c'] w fun e w' => e = .returned (.bool true) ∧ Below w.heap.size w w' := by
  refine (catenaryref00_EqInts.calls (xs.length + 1) A c xs A' c' xs true w h hc h' hc' ?_).mono ?_
  · unfold catenaryref00_EqInts.f; rw [if_pos rfl]; exact eqInts xs hl xs.length _ _ (by omega) (by omega) (by omega) (by omega)
  · rintro e w' ⟨h1, h2⟩; exact ⟨h1, h2.below⟩
theorem new_any (v : Value) (ps : List Int) (w : World) (B : Nat) (h : (Kd.int .i64).R 3 w B (fun _ => True) v ps) (hl : ps.length ≤ 1000) : Calls Try.prog 7 #[v] w (NewPost w ps) := by
  rcases R_form h with ⟨rfl, rfl⟩ | ⟨b, c, rfl, _, _, hC⟩
  · exact new_nil w
  · exact new_some c _ ps w hC hl
theorem new_yes (v : Value) (ps : List Int) (w : World) (B : Nat) (h : (Kd.int .i64).R 3 w B (fun _ => True) v ps) (hl : ps.length ≤ 1000) (ho : okP ps) :
    Calls Try.prog 7 #[v] w fun e w' => ∃ g, e = .returned (.tuple #[.pointer (some ⟨g, 0, none⟩), .int .i64 0]) ∧ GA w' w.heap.size g ps (inL ps) (inL ps) ∧ Below w.heap.size w w' :=
  (new_any v ps w B h hl).mono fun e w' h => by
    rcases h with ⟨_, h⟩ | ⟨hn, _⟩
    · exact h
    · exact absurd ho hn
theorem new_no (v : Value) (ps : List Int) (w : World) (B : Nat) (h : (Kd.int .i64).R 3 w B (fun _ => True) v ps) (hl : ps.length ≤ 1000) (ho : ¬ okP ps) :
    Calls Try.prog 7 #[v] w fun e w' => e = .returned (.tuple #[.pointer none, .int .i64 2]) ∧ Below w.heap.size w w' :=
  (new_any v ps w B h hl).mono fun e w' h => by
    rcases h with ⟨hn, _⟩ | ⟨_, h⟩
    · exact absurd hn ho
    · exact h
theorem rnew_yes (A : Option Addr) (c : Nat) (ps : List Int) (w : World) (h : (Kd.int .i64).C w A ps.length ps) (hl : ps.length ≤ 1000) (ho : okP ps) :
    Calls Try.prog 8 #[.slice A ps.length c] w fun e w' => ∃ g, e = .returned (.tuple #[.pointer (some ⟨g, 0, none⟩), .int .i64 0]) ∧ RA w' w.heap.size g ps (inL ps) ∧ Below w.heap.size w w' :=
  (rnew_c A c ps w h hl).mono fun e w' h => by
    rcases h with ⟨_, h⟩ | ⟨hn, _⟩
    · exact h
    · exact absurd ho hn
theorem rnew_no (A : Option Addr) (c : Nat) (ps : List Int) (w : World) (h : (Kd.int .i64).C w A ps.length ps) (hl : ps.length ≤ 1000) (ho : ¬ okP ps) :
    Calls Try.prog 8 #[.slice A ps.length c] w fun e w' => e = .returned (.tuple #[.pointer none, .int .i64 2]) ∧ Below w.heap.size w w' :=
  (rnew_c A c ps w h hl).mono fun e w' h => by
    rcases h with ⟨hn, _⟩ | ⟨_, h⟩
    · exact absurd hn ho
    · exact h
theorem ownCell {w : World} {B n c : Nat} {A : Option Addr} {xs : List Int} (h : (Kd.int .i64).R 3 w B (fun _ => True) (.slice A n c) xs) (hn : xs.length = n) (i : Nat) (hi : i < n) :
    ∃ b, A = some ⟨b, 0, none⟩ ∧ B ≤ b ∧ w.cell? ⟨b, i, none⟩ = some (.int .i64 (xs.getD i 0)) ∧ w.frozen? ⟨b, i, none⟩ = false := by
  subst hn
  rcases R_form h with ⟨hv, rfl⟩ | ⟨b, c', hv, hB, _, hC⟩
  · simp at hi
  · injection hv with h1 h2 h3
    subst h1 h3
    obtain ⟨ad, hA, hc⟩ := intCell hC i hi
    simp at hA; subst hA
    rw [add_plain] at hc
    refine ⟨b, rfl, hB, by simpa [hi] using hc, ?_⟩
    obtain ⟨inner, ho, _⟩ := h.2
    obtain ⟨cells, hcs⟩ := own_typed ho b rfl
    exact blk_frozen hcs i
theorem ownPut {w : World} {B b n c : Nat} {xs : List Int} (h : (Kd.int .i64).R 3 w B (fun _ => True) (.slice (some ⟨b, 0, none⟩) n c) xs) (hn : xs.length = n) (i : Nat) (_hi : i < n) (x : Int) :
    (Kd.int .i64).R 3 (w.setCell ⟨b, i, none⟩ (.int .i64 x)) B (fun _ => True) (.slice (some ⟨b, 0, none⟩) n c) (xs.set i x) := by
  subst hn
  exact (Kd.R_put h (i : Int) x).1
/-- A store into a block below B. -/
theorem GA.low {w : World} {B g x : Nat} {ps : List Int} {al lv : Int → Bool} (h : GA w B g ps al lv) (hx : x < B) (j : Nat) (u : Value) : GA (w.setCell ⟨x, j, none⟩ u) B g ps al lv := by
  obtain ⟨v, hg, hB, hr⟩ := h
  refine ⟨v, blk_far hg (by simp; omega) u, hB, Kd.R_mono (Kd.R_move (Kd.R_bound hr) ?_) (fun _ _ => trivial)⟩
  rintro k ⟨_, hBk, hlt, _⟩
  exact Below.heap_setCell w _ u k (by simp; omega)
theorem RA.low {w : World} {B g x : Nat} {ps : List Int} {lv : Int → Bool} (h : RA w B g ps lv) (hx : x < B) (j : Nat) (u : Value) : RA (w.setCell ⟨x, j, none⟩ u) B g ps lv := by
  obtain ⟨v, hg, hB, hr⟩ := h
  refine ⟨v, blk_far hg (by simp; omega) u, hB, Kd.R_mono (Kd.R_move (Kd.R_bound hr) ?_) (fun _ _ => trivial)⟩
  rintro k ⟨_, hBk, hlt, _⟩
  exact Below.heap_setCell w _ u k (by simp; omega)
set_option maxHeartbeats 4000000 in
set_option maxRecDepth 100000 in
theorem plays_no (A0 A1 : Option Addr) (n0 c0 n1 c1 : Nat) (ps : List Int) (ds : List (Int × Bool)) (w : World) (hP : (Kd.int .i64).C w A0 ps.length ps) (hnc : ps.length ≤ c0) (hn10 : ps.length ≤ 10)
    (hmin : (if (10 : Int) < (n0 : Int) then (10 : Int) else (n0 : Int)) = (ps.length : Int)) (hc0 : n0 ≤ c0) (ho : ¬ okP ps) :
    Calls Try.prog 3 #[.slice A0 n0 c0, .slice A1 n1 c1] w fun e w' => e = .returned (.bool true) ∧ Below w.heap.size w w' := by
  have hu := Try.underlying22
  have HP := Bx.mk hP
  clear hP
  go_enter Try.func3, Try.ntmps3
  go_wp2_with fail
  refine (catenaryref00_CopyInts.calls A0 c0 ps ps _ HP.out hnc (by unfold catenaryref00_CopyInts.f; rw [if_pos (by simp; omega)]; rfl)).mono ?_
  rintro e w1 ⟨v, rfl, hr, hb⟩
  obtain ⟨A2, c2, rfl, hc2, hC2⟩ := Kd.R_reads hr
  have HR := Bx.mk hr
  have HB := Bx.mk hb
  clear hr hC2
  go_wp2_with fail
  refine (new_no _ ps _ _ HR.out (by omega) ho).mono ?_
  rintro e w2 ⟨rfl, hb2⟩
  have HR2 := Bx.mk (Kd.R_below HR.out hb2)
  have HB2 := Bx.mk (next HB.out hb.size hb2)
  have HS2 := Bx.mk (Nat.le_trans hb.size hb2.size)
  clear hb hb2 HR HB
  go_wp2_with fail
  refine (rnew_no A0 c0 ps _ (Kd.C_below HP.out HB2.out) (by omega) ho).mono ?_
  rintro e w3 ⟨rfl, hb3⟩
  have HR3 := Bx.mk (Kd.R_below HR2.out hb3)
  have HB3 := Bx.mk (next HB2.out HS2.out hb3)
  have HS3 := Bx.mk (Nat.le_trans HS2.out hb3.size)
  clear hb3 HR2 HB2 HS2
  go_wp2_with fail
  obtain ⟨_, _, hv, _, hC3⟩ := Kd.R_reads HR3.out
  refine (eq_c _ _ _ _ ps _ ?h1 hc2 (Kd.C_below HP.out HB3.out) hnc (by omega)).mono ?_
  case h1 => injection hv with h1 h2 h3; rw [h1]; exact hC3
  rintro e w4 ⟨rfl, hb4⟩
  have HR4 := Bx.mk (Kd.R_below HR3.out hb4)
  have HB4 := Bx.mk (next HB3.out HS3.out hb4)
  have HS4 := Bx.mk (Nat.le_trans HS3.out hb4.size)
  clear hb4 HR3 HB3 HS3 hv hC3
  go_wp2_with fail
  go_loopw [10] (fun v wr => ∃ (i : Nat) (xs : List Int), i ≤ ps.length ∧ v = .int .i64 i ∧ xs.length = ps.length ∧ Bx ((Kd.int .i64).R 3 wr w.heap.size (fun _ => True) (.slice A2 ps.length c2) xs) ∧ Bx (Below w.heap.size w wr)) (fun v _ => ps.length - (intOf v).toNat)
  case atStart => exact ⟨0, ps, by omega, rfl, rfl, HR4, HB4⟩
  case round =>
    obtain ⟨i, xs, hi, rfl, hxs, HR, HB⟩ := hrel
    have HX := Bx.mk hxs
    clear hxs
    by_cases h : i < ps.length
    · obtain ⟨b, rfl, hbB, hce, hfr⟩ := ownCell HR.out HX.out i h
      have h0 : (0 : Int) ≤ (i : Int) := by omega
      have h1 : (i : Int) < (ps.length : Int) := by omega
      have HN := Bx.mk (ownPut HR.out HX.out i h 9)
      go_wp2
      go_roundw
      case rel => exact ⟨i + 1, xs.set i 9, by omega, by go_num, by rw [List.length_set]; exact HX.out, HN, ⟨HB.out.setCell hbB _⟩⟩
      case measure => simp [intOf]; omega
    · obtain ⟨wo, rfl⟩ : ∃ wo : World, wo = wr := ⟨_, rfl⟩
      go_wp2_with fail
      go_loopw [11] (fun v wr => v = .int .i64 0 ∧ Bx (Below w.heap.size w wr) ∧ Bx (w.heap.size ≤ wr.heap.size)) (fun v _ => 0)
      case atStart => exact ⟨rfl, HB, ⟨HB.out.size⟩⟩
      case round =>
        obtain ⟨rfl, HB2, HS2⟩ := hrel
        by_cases h1 : 0 < n1
        · have h2 : (0 : Int) < (n1 : Int) := by omega
          go_wp2_with (go_at_call 18; (with_reducible refine (works_c _).mono ?_); rintro e w5 ⟨rfl, hb5⟩; have HB5 := Bx.mk (next HB2.out HS2.out hb5); clear hb5)
          go_ret
          exact ⟨rfl, HB5.out⟩
        · obtain rfl : n1 = 0 := by omega
          clear h1
          go_wp2_with (go_at_call 18; (with_reducible refine (works_c _).mono ?_); rintro e w5 ⟨rfl, hb5⟩; have HB5 := Bx.mk (next HB2.out HS2.out hb5); clear hb5)
          go_ret
          exact ⟨rfl, HB5.out⟩
end Go.Proofs.Ytcfojkejajanlaa.Base
