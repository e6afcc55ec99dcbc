/- Layer 10: the state of a group, and the contracts of package group's small functions. -/
import Derived.Test.YtcfojkejajanlaaPGroupPlaysx1
import Derived.WalkKit
import Derived.WalkSpells
import Derived.OpenShut
import Derived.Deep.RegionHeld3
set_option linter.unusedVariables false
set_option linter.unusedSimpArgs false
namespace Go.Proofs.Ytcfojkejajanlaa.Base
open Go.RowKit Go.Proofs.YtcfojkejajanlaaW.PrintWords Go.Proofs.YtcfojkejajanlaaW.PrintLast Go.Proofs.YtcfojkejajanlaaW.PrintMore

/-- A fact laid behind a name: no rule of the walk. -/
structure Bx (p : Prop) : Prop where mk :: (out : p)
theorem retInt {k : IntKind} {a b : Int} (h : a = b) : Ending.returned (.int k a) = .returned (.int k b) := by rw [h]
theorem retBool {a b : Bool} (h : a = b) : Ending.returned (.bool a) = .returned (.bool b) := by rw [h]
/-- Block g alone has turned. -/
structure Only (g : Nat) (w w' : World) : Prop where
  os : w'.os = w.os
  tape : w'.tape = w.tape
  output : w'.output = w.output
  size : w.heap.size ≤ w'.heap.size
  block : ∀ k, k < w.heap.size → k ≠ g → w'.heap[k]? = w.heap[k]?
theorem Only.below {B g : Nat} {w0 w w' : World} (h : Only g w w') (hb : Below B w0 w) (hB : B ≤ w.heap.size) (hg : B ≤ g) : Below B w0 w' :=
  hb.trans ⟨h.os, h.tape, h.output, h.size, fun k hk => h.block k (by omega) (by omega)⟩
theorem Only.set (w : World) (g i n : Nat) (u : Value) : Only g w ((w.drewN n).setCell ⟨g, i, none⟩ u) :=
  ⟨rfl, rfl, rfl, by simp [World.setCell], fun k _ hk => Below.heap_setCell (w.drewN n) ⟨g, i, none⟩ u k hk⟩
theorem keep {w w1 : World} {g : Nat} {o : Obj} (h : w.heap[g]? = some o) (hb : Below w.heap.size w w1) : w1.heap[g]? = some o := (hb.block g (Array.getElem?_eq_some_iff.1 h).1).trans h
theorem next {B : Nat} {w wr w1 : World} (h : Below B w wr) (hB : B ≤ wr.heap.size) (hb : Below wr.heap.size wr w1) : Below B w w1 := h.trans (hb.mono hB)

def bit2 (b : Bool) (n : Int) : Int := if b then n else 0
/-- The bits of those of the four ports of which f says yes. -/
def mk4 (a b c d : Bool) : Int := bit2 a 2 + bit2 b 4 + bit2 c 8 + bit2 d 16
def mask (f : Int → Bool) : Int := mk4 (f 1) (f 2) (f 3) (f 4)
def bitV (f : Int → Bool) (p : Int) : Int := if 1 ≤ p ∧ p ≤ 4 then bit2 (f p) (2 ^ p.toNat) else 0
theorem mask_bd (f : Int → Bool) : 0 ≤ mask f ∧ mask f ≤ 30 := by
  unfold mask; generalize f 1 = a; generalize f 2 = b; generalize f 3 = c; generalize f 4 = d; revert a b c d; decide
theorem and_mask (f : Int → Bool) (p : Int) (h0 : 1 ≤ p) (h1 : p ≤ 4) : Go.bits .and .u64 (mask f) (2 ^ p.toNat) = bit2 (f p) (2 ^ p.toNat) := by
  obtain rfl | rfl | rfl | rfl : p = 1 ∨ p = 2 ∨ p = 3 ∨ p = 4 := by omega
  all_goals (clear h0 h1; unfold mask; generalize f 1 = a; generalize f 2 = b; generalize f 3 = c; generalize f 4 = d; revert a b c d; decide)
def upd (f : Int → Bool) (p : Int) (b : Bool) : Int → Bool := fun q => if q = p then b else f q
theorem mask_upd (f : Int → Bool) (b : Bool) : mask (upd f 1 b) = mk4 b (f 2) (f 3) (f 4) ∧ mask (upd f 2 b) = mk4 (f 1) b (f 3) (f 4) ∧ mask (upd f 3 b) = mk4 (f 1) (f 2) b (f 4) ∧ mask (upd f 4 b) = mk4 (f 1) (f 2) (f 3) b := by
  refine ⟨?_, ?_, ?_, ?_⟩ <;> simp [mask, upd]
theorem or_mask (f : Int → Bool) (p : Int) (h0 : 1 ≤ p) (h1 : p ≤ 4) : Go.bits .or .u64 (mask f) (2 ^ p.toNat) = mask (upd f p true) := by
  obtain ⟨m1, m2, m3, m4⟩ := mask_upd f true
  obtain rfl | rfl | rfl | rfl : p = 1 ∨ p = 2 ∨ p = 3 ∨ p = 4 := by omega
  · rw [m1]; clear h0 h1 m1 m2 m3 m4; unfold mask; generalize f 1 = a; generalize f 2 = b; generalize f 3 = c; generalize f 4 = d; revert a b c d; decide
  · rw [m2]; clear h0 h1 m1 m2 m3 m4; unfold mask; generalize f 1 = a; generalize f 2 = b; generalize f 3 = c; generalize f 4 = d; revert a b c d; decide
  · rw [m3]; clear h0 h1 m1 m2 m3 m4; unfold mask; generalize f 1 = a; generalize f 2 = b; generalize f 3 = c; generalize f 4 = d; revert a b c d; decide
  · rw [m4]; clear h0 h1 m1 m2 m3 m4; unfold mask; generalize f 1 = a; generalize f 2 = b; generalize f 3 = c; generalize f 4 = d; revert a b c d; decide
theorem andNot_mask (f : Int → Bool) (p : Int) (h0 : 1 ≤ p) (h1 : p ≤ 4) : Go.bits .andNot .u64 (mask f) (2 ^ p.toNat) = mask (upd f p false) := by
  obtain ⟨m1, m2, m3, m4⟩ := mask_upd f false
  obtain rfl | rfl | rfl | rfl : p = 1 ∨ p = 2 ∨ p = 3 ∨ p = 4 := by omega
  · rw [m1]; clear h0 h1 m1 m2 m3 m4; unfold mask; generalize f 1 = a; generalize f 2 = b; generalize f 3 = c; generalize f 4 = d; revert a b c d; decide
  · rw [m2]; clear h0 h1 m1 m2 m3 m4; unfold mask; generalize f 1 = a; generalize f 2 = b; generalize f 3 = c; generalize f 4 = d; revert a b c d; decide
  · rw [m3]; clear h0 h1 m1 m2 m3 m4; unfold mask; generalize f 1 = a; generalize f 2 = b; generalize f 3 = c; generalize f 4 = d; revert a b c d; decide
  · rw [m4]; clear h0 h1 m1 m2 m3 m4; unfold mask; generalize f 1 = a; generalize f 2 = b; generalize f 3 = c; generalize f 4 = d; revert a b c d; decide

/-- A group: its ports, the bits of all, the bits of those that live. -/
def GA (w : World) (B g : Nat) (ps : List Int) (al lv : Int → Bool) : Prop :=
  ∃ v, w.heap[g]? = some (.cells #[v, .int .u64 (mask al), .int .u64 (mask lv), .bool true] 48 (0, 0)) ∧ B ≤ g ∧ (Kd.int .i64).R 3 w B (fun _ => True) v ps
theorem GA.move {w w' : World} {B g x : Nat} {ps : List Int} {al lv : Int → Bool} {cx : Array Value} {T : TypeId} {fr : Nat × Nat} (h : GA w B g ps al lv) (hx : w.heap[x]? = some (.cells cx T fr)) (h3 : T ≠ 3) (h48 : T ≠ 48)
    (hk : ∀ k, k < w.heap.size → k ≠ x → w'.heap[k]? = w.heap[k]?) : GA w' B g ps al lv := by
  obtain ⟨v, hg, hB, hr⟩ := h
  refine ⟨v, ?_, hB, ?_⟩
  · rw [hk g (blk_lt hg) ?_]; exact hg
    rintro rfl; rw [hg] at hx; injection hx with hx; injection hx with _ hx; exact h48 hx.symm
  · refine Kd.R_mono (Kd.R_move (Kd.R_bound hr) ?_) (fun _ _ => trivial)
    rintro k ⟨_, _, hlt, q, hq, cells, hc⟩
    refine hk k hlt ?_
    rintro rfl
    rw [hc] at hx; injection hx with hx; injection hx with _ hx
    simp [Kd.int, Kd.scalar] at hq
    exact h3 (hx.symm.trans hq)
theorem GA.below {w w' : World} {B g : Nat} {ps : List Int} {al lv : Int → Bool} (h : GA w B g ps al lv) (hb : Below w.heap.size w w') : GA w' B g ps al lv := by
  obtain ⟨v, hg, hB, hr⟩ := h
  exact ⟨v, keep hg hb, hB, Kd.R_below hr hb⟩
theorem GA.far {w w' : World} {B g x : Nat} {ps : List Int} {al lv : Int → Bool} (h : GA w B g ps al lv) (hx : g ≠ x) (hv : ∀ v, w.cell? ⟨g, 0, none⟩ = some v → v.ownBlock ≠ some x)
    (hk : ∀ k, k < w.heap.size → k ≠ x → w'.heap[k]? = w.heap[k]?) : GA w' B g ps al lv := by
  obtain ⟨v, hg, hB, hr⟩ := h
  have hne := hv v ((blk_cell hg 0).trans rfl)
  refine ⟨v, (hk g (blk_lt hg) hx).trans hg, hB, hr.1, ?_⟩
  obtain ⟨inner, ho, hrp⟩ := hr.2
  refine ⟨inner, own_move ho (fun k hk' => hk k (own_lt ho k hk') ?_), ?_⟩
  · rintro rfl; exact hne hk'
  · exact hrp.imp_ (fun _ _ hp => hp)
theorem cells4 {w : World} {g : Nat} {a b c d : Value} {t : TypeId} (h : w.heap[g]? = some (.cells #[a, b, c, d] t (0, 0))) : w.cell? ⟨g, 0, none⟩ = some a ∧ w.cell? ⟨g, 1, none⟩ = some b ∧ w.cell? ⟨g, 2, none⟩ = some c ∧ w.cell? ⟨g, 3, none⟩ = some d :=
  ⟨cell_of_row w g 0 _ t (0, 0) h, cell_of_row w g 1 _ t (0, 0) h, cell_of_row w g 2 _ t (0, 0) h, cell_of_row w g 3 _ t (0, 0) h⟩

set_option maxHeartbeats 400000 in
theorem none_no (g : Nat) (w : World) (h : w.cell? ⟨g, 3, none⟩ = some (.bool true)) : Calls Try.prog 22 #[.pointer (some ⟨g, 0, none⟩)] w fun e w' => e = .returned (.bool false) ∧ w = w' := by
  go_enter Try.func22, Try.ntmps22
  go_wp2
  go_ret
  exact ⟨rfl, rfl⟩
set_option maxHeartbeats 400000 in
theorem none_nil (w : World) : Calls Try.prog 22 #[.pointer none] w fun e w' => e = .returned (.bool true) ∧ w = w' := by
  go_enter Try.func22, Try.ntmps22
  go_wp2
  go_ret
  exact ⟨rfl, rfl⟩
set_option maxHeartbeats 400000 in
theorem bit_c (g : Nat) (al : Int → Bool) (p : Int) (w : World) (h : w.cell? ⟨g, 1, none⟩ = some (.int .u64 (mask al))) : Calls Try.prog 23 #[.pointer (some ⟨g, 0, none⟩), .int .i64 p] w fun e w' => e = .returned (.int .u64 (bitV al p)) ∧ Drawn0 w w' := by
  by_cases h1 : p < 1
  · have e1 := Bx.mk (show bitV al p = 0 by unfold bitV; rw [if_neg (by omega)])
    have d1 : decide (p < 1) = true := decide_eq_true h1
    clear h1
    go_enter Try.func23, Try.ntmps23
    go_wp2
    go_ret
    exact ⟨retInt e1.out.symm, Drawn0.refl _⟩
  by_cases h4 : 4 < p
  · have e1 := Bx.mk (show bitV al p = 0 by unfold bitV; rw [if_neg (by omega)])
    have d1 : decide (p < 1) = false := decide_eq_false h1
    have d2 : decide (4 < p) = true := decide_eq_true h4
    clear h1 h4
    go_enter Try.func23, Try.ntmps23
    go_wp2
    go_ret
    exact ⟨retInt e1.out.symm, Drawn0.refl _⟩
  have e1 := Bx.mk (show Go.bits .and .u64 (mask al) (2 ^ p.toNat) = bitV al p by unfold bitV; rw [if_pos (by omega), and_mask al p (by omega) (by omega)])
  have hp : p = 1 ∨ p = 2 ∨ p = 3 ∨ p = 4 := by omega
  clear h1 h4
  rcases hp with rfl | rfl | rfl | rfl
  all_goals
    go_enter Try.func23, Try.ntmps23
    go_wp2
    go_quiet (fail)
    try go_wp2
    go_ret
    exact ⟨retInt (by rw [← e1.out]; rfl), ⟨⟨_, rfl⟩⟩⟩
theorem cellsDrew {w : World} {g : Nat} {i n : Nat} {v : Value} (h : w.cell? ⟨g, i, none⟩ = some v) : (w.drewN n).cell? ⟨g, i, none⟩ = some v := h
/-- Does port p live? -/
def upV (ps : List Int) (lv : Int → Bool) (p : Int) : Bool := decide (p ∈ ps) && lv p
/-- What a group of these ports looks like: all of the four, none twice; al tells which; what lives is of them. -/
structure Fit (ps : List Int) (al lv : Int → Bool) : Prop where
  rng : ∀ p ∈ ps, 1 ≤ p ∧ p ≤ 4
  al : ∀ p, 1 ≤ p → p ≤ 4 → al p = decide (p ∈ ps)
theorem Fit.upd {ps : List Int} {al lv : Int → Bool} (h : Fit ps al lv) (p : Int) (b : Bool) : Fit ps al (upd lv p b) := ⟨h.rng, h.al⟩
theorem Fit.bit {ps : List Int} {al lv : Int → Bool} (h : Fit ps al lv) (p : Int) (hp : p ∈ ps) : bitV al p = 2 ^ p.toNat ∧ 1 ≤ p ∧ p ≤ 4 := by
  obtain ⟨h0, h1⟩ := h.rng p hp
  refine ⟨?_, h0, h1⟩
  unfold bitV; rw [if_pos ⟨h0, h1⟩, h.al p h0 h1, decide_eq_true hp]; rfl
theorem Fit.nobit {ps : List Int} {al lv : Int → Bool} (h : Fit ps al lv) (p : Int) (hp : ¬ p ∈ ps) : bitV al p = 0 := by
  unfold bitV
  split
  · rename_i h1; rw [h.al p h1.1 h1.2, decide_eq_false hp]; rfl
  · rfl
theorem pow_ne (p : Int) (h0 : 1 ≤ p) (h1 : p ≤ 4) : ((2 : Int) ^ p.toNat) ≠ 0 := by
  obtain rfl | rfl | rfl | rfl : p = 1 ∨ p = 2 ∨ p = 3 ∨ p = 4 := by omega
  all_goals decide
theorem and_zero (f : Int → Bool) : Go.bits .and .u64 (mask f) 0 = 0 := by
  unfold mask; generalize f 1 = a; generalize f 2 = b; generalize f 3 = c; generalize f 4 = d; revert a b c d; decide
theorem Fit.up {ps : List Int} {al lv : Int → Bool} (h : Fit ps al lv) (p : Int) : (Go.bits .and .u64 (mask lv) (bitV al p) != 0) = upV ps lv p := by
  unfold upV
  by_cases hp : p ∈ ps
  · obtain ⟨e, h0, h1⟩ := h.bit p hp
    rw [e, and_mask lv p h0 h1, decide_eq_true hp]
    cases hl : lv p
    · rfl
    · simpa [bit2] using pow_ne p h0 h1
  · rw [h.nobit p hp, and_zero, decide_eq_false hp]; rfl
set_option maxHeartbeats 400000 in
theorem up_c (g B : Nat) (ps : List Int) (al lv : Int → Bool) (p : Int) (w : World) (hG : GA w B g ps al lv) (hF : Fit ps al lv) : Calls Try.prog 16 #[.pointer (some ⟨g, 0, none⟩), .int .i64 p] w fun e w' => e = .returned (.bool (upV ps lv p)) ∧ Drawn0 w w' := by
  obtain ⟨v, hg, hB, hr⟩ := hG
  obtain ⟨c0, c1, c2, c3⟩ := cells4 hg
  have E := Bx.mk (hF.up p)
  clear hg hr hF
  go_enter Try.func16, Try.ntmps16
  go_wp2_with fail
  go_region_held3 (fun w' => w'.cell? ⟨g, 1, none⟩ = some (.int .u64 (mask al)) ∧ w'.cell? ⟨g, 2, none⟩ = some (.int .u64 (mask lv)) ∧ w'.cell? ⟨g, 3, none⟩ = some (.bool true)) (first | exact ⟨c1, c2, c3⟩ | go_keep) (first | (go_at_call 22; (with_reducible refine (none_no _ _ ?hc).mono ?_); (case hc => exact c3); rintro e w' ⟨rfl, rfl⟩) | (go_at_call 23; (with_reducible refine (bit_c _ al _ _ ?hc).mono ?_); (case hc => exact c1); rintro e w1 ⟨rfl, hd⟩; obtain ⟨nd, rfl⟩ := hd.out))
  all_goals (go_wp2; go_ret; exact ⟨retBool E.out, ⟨⟨_, rfl⟩⟩⟩)
theorem GA.live {w : World} {B g : Nat} {ps : List Int} {al lv : Int → Bool} (h : GA w B g ps al lv) (f : Int → Bool) (n : Nat) : GA ((w.drewN n).setCell ⟨g, 2, none⟩ (.int .u64 (mask f))) B g ps al f := by
  obtain ⟨v, hg, hB, hr⟩ := h
  refine ⟨v, by simpa using blk_set (w := w.drewN n) hg 2 (.int .u64 (mask f)), hB, ?_⟩
  exact Kd.R_mono (Kd.R_set (w := w.drewN n) hr hg (by simp [Kd.int, Kd.scalar]) 2 _) (fun _ _ => trivial)
set_option maxHeartbeats 400000 in
theorem live_no (g B : Nat) (ps : List Int) (al lv : Int → Bool) (p : Int) (b : Bool) (w : World) (hG : GA w B g ps al lv) (hF : Fit ps al lv) (hp : ¬ p ∈ ps) :
    Calls Try.prog 10 #[.pointer (some ⟨g, 0, none⟩), .int .i64 p, .bool b] w fun e w' => e = .returned (.int .i64 9) ∧ Drawn0 w w' := by
  obtain ⟨v, hg, hB, hr⟩ := hG
  obtain ⟨c0, c1, c2, c3⟩ := cells4 hg
  have E := Bx.mk (hF.nobit p hp)
  clear hg hr hF hp
  go_enter Try.func10, Try.ntmps10
  go_wp2_with (first | (go_at_call 22; (with_reducible refine (none_no _ _ ?hc).mono ?_); (case hc => exact c3); rintro e w' ⟨rfl, rfl⟩) | (go_at_call 23; (with_reducible refine (bit_c _ al _ _ ?hc).mono ?_); (case hc => exact c1); rw [E.out]; rintro e w1 ⟨rfl, hd⟩; obtain ⟨nd, rfl⟩ := hd.out))
  go_ret
  exact ⟨rfl, ⟨⟨_, rfl⟩⟩⟩
set_option maxHeartbeats 400000 in
theorem live_up (g B : Nat) (ps : List Int) (al lv : Int → Bool) (p : Int) (w : World) (hG : GA w B g ps al lv) (hF : Fit ps al lv) (hp : p ∈ ps) :
    Calls Try.prog 10 #[.pointer (some ⟨g, 0, none⟩), .int .i64 p, .bool true] w fun e w' => e = .returned (.int .i64 0) ∧ GA w' B g ps al (upd lv p true) ∧ Only g w w' := by
  have HG := Bx.mk hG
  obtain ⟨v, hg, hB, hr⟩ := hG
  obtain ⟨c0, c1, c2, c3⟩ := cells4 hg
  have hfz := blk_frozen hg 2
  obtain ⟨e0, h0, h1⟩ := hF.bit p hp
  have E := Bx.mk e0
  have E2 := Bx.mk (or_mask lv p h0 h1)
  have E3 : ((2 : Int) ^ p.toNat == 0) = false := by simpa using pow_ne p h0 h1
  clear hg hr hF hp e0 h0 h1
  generalize (2 : Int) ^ p.toNat = q at *
  go_enter Try.func10, Try.ntmps10
  go_wp2_with (first | (go_at_call 22; (with_reducible refine (none_no _ _ ?hc).mono ?_); (case hc => exact c3); rintro e w' ⟨rfl, rfl⟩) | (go_at_call 23; (with_reducible refine (bit_c _ al _ _ ?hc).mono ?_); (case hc => exact c1); rw [E.out]; rintro e w1 ⟨rfl, hd⟩; obtain ⟨nd, rfl⟩ := hd.out))
  go_region_with (go_at_call 23; (with_reducible refine (bit_c _ al _ _ ?hc).mono ?_); (case hc => exact c1); rw [E.out]; rintro e w1 ⟨rfl, hd⟩; obtain ⟨nd2, rfl⟩ := hd.out)
  all_goals
    go_wp2
    go_ret
    refine ⟨rfl, ?_, Only.set _ _ _ _ _⟩
    rw [E2.out]
    exact GA.live HG.out _ _
set_option maxHeartbeats 400000 in
theorem live_down (g B : Nat) (ps : List Int) (al lv : Int → Bool) (p : Int) (w : World) (hG : GA w B g ps al lv) (hF : Fit ps al lv) (hp : p ∈ ps) :
    Calls Try.prog 10 #[.pointer (some ⟨g, 0, none⟩), .int .i64 p, .bool false] w fun e w' => e = .returned (.int .i64 0) ∧ GA w' B g ps al (upd lv p false) ∧ Only g w w' := by
  have HG := Bx.mk hG
  obtain ⟨v, hg, hB, hr⟩ := hG
  obtain ⟨c0, c1, c2, c3⟩ := cells4 hg
  have hfz := blk_frozen hg 2
  obtain ⟨e0, h0, h1⟩ := hF.bit p hp
  have E := Bx.mk e0
  have E2 := Bx.mk (andNot_mask lv p h0 h1)
  have E3 : ((2 : Int) ^ p.toNat == 0) = false := by simpa using pow_ne p h0 h1
  clear hg hr hF hp e0 h0 h1
  generalize (2 : Int) ^ p.toNat = q at *
  go_enter Try.func10, Try.ntmps10
  go_wp2_with (first | (go_at_call 22; (with_reducible refine (none_no _ _ ?hc).mono ?_); (case hc => exact c3); rintro e w' ⟨rfl, rfl⟩) | (go_at_call 23; (with_reducible refine (bit_c _ al _ _ ?hc).mono ?_); (case hc => exact c1); rw [E.out]; rintro e w1 ⟨rfl, hd⟩; obtain ⟨nd, rfl⟩ := hd.out))
  go_region_with (go_at_call 23; (with_reducible refine (bit_c _ al _ _ ?hc).mono ?_); (case hc => exact c1); rw [E.out]; rintro e w1 ⟨rfl, hd⟩; obtain ⟨nd2, rfl⟩ := hd.out)
  all_goals
    go_wp2
    go_ret
    refine ⟨rfl, ?_, Only.set _ _ _ _ _⟩
    rw [E2.out]
    exact GA.live HG.out _ _
/-- The first of the ports that lives. -/
def firstV (ps : List Int) (lv : Int → Bool) : Int × Bool := match ps.find? lv with
  | some p => (p, true)
  | none => (0, false)
theorem intCell {w : World} {A : Option Addr} {xs : List Int} (h : (Kd.int .i64).C w A xs.length xs) (i : Nat) (hi : i < xs.length) : ∃ ad, A = some ad ∧ w.cell? (ad.add i) = some (.int .i64 xs[i]) := by
  obtain ⟨ad, c, rfl, hcl, hk, hcc⟩ := Kd.C_get h 0 (i : Int) (by omega) (by omega)
  have hk' : c = [Value.int .i64 (xs.getD i 0)] := by simpa [Kd.int, Kd.scalar] using hk
  subst hk'
  refine ⟨ad, rfl, ?_⟩
  have := hcc 0 _ rfl
  simpa [Kd.int, Kd.scalar, hi] using this
theorem take_find_snoc (ps : List Int) (lv : Int → Bool) (i : Nat) (hi : i < ps.length) (h : (ps.take i).find? lv = none) (hn : lv ps[i] = false) : (ps.take (i + 1)).find? lv = none := by
  rw [List.take_succ_eq_append_getElem hi, List.find?_append, h]; simp [hn]
theorem find_at (ps : List Int) (lv : Int → Bool) (i : Nat) (hi : i < ps.length) (h : (ps.take i).find? lv = none) (hn : lv ps[i] = true) : firstV ps lv = (ps[i], true) := by
  have e : ps.find? lv = some ps[i] := by
    have e2 : (ps.take i ++ ps.drop i).find? lv = some ps[i] := by
      rw [List.find?_append, h, List.drop_eq_getElem_cons hi, List.find?_cons_of_pos hn]; rfl
    rwa [List.take_append_drop] at e2
  unfold firstV; rw [e]
theorem find_no (ps : List Int) (lv : Int → Bool) (h : (ps.take ps.length).find? lv = none) : firstV ps lv = (0, false) := by
  rw [List.take_length] at h; unfold firstV; rw [h]
theorem retTwo {a a' : Int} {b b' : Bool} (h : a = a') (h' : b = b') : Ending.returned (.tuple #[.int .i64 a, .bool b]) = .returned (.tuple #[.int .i64 a', .bool b']) := by rw [h, h']
set_option maxHeartbeats 800000 in
theorem first_c (g B : Nat) (ps : List Int) (al lv : Int → Bool) (w : World) (hG : GA w B g ps al lv) (hF : Fit ps al lv) (hl : ps.length ≤ 1000) :
    Calls Try.prog 12 #[.pointer (some ⟨g, 0, none⟩)] w fun e w' => e = .returned (.tuple #[.int .i64 (firstV ps lv).1, .bool (firstV ps lv).2]) ∧ Drawn0 w w' := by
  have HG := Bx.mk hG
  obtain ⟨v, hg, hB, hr⟩ := hG
  obtain ⟨c0, c1, c2, c3⟩ := cells4 hg
  obtain ⟨A, c, rfl, hlc, hC⟩ := Kd.R_reads hr
  have HC := Bx.mk hC
  have HF := Bx.mk hF
  clear hg hr hF hC
  go_enter Try.func12, Try.ntmps12
  go_wp2_with (first | (go_at_call 22; (with_reducible refine (none_no _ _ ?hc).mono ?_); (case hc => exact c3); rintro e w' ⟨rfl, rfl⟩))
  go_loopw [13] (fun v wr => ∃ i : Nat, i ≤ ps.length ∧ v = .int .i64 i ∧ Bx ((ps.take i).find? lv = none) ∧ Drawn0 w wr) (fun v _ => ps.length - (intOf v).toNat)
  case atStart => exact ⟨0, by omega, rfl, ⟨rfl⟩, Drawn0.refl _⟩
  case round =>
    obtain ⟨i, hi, rfl, HT, ⟨⟨n, rfl⟩⟩⟩ := hrel
    by_cases h : i < ps.length
    · obtain ⟨ad, rfl, hce⟩ := intCell HC.out i h
      have hmem : ps[i] ∈ ps := List.getElem_mem h
      have hup : upV ps lv ps[i] = lv ps[i] := by unfold upV; rw [decide_eq_true hmem]; rfl
      have HU := Bx.mk hup
      clear hup hmem
      have h0 : (0 : Int) ≤ (i : Int) := by omega
      have h1 : (i : Int) < (ps.length : Int) := by omega
      obtain ⟨q, hq⟩ : ∃ q, q = ps[i] := ⟨_, rfl⟩
      rw [← hq] at hce HU
      have HQ := Bx.mk hq
      clear hq
      cases hlv : lv q
      · have HL := Bx.mk hlv
        rw [hlv] at HU
        clear hlv
        go_wp2_with (first | (go_at_call 16; (with_reducible refine (up_c _ B ps al lv _ _ ?hg HF.out).mono ?_); (case hg => exact HG.out); rw [HU.out]; rintro e w1 ⟨rfl, hd⟩; obtain ⟨nd, rfl⟩ := hd.out))
        go_roundw
        case rel => exact ⟨i + 1, by omega, by go_num, ⟨take_find_snoc ps lv i h HT.out (by rw [← HQ.out]; exact HL.out)⟩, ⟨⟨_, rfl⟩⟩⟩
        case measure => simp [intOf]; omega
      · have HL := Bx.mk hlv
        rw [hlv] at HU
        clear hlv
        go_wp2_with (first | (go_at_call 16; (with_reducible refine (up_c _ B ps al lv _ _ ?hg HF.out).mono ?_); (case hg => exact HG.out); rw [HU.out]; rintro e w1 ⟨rfl, hd⟩; obtain ⟨nd, rfl⟩ := hd.out))
        go_ret2
        have hfa := find_at ps lv i h HT.out (by rw [← HQ.out]; exact HL.out)
        exact ⟨retTwo (by rw [hfa]; exact HQ.out) (by rw [hfa]), ⟨⟨_, rfl⟩⟩⟩
    · obtain rfl : i = ps.length := by omega
      go_wp2
      go_ret2
      have hfa := find_no ps lv HT.out
      exact ⟨retTwo (by rw [hfa]) (by rw [hfa]), ⟨⟨_, rfl⟩⟩⟩
theorem R_empty (W : World) (B : Nat) (hB : B ≤ W.heap.size) : (Kd.int .i64).R 3 (W.alloc (.cells #[] 3)) B (fun _ => True) (.slice (some ⟨W.heap.size, 0, none⟩) 0 0) ([] : List Int) := by
  refine ⟨fun _ _ => trivial, [], ?_, Reps.none _ _⟩
  refine ⟨rfl, .inr ⟨W.heap.size, 0, #[], rfl, hB, heap_alloc_new W _, by simp, by simp [maxLen], rfl, rfl⟩⟩
theorem info3 : (Try.prog.info? 3).map (fun i => (i.zero, i.size, i.bytes)) = some (some (.int .i64 0), 1, 8) := by kernel_rfl
set_option maxHeartbeats 400000 in
theorem clone_some (c : Nat) (a : Addr) (xs : List Int) (w : World) (hC : (Kd.int .i64).C w (some a) xs.length xs) (hl : xs.length ≤ 1000) :
    Calls Try.prog 21 #[.slice (some a) xs.length c] w fun e w' => ∃ v, e = .returned v ∧ (Kd.int .i64).R 3 w' w.heap.size (fun _ => True) v xs ∧ Below w.heap.size w w' := by
  have hu := Try.underlying22
  have hnil := fun wx => Lib.run_eql_slice_nil (P := Try.prog) wx 22 3 (some a) xs.length c 0 0 Try.underlying22
  have HC := Bx.mk hC
  clear hC
  go_enter Try.func21, Try.ntmps21
  go_wp2_with (at_builtin; refine Kd.R_append_rows (Kd.int .i64) (w0 := w) w.heap.size rfl (.tmp 5) (.tmp 6) 22 3 (.int .i64 0) 8 rfl Try.underlying22 info3 rfl (by decide) (by omega) (.slice (some ⟨w.heap.size, 0, none⟩) 0 0) ([] : List Int) xs _ _ _ (fun _ => True) (fun _ => False) rfl rfl ?aO ?aR (fun _ _ h => h) (fun _ h => h.elim) ?aF ?aB ?aS ?aL ?_; (case aO => exact R_empty w w.heap.size (Nat.le_refl _)); (case aR => exact Kd.C_alloc HC.out _); (case aF => exact fun _ _ => trivial); (case aB => exact below_alloc (Below.refl _ _) _); (case aS => simp); (case aL => simp; omega); intro v1 w1 ho hb hg hat; have HO := Bx.mk ho; have HB := Bx.mk hb; clear ho hb hg hat)
  go_ret
  exact ⟨_, rfl, HO.out, HB.out⟩
set_option maxHeartbeats 400000 in
theorem clone_nil (w : World) :
    Calls Try.prog 21 #[.slice none 0 0] w fun e w' => e = .returned (.slice none 0 0) ∧ w = w' := by
  have hnil := fun wx => Lib.run_eql_slice_nil (P := Try.prog) wx 22 3 none 0 0 0 0 Try.underlying22
  go_enter Try.func21, Try.ntmps21
  go_wp2
  go_ret
  exact ⟨rfl, rfl⟩
end Go.Proofs.Ytcfojkejajanlaa.Base
