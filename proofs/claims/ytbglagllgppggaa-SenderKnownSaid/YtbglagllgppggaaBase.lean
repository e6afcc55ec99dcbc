/- Layer 13: what a sender is in memory; New, Left, Said, Next, Clone, by their contracts. -/
import Derived.Test.YtbglagllgppggaaComm
import Derived.Deep.QuietTactic
import Derived.BigQuiet
import Derived.StillTailTactics
import Derived.Deep.RegionHeld3
import Derived.Deep.AppendLies
set_option linter.unusedVariables false
set_option linter.unusedSimpArgs false
namespace Go.Proofs.Ytbglagllgppggaa.Base
open Go.RowKit Go.Proofs.YtbglagllgppggaaW.PrintWords Go.Proofs.YtbglagllgppggaaW.PrintLast Go.Proofs.YtbglagllgppggaaW.PrintMore
open Go.Proofs.Ytbglagllgppggaa.Comm Go.Proofs.Ytbglagllgppggaa.PSenderPlays

/-- A fact that is no rewrite rule. -/
structure Bx (p : Prop) : Prop where mk :: (out : p)
/-- Rows of bytes. -/
abbrev bk : Kd (List Int) := Kd.slice 5 (Kd.int .u8)
/-- What lies in the window's channel. -/
def toks (n : Nat) : Array Value := Array.replicate n (.agg #[])
/-- A sender: its block g, its channel ch, the window, the next number, the messages, how many are said, how many there were. Its own rows lie in blocks of which M is true, from B on. -/
structure SA (B : Nat) (M : Nat → Prop) (w : World) (g ch W : Nat) (nx : Int) (ms : List (List Int)) (sd : Nat) (al : Nat) : Prop where
  hg : ∃ v, w.heap[g]? = some (.cells #[.chan (some ch), .int .u16 nx, v, .int .i64 (sd : Int), .int .i64 (al : Int)] 45 (0, 0)) ∧ bk.Q 31 w B M v ms
  hc : ∃ s r, w.heap[ch]? = some (.chan W (toks sd) false s r false)
  n0 : 0 ≤ nx
  n1 : nx ≤ 65535
  w1 : 1 ≤ W
  w4 : W ≤ 4
  s1 : sd ≤ W
  s2 : sd ≤ ms.length
  m5 : ms.length ≤ 512
  a1 : al ≤ 20000
  hm : ∀ m ∈ ms, 1 ≤ m.length ∧ m.length ≤ 256
  mg : ¬ M g
  mc : ¬ M ch
  bg : B ≤ g
  bc : B ≤ ch
  bM : ∀ k, M k → B ≤ k
theorem wrapu16 (x : Int) : IntKind.u16.wrap x = x % 65536 := by
  have h : IntKind.u16.wrap x = x % 2 ^ 16 := by simp [IntKind.wrap, IntKind.signed, IntKind.bits]
  rw [h]; rfl
theorem w64 {n : Int} (h : -9223372036854775808 ≤ n ∧ n ≤ 9223372036854775807) : wrap64 n = n := by
  unfold wrap64; omega
section
variable {B : Nat} {M : Nat → Prop} {w w' : World} {g ch W : Nat} {nx : Int} {ms : List (List Int)} {sd al : Nat}
theorem SA.glt (h : SA B M w g ch W nx ms sd al) : g < w.heap.size := by obtain ⟨v, h1, _⟩ := h.hg; exact blk_lt h1
theorem SA.clt (h : SA B M w g ch W nx ms sd al) : ch < w.heap.size := by obtain ⟨s, r, h1⟩ := h.hc; exact blk_lt h1
theorem SA.ne (h : SA B M w g ch W nx ms sd al) : g ≠ ch := by
  rintro rfl
  obtain ⟨v, h1, _⟩ := h.hg
  obtain ⟨s, r, h2⟩ := h.hc
  rw [h1] at h2; cases h2
/-- What is elsewhere may turn. -/
theorem SA.kept (h : SA B M w g ch W nx ms sd al) (hk : ∀ k, k < w.heap.size → (M k ∨ k = g ∨ k = ch) → w'.heap[k]? = w.heap[k]?) : SA B M w' g ch W nx ms sd al := by
  obtain ⟨v, h1, h2⟩ := h.hg
  obtain ⟨s, r, h3⟩ := h.hc
  exact { h with hg := ⟨v, (hk g h.glt (.inr (.inl rfl))).trans h1, Kd.Q_step h2 (fun k hM hlt => hk k hlt (.inl hM))⟩, hc := ⟨s, r, (hk ch h.clt (.inr (.inr rfl))).trans h3⟩ }
theorem SA.below (h : SA B M w g ch W nx ms sd al) (hb : Below w.heap.size w w') : SA B M w' g ch W nx ms sd al := h.kept (fun k hk _ => hb.block k hk)
theorem SA.mono {M' : Nat → Prop} (h : SA B M w g ch W nx ms sd al) (hM : ∀ k, M k → M' k) (hg : ¬ M' g) (hc : ¬ M' ch) (hB : ∀ k, M' k → B ≤ k) : SA B M' w g ch W nx ms sd al := by
  obtain ⟨v, h1, h2⟩ := h.hg
  exact { h with hg := ⟨v, h1, Kd.Q_mono h2 hM⟩, mg := hg, mc := hc, bM := hB }
end
/-- Blocks of which S is true may have turned, and there are new ones. -/
structure Fr (S : Nat → Prop) (w w' : World) : Prop where
  os : w'.os = w.os
  tape : w'.tape = w.tape
  output : w'.output = w.output
  size : w.heap.size ≤ w'.heap.size
  block : ∀ k, k < w.heap.size → ¬ S k → w'.heap[k]? = w.heap[k]?
theorem Fr.refl (S : Nat → Prop) (w : World) : Fr S w w := ⟨rfl, rfl, rfl, Nat.le_refl _, fun _ _ _ => rfl⟩
theorem Fr.trans {S : Nat → Prop} {u v w : World} (h : Fr S u v) (k : Fr S v w) : Fr S u w :=
  ⟨k.os.trans h.os, k.tape.trans h.tape, k.output.trans h.output, Nat.le_trans h.size k.size, fun i hi h1 => (k.block i (Nat.lt_of_lt_of_le hi h.size) h1).trans (h.block i hi h1)⟩
theorem Fr.of_below {S : Nat → Prop} {v w : World} (h : Below v.heap.size v w) : Fr S v w := ⟨h.os, h.tape, h.output, h.size, fun i hi _ => h.block i hi⟩
theorem Fr.below {S : Nat → Prop} {B : Nat} {w0 w w' : World} (h : Fr S w w') (hb : Below B w0 w) (hB : B ≤ w.heap.size) (hS : ∀ k, S k → B ≤ k) : Below B w0 w' :=
  hb.trans ⟨h.os, h.tape, h.output, h.size, fun k hk => h.block k (by omega) (fun hs => by have := hS k hs; omega)⟩
theorem Fr.mono {S S' : Nat → Prop} {w w' : World} (h : Fr S w w') (hS : ∀ k, S k → S' k) : Fr S' w w' := ⟨h.os, h.tape, h.output, h.size, fun k hk hn => h.block k hk (fun hs => hn (hS k hs))⟩
theorem Fr.set (S : Nat → Prop) (w : World) (g i : Nat) (u : Value) (hg : S g) : Fr S w (w.setCell ⟨g, i, none⟩ u) :=
  ⟨rfl, rfl, rfl, by simp [World.setCell], fun k _ hk => Below.heap_setCell w ⟨g, i, none⟩ u k (fun e => hk (by have e' : k = g := e; rw [e']; exact hg))⟩
theorem Fr.grown {S : Nat → Prop} {w w' : World} {row : Option Nat} (h : w.grownBy w' row) (hS : ∀ k, row = some k → S k) : Fr S w w' :=
  ⟨h.os, h.tape, h.output, h.size, fun k hk hn => h.block k hk (fun e => hn (hS k e.symm))⟩
theorem eqIn (w : World) (d : Nat) (c : Option Nat) : (Op.equalIn (d + 1) 41 (.chan c) (.chan none)).run Try.prog w = .ok c.isNone w := by
  cases c <;> simp [Op.equalIn, run_underlying Try.underlying41]
theorem eqC (w : World) (c : Option Nat) : (binOp .eql 41 (.chan c) (.chan none)).run Try.prog w = .ok (.bool c.isNone) w := by
  simp only [binOp]
  simp [Op.equal, Op.maxDepth, eqIn w 9999 c]
theorem none_no (g ch : Nat) (w : World) (h : w.cell? ⟨g, 0, none⟩ = some (.chan (some ch))) : Calls Try.prog 24 #[.pointer (some ⟨g, 0, none⟩)] w fun e w' => e = .returned (.bool false) ∧ w = w' := by
  have hq := eqC
  go_enter Try.func24, Try.ntmps24
  go_wp2
  go_ret
  exact ⟨rfl, rfl⟩
theorem none_nil (w : World) : Calls Try.prog 24 #[.pointer none] w fun e w' => e = .returned (.bool true) ∧ w = w' := by
  go_enter Try.func24, Try.ntmps24
  go_wp2
  go_ret
  exact ⟨rfl, rfl⟩
theorem none_zero (g : Nat) (w : World) (h : w.cell? ⟨g, 0, none⟩ = some (.chan none)) : Calls Try.prog 24 #[.pointer (some ⟨g, 0, none⟩)] w fun e w' => e = .returned (.bool true) ∧ w = w' := by
  have hq := eqC
  go_enter Try.func24, Try.ntmps24
  go_wp2
  go_ret
  exact ⟨rfl, rfl⟩
theorem elem57 : (Try.prog.info? 57).map (fun i => i.bytes) = some 0 := by kernel_rfl
theorem makeC (n : Nat) (h : n ≤ 4) (w : World) : (Instr.makeChan 41 (.int .i64 n)).run Try.prog w = .ok (.chan (some w.heap.size)) (w.alloc (.chan n #[] false 0 0 false)) := by
  obtain ⟨i, hi, hb⟩ := Option.map_eq_some_iff.1 elem57
  exact Go.Conc.run_makeChan Try.underlying41 hi .i64 n (by omega) (by rw [hb]; omega)
theorem new_yes (W : Nat) (nx : Int) (w : World) (M : Nat → Prop) (W1 : 1 ≤ W) (W4 : W ≤ 4) (h0 : 0 ≤ nx) (h1 : nx ≤ 65535) (hM : ∀ k, ¬ M k) :
    Calls Try.prog 9 #[.int .i64 (W : Int), .int .i64 nx] w fun e w' => e = .returned (.tuple #[.pointer (some ⟨w.heap.size + 1, 0, none⟩), .int .i64 0]) ∧ SA w.heap.size M w' (w.heap.size + 1) w.heap.size W nx [] 0 0 ∧ Below w.heap.size w w' := by
  have hu := Try.underlying45
  have hmc := makeC W W4
  have hr : IntKind.u16.wrap nx = nx := by rw [wrapu16]; omega
  have p1 : (1 : Int) ≤ (W : Int) := by omega
  have p4 : (W : Int) ≤ 4 := by omega
  go_enter Try.func9, Try.ntmps9
  go_wp2
  go_ret2
  refine ⟨rfl, ⟨⟨.slice none 0 0, ?_, Kd.Q_nil _ _ _ _ _⟩, ⟨0, 0, ?_⟩, h0, h1, W1, W4, by omega, by simp, by simp, by omega, by simp, hM _, hM _, by omega, by omega, fun k hk => absurd hk (hM k)⟩, ((Below.refl _ w).alloc (Nat.le_refl _) _).alloc (by simp) _⟩
  · have := heap_alloc_new (w.alloc (.chan W #[] false 0 0 false)) (.cells #[.chan (some w.heap.size), .int .u16 nx, .slice none 0 0, .int .i64 0, .int .i64 0] 45)
    rwa [World.size_alloc] at this
  · exact blk_alloc (heap_alloc_new w _) _
theorem new_no (W nx : Int) (w : World) (h : ¬ (1 ≤ W ∧ W ≤ 4 ∧ 0 ≤ nx ∧ nx ≤ 65535)) : Calls Try.prog 9 #[.int .i64 W, .int .i64 nx] w fun e w' => e = .returned (.tuple #[.pointer none, .int .i64 2]) ∧ w = w' := by
  by_cases h1 : W < 1
  · clear h
    go_enter Try.func9, Try.ntmps9
    go_wp2
    go_ret2
    exact ⟨rfl, rfl⟩
  by_cases h2 : 4 < W
  · clear h
    go_enter Try.func9, Try.ntmps9
    go_wp2
    go_ret2
    exact ⟨rfl, rfl⟩
  by_cases h3 : nx < 0
  · clear h
    go_enter Try.func9, Try.ntmps9
    go_wp2
    go_ret2
    exact ⟨rfl, rfl⟩
  have h4 : 65535 < nx := by omega
  clear h
  go_enter Try.func9, Try.ntmps9
  go_wp2
  go_ret2
  exact ⟨rfl, rfl⟩
section
variable {B : Nat} {M : Nat → Prop} {w w' : World} {g ch W : Nat} {nx : Int} {ms : List (List Int)} {sd al : Nat}
theorem SA.cells (h : SA B M w g ch W nx ms sd al) : ∃ A c, w.heap[g]? = some (.cells #[.chan (some ch), .int .u16 nx, .slice A ms.length c, .int .i64 (sd : Int), .int .i64 (al : Int)] 45 (0, 0)) ∧ bk.Q 31 w B M (.slice A ms.length c) ms ∧ ms.length ≤ c ∧ bk.C w A ms.length ms ∧
    w.cell? ⟨g, 0, none⟩ = some (.chan (some ch)) ∧ w.cell? ⟨g, 1, none⟩ = some (.int .u16 nx) ∧ w.cell? ⟨g, 2, none⟩ = some (.slice A ms.length c) ∧ w.cell? ⟨g, 3, none⟩ = some (.int .i64 (sd : Int)) ∧ w.cell? ⟨g, 4, none⟩ = some (.int .i64 (al : Int)) := by
  obtain ⟨v, h1, h2⟩ := h.hg
  obtain ⟨A, c, rfl, hc, hC⟩ := Kd.Q_reads h2
  exact ⟨A, c, h1, h2, hc, hC, cell_of_row w g 0 _ _ (0, 0) h1, cell_of_row w g 1 _ _ (0, 0) h1, cell_of_row w g 2 _ _ (0, 0) h1, cell_of_row w g 3 _ _ (0, 0) h1, cell_of_row w g 4 _ _ (0, 0) h1⟩
theorem left_c (h : SA B M w g ch W nx ms sd al) : Calls Try.prog 15 #[.pointer (some ⟨g, 0, none⟩)] w fun e w' => e = .returned (.int .i64 (ms.length : Int)) ∧ w = w' := by
  obtain ⟨A, c, _, _, _, _, c0, c1, c2, c3, c4⟩ := h.cells
  clear h
  go_enter Try.func15, Try.ntmps15
  go_wp2_with (go_at_call 24; (with_reducible refine (none_no _ ch _ ?hc).mono ?_); (case hc => exact c0); rintro e w' ⟨rfl, rfl⟩)
  go_ret
  exact ⟨rfl, rfl⟩
theorem said_c (h : SA B M w g ch W nx ms sd al) : Calls Try.prog 16 #[.pointer (some ⟨g, 0, none⟩)] w fun e w' => e = .returned (.int .i64 (sd : Int)) ∧ w = w' := by
  obtain ⟨A, c, _, _, _, _, c0, c1, c2, c3, c4⟩ := h.cells
  clear h
  go_enter Try.func16, Try.ntmps16
  go_wp2_with (go_at_call 24; (with_reducible refine (none_no _ ch _ ?hc).mono ?_); (case hc => exact c0); rintro e w' ⟨rfl, rfl⟩)
  go_ret
  exact ⟨rfl, rfl⟩
theorem next_c (h : SA B M w g ch W nx ms sd al) : Calls Try.prog 17 #[.pointer (some ⟨g, 0, none⟩)] w fun e w' => e = .returned (.int .i64 nx) ∧ w = w' := by
  obtain ⟨A, c, _, _, _, _, c0, c1, c2, c3, c4⟩ := h.cells
  have h0 := h.n0
  have h1 := h.n1
  have hr : wrap64 nx = nx := by unfold wrap64; omega
  clear h
  go_enter Try.func17, Try.ntmps17
  go_wp2_with (go_at_call 24; (with_reducible refine (none_no _ ch _ ?hc).mono ?_); (case hc => exact c0); rintro e w' ⟨rfl, rfl⟩)
  go_ret
  exact ⟨rfl, rfl⟩
end
end Go.Proofs.Ytbglagllgppggaa.Base
