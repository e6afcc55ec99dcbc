/- Layer 13: the document's sender: what it is in memory; New, Left, Said, Next, Put, Heard, by their contracts. -/
import Derived.Test.YtbglagllgppggaaFull
set_option linter.unusedVariables false
set_option linter.unusedSimpArgs false
namespace Go.Proofs.Ytbglagllgppggaa.Base
open Go.RowKit Go.Proofs.YtbglagllgppggaaW.PrintWords Go.Proofs.YtbglagllgppggaaW.PrintLast Go.Proofs.YtbglagllgppggaaW.PrintMore
open Go.Proofs.Ytbglagllgppggaa.Comm Go.Proofs.Ytbglagllgppggaa.PSenderPlays

/-- The document's sender: its block r; its rows lie in blocks of which M is true. -/
structure RA (B : Nat) (M : Nat → Prop) (w : World) (r W : Nat) (nx : Int) (ms : List (List Int)) (sd : Nat) (al : Nat) : Prop where
  hr : ∃ v, w.heap[r]? = some (.cells #[.int .i64 (W : Int), .int .i64 nx, v, .int .i64 (sd : Int), .int .i64 (al : Int)] 63 (0, 0)) ∧ bk.Q 31 w B M v ms
  n0 : 0 ≤ nx
  n1 : nx ≤ 65535
  w1 : 1 ≤ W
  w4 : W ≤ 4
  s1 : sd ≤ W
  s2 : sd ≤ ms.length
  m5 : ms.length ≤ 512
  a1 : al ≤ 20000
  hm : ∀ m ∈ ms, 1 ≤ m.length ∧ m.length ≤ 256
  mr : ¬ M r
  br : B ≤ r
  bM : ∀ k, M k → B ≤ k
section
variable {B : Nat} {M : Nat → Prop} {w w' : World} {r W : Nat} {nx : Int} {ms : List (List Int)} {sd al : Nat}
theorem RA.rlt (h : RA B M w r W nx ms sd al) : r < w.heap.size := by obtain ⟨v, h1, _⟩ := h.hr; exact blk_lt h1
theorem RA.kept (h : RA B M w r W nx ms sd al) (hk : ∀ k, k < w.heap.size → (M k ∨ k = r) → w'.heap[k]? = w.heap[k]?) : RA B M w' r W nx ms sd al := by
  obtain ⟨v, h1, h2⟩ := h.hr
  exact { h with hr := ⟨v, (hk r h.rlt (.inr rfl)).trans h1, Kd.Q_step h2 (fun k hM hlt => hk k hlt (.inl hM))⟩ }
theorem RA.below (h : RA B M w r W nx ms sd al) (hb : Below w.heap.size w w') : RA B M w' r W nx ms sd al := h.kept (fun k hk _ => hb.block k hk)
theorem RA.mono {M' : Nat → Prop} (h : RA B M w r W nx ms sd al) (hM : ∀ k, M k → M' k) (hr : ¬ M' r) (hB : ∀ k, M' k → B ≤ k) : RA B M' w r W nx ms sd al := by
  obtain ⟨v, h1, h2⟩ := h.hr
  exact { h with hr := ⟨v, h1, Kd.Q_mono h2 hM⟩, mr := hr, bM := hB }
theorem RA.tight (h : RA B M w r W nx ms sd al) : RA B (fun k => M k ∧ k < w.heap.size) w r W nx ms sd al := by
  obtain ⟨v, h1, h2⟩ := h.hr
  exact { h with hr := ⟨v, h1, Kd.Q_mono (Kd.Q_bound h2) (fun k hk => ⟨hk.1, hk.2.2.1⟩)⟩, mr := fun hk => h.mr hk.1, bM := fun k hk => h.bM k hk.1 }
theorem RA.cells (h : RA B M w r W nx ms sd al) : ∃ A c, w.heap[r]? = some (.cells #[.int .i64 (W : Int), .int .i64 nx, .slice A ms.length c, .int .i64 (sd : Int), .int .i64 (al : Int)] 63 (0, 0)) ∧ bk.Q 31 w B M (.slice A ms.length c) ms ∧ ms.length ≤ c ∧ bk.C w A ms.length ms ∧
    w.cell? ⟨r, 0, none⟩ = some (.int .i64 (W : Int)) ∧ w.cell? ⟨r, 1, none⟩ = some (.int .i64 nx) ∧ w.cell? ⟨r, 2, none⟩ = some (.slice A ms.length c) ∧ w.cell? ⟨r, 3, none⟩ = some (.int .i64 (sd : Int)) ∧ w.cell? ⟨r, 4, none⟩ = some (.int .i64 (al : Int)) := by
  obtain ⟨v, h1, h2⟩ := h.hr
  obtain ⟨A, c, rfl, hc, hC⟩ := Kd.Q_reads h2
  exact ⟨A, c, h1, h2, hc, hC, cell_of_row w r 0 _ _ (0, 0) h1, cell_of_row w r 1 _ _ (0, 0) h1, cell_of_row w r 2 _ _ (0, 0) h1, cell_of_row w r 3 _ _ (0, 0) h1, cell_of_row w r 4 _ _ (0, 0) h1⟩
theorem rnew_yes (B W : Nat) (nx : Int) (w : World) (hB : B ≤ w.heap.size) (W1 : 1 ≤ W) (W4 : W ≤ 4) (h0 : 0 ≤ nx) (h1 : nx ≤ 65535) :
    Calls Try.prog 18 #[.int .i64 (W : Int), .int .i64 nx] w fun e w' => e = .returned (.tuple #[.pointer (some ⟨w.heap.size, 0, none⟩), .int .i64 0]) ∧ RA B (fun _ => False) w' w.heap.size W nx [] 0 0 ∧ Below w.heap.size w w' := by
  have hu := Try.underlying63
  have p1 : ¬ (W : Int) < (1 : Int) := by omega
  have p4 : ¬ (4 : Int) < (W : Int) := by omega
  have p5 : ¬ nx < 0 := by omega
  have p6 : ¬ 65535 < nx := by omega
  go_enter Try.func18, Try.ntmps18
  go_wp2
  go_ret2
  refine ⟨rfl, ⟨⟨.slice none 0 0, ?_, Kd.Q_nil _ _ _ _ _⟩, h0, h1, W1, W4, by omega, by simp, by simp, by omega, by simp, fun h => h, hB, fun k hk => hk.elim⟩, (Below.refl _ w).alloc (Nat.le_refl _) _⟩
  exact heap_alloc_new w _
theorem rnew_no (W nx : Int) (w : World) (h : ¬ (1 ≤ W ∧ W ≤ 4 ∧ 0 ≤ nx ∧ nx ≤ 65535)) : Calls Try.prog 18 #[.int .i64 W, .int .i64 nx] w fun e w' => e = .returned (.tuple #[.pointer none, .int .i64 2]) ∧ w = w' := by
  by_cases h1 : W < 1
  · clear h
    go_enter Try.func18, Try.ntmps18
    go_wp2
    go_ret2
    exact ⟨rfl, rfl⟩
  by_cases h2 : 4 < W
  · clear h
    go_enter Try.func18, Try.ntmps18
    go_wp2
    go_ret2
    exact ⟨rfl, rfl⟩
  by_cases h3 : nx < 0
  · clear h
    go_enter Try.func18, Try.ntmps18
    go_wp2
    go_ret2
    exact ⟨rfl, rfl⟩
  have h4 : 65535 < nx := by omega
  clear h
  go_enter Try.func18, Try.ntmps18
  go_wp2
  go_ret2
  exact ⟨rfl, rfl⟩
theorem rleft_c (h : RA B M w r W nx ms sd al) : Calls Try.prog 20 #[.pointer (some ⟨r, 0, none⟩)] w fun e w' => e = .returned (.int .i64 (ms.length : Int)) ∧ w = w' := by
  obtain ⟨A, c, _, _, _, _, c0, c1, c2, c3, c4⟩ := h.cells
  clear h
  go_enter Try.func20, Try.ntmps20
  go_wp2
  go_ret
  exact ⟨rfl, rfl⟩
theorem rsaid_c (h : RA B M w r W nx ms sd al) : Calls Try.prog 21 #[.pointer (some ⟨r, 0, none⟩)] w fun e w' => e = .returned (.int .i64 (sd : Int)) ∧ w = w' := by
  obtain ⟨A, c, _, _, _, _, c0, c1, c2, c3, c4⟩ := h.cells
  clear h
  go_enter Try.func21, Try.ntmps21
  go_wp2
  go_ret
  exact ⟨rfl, rfl⟩
theorem rnext_c (h : RA B M w r W nx ms sd al) : Calls Try.prog 22 #[.pointer (some ⟨r, 0, none⟩)] w fun e w' => e = .returned (.int .i64 nx) ∧ w = w' := by
  obtain ⟨A, c, _, _, _, _, c0, c1, c2, c3, c4⟩ := h.cells
  clear h
  go_enter Try.func22, Try.ntmps22
  go_wp2
  go_ret
  exact ⟨rfl, rfl⟩
theorem rput_arg (A : Option Addr) (n c : Nat) (h : RA B M w r W nx ms sd al) (hn : n < 1 ∨ 256 < n) : Calls Try.prog 29 #[.pointer (some ⟨r, 0, none⟩), .slice A n c] w fun e w' => e = .returned (.int .i64 2) ∧ w = w' := by
  obtain ⟨_, _, _, _, _, _, c0, c1, c2, c3, c4⟩ := h.cells
  clear h
  by_cases h1 : n < 1
  · have p1 : (n : Int) < 1 := by omega
    clear hn
    go_enter Try.func29, Try.ntmps29
    go_wp2
    go_ret
    exact ⟨rfl, rfl⟩
  · have p1 : ¬ (n : Int) < 1 := by omega
    have p2 : (256 : Int) < (n : Int) := by omega
    clear hn
    go_enter Try.func29, Try.ntmps29
    go_wp2
    go_ret
    exact ⟨rfl, rfl⟩
set_option maxRecDepth 100000 in
theorem rput_limit (A : Option Addr) (n c : Nat) (h : RA B M w r W nx ms sd al) (h1 : 1 ≤ n) (h2 : n ≤ 256) (h3 : 20000 ≤ al) : Calls Try.prog 29 #[.pointer (some ⟨r, 0, none⟩), .slice A n c] w fun e w' => e = .returned (.int .i64 5) ∧ w = w' := by
  obtain ⟨_, _, _, _, _, _, c0, c1, c2, c3, c4⟩ := h.cells
  clear h
  have p1 : ¬ (n : Int) < 1 := by omega
  have p2 : ¬ (256 : Int) < (n : Int) := by omega
  have p3 : decide ((20000 : Int) ≤ (al : Int)) = true := decide_eq_true (by omega)
  clear h1 h2 h3
  go_enter Try.func29, Try.ntmps29
  go_wp2
  go_ret
  exact ⟨rfl, rfl⟩
set_option maxRecDepth 100000 in
theorem rput_full (A : Option Addr) (n c : Nat) (h : RA B M w r W nx ms sd al) (h1 : 1 ≤ n) (h2 : n ≤ 256) (h3 : al < 20000) (h4 : 512 ≤ ms.length) : Calls Try.prog 29 #[.pointer (some ⟨r, 0, none⟩), .slice A n c] w fun e w' => e = .returned (.int .i64 7) ∧ w = w' := by
  obtain ⟨_, _, _, _, _, _, c0, c1, c2, c3, c4⟩ := h.cells
  clear h
  have p1 : ¬ (n : Int) < 1 := by omega
  have p2 : ¬ (256 : Int) < (n : Int) := by omega
  have p3 : decide ((20000 : Int) ≤ (al : Int)) = false := decide_eq_false (by omega)
  have p4 : decide ((512 : Int) ≤ (ms.length : Int)) = true := decide_eq_true (by omega)
  clear h1 h2 h3 h4
  go_enter Try.func29, Try.ntmps29
  go_wp2
  go_ret
  exact ⟨rfl, rfl⟩
theorem copy_c (A : Option Addr) (c : Nat) (bs : List Int) (w : World) (hC : (Kd.int .u8).C w A bs.length bs) (hc : bs.length ≤ c) (hl : bs.length < 140737488355328) :
    Calls Try.prog 28 #[.slice A bs.length c] w fun e w' => ∃ v, e = .returned v ∧ (Kd.int .u8).R 5 w' w.heap.size (fun _ => True) v bs ∧ Below w.heap.size w w' :=
  catenaryref00_CopyBytes.calls A c bs bs w hC hc (by unfold catenaryref00_CopyBytes.f; rw [if_pos (by simpa using hl)]; simp)
end
end Go.Proofs.Ytbglagllgppggaa.Base
